/-
  Contracts of slices.Index and slices.Contains at integers.
  By an AI agent.
-/
import Derived.Test.YtjnjlpljakkakaaInts
namespace Go.Proofs.Ytjnjlpljakkakaa
open Go.ChangeShapes Go.WideShapes Go.ChangeAt Go.RowKit
set_option maxRecDepth 100000
set_option linter.unusedVariables false

/-- What Index finds: a number where x is there, -1 where it is not. -/
def IdxP (L : List Int) (x : Int) (e : Ending) : Prop := ∃ z : Int, e = .returned (.int .i64 z) ∧ ((L.contains x = true ∧ 0 ≤ z) ∨ (L.contains x = false ∧ z = -1))
theorem index_int (a : Option Addr) (n c : Nat) (L : List Int) (x : Int) (w : World) (hl : L.length = n) (hm : n ≤ 1048576) (hR : SlR w a n (ic L)) :
    Calls Try.prog 57 #[.slice a n c, .int .i64 x] w fun e w' => IdxP L x e ∧ w = w' := by
  have HR := Lib.hid hR
  have HL := Lib.hid hl
  clear hR hl
  go_enter Try.func57, Try.ntmps57
  go_wp2
  go_loop [8] (fun i => ∃ k : Nat, k ≤ n ∧ i = .int .i64 k ∧ (∀ j, j < k → L.getD j 0 ≠ x)) (fun i => n - (intOf i).toNat)
  case atStart => exact ⟨0, Nat.zero_le _, rfl, fun j h => absurd h (Nat.not_lt_zero j)⟩
  case round =>
    obtain ⟨k, hk, rfl, hok⟩ := hrel
    have HO := Lib.hid hok
    clear hok
    by_cases hlt : k < n
    · obtain ⟨g, rfl, hr⟩ := HR.out.row (by omega)
      have c0 := hr.cell hlt
      unfold ic at c0
      clear hr
      by_cases hx : L.getD k 0 = x
      · have HV : Hid (L.contains x = true) := Lib.hid (by
          rw [List.contains_iff_mem, ← hx, getD_at _ _ (by rw [HL.out]; exact hlt)]
          exact List.getElem_mem _)
        have hx' : (x == L.getD k 0) = true := by simpa using hx.symm
        clear HO hx
        generalize L.getD k 0 = q at c0 hx'
        go_wp2
        go_ret
        exact ⟨⟨_, rfl, .inl ⟨HV.out, by omega⟩⟩, rfl⟩
      · have HO2 : Hid (∀ j, j < k + 1 → L.getD j 0 ≠ x) := Lib.hid (by
          intro j hj
          by_cases e : j = k
          · rw [e]; exact hx
          · exact HO.out j (by omega))
        have hx' : (x == L.getD k 0) = false := by simpa using (Ne.symm hx)
        clear HO hx
        generalize L.getD k 0 = q at c0 hx'
        go_wp2
        go_round
        case rel => exact ⟨k + 1, by omega, by go_num, HO2.out⟩
        case measure => simp [intOf]; omega
    · have HV : Hid (L.contains x = false) := Lib.hid (by
        cases e : L.contains x
        · rfl
        · rw [List.contains_iff_mem] at e
          obtain ⟨j, hj, hjx⟩ := List.mem_iff_getElem.1 e
          exact absurd (by rw [getD_at _ _ hj]; exact hjx) (HO.out j (by rw [HL.out] at hj; omega)))
      go_wp2
      go_ret
      exact ⟨⟨_, rfl, .inr ⟨HV.out, rfl⟩⟩, rfl⟩
theorem contains_int (a : Option Addr) (n c : Nat) (L : List Int) (x : Int) (w : World) (hl : L.length = n) (hm : n ≤ 1048576) (hR : SlR w a n (ic L)) (b : Bool) (hb : L.contains x = b) :
    Calls Try.prog 39 #[.slice a n c, .int .i64 x] w fun e w' => e = .returned (.bool b) ∧ w = w' := by
  have HR := Lib.hid hR
  have HL := Lib.hid hl
  have HB := Lib.hid hb
  clear hR hl hb
  cases b
  · go_enter Try.func39, Try.ntmps39
    go_wp2_with fail
    refine (index_int _ _ _ L _ _ HL.out hm HR.out).mono ?_
    rintro e w' ⟨⟨z, rfl, hz⟩, rfl⟩
    have hz' : z = -1 := by
      rcases hz with ⟨h, _⟩ | ⟨_, h⟩
      · rw [HB.out] at h; cases h
      · exact h
    subst hz'
    clear hz
    go_wp2_with fail
    go_ret
    exact ⟨rfl, rfl⟩
  · go_enter Try.func39, Try.ntmps39
    go_wp2_with fail
    refine (index_int _ _ _ L _ _ HL.out hm HR.out).mono ?_
    rintro e w' ⟨⟨z, rfl, hz⟩, rfl⟩
    have hz' : 0 ≤ z := by
      rcases hz with ⟨_, h⟩ | ⟨h, _⟩
      · exact h
      · rw [HB.out] at h; cases h
    clear hz
    go_wp2_with fail
    go_ret
    exact ⟨rfl, rfl⟩

end Go.Proofs.Ytjnjlpljakkakaa
