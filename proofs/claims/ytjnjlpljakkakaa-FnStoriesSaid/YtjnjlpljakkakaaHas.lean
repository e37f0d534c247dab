/-
  Contract of laws.has.
  By an AI agent.
-/
import Derived.Test.YtjnjlpljakkakaaInts
namespace Go.Proofs.Ytjnjlpljakkakaa
open Go.ChangeShapes Go.WideShapes Go.ChangeAt Go.RowKit
set_option maxRecDepth 100000
set_option linter.unusedVariables false

theorem has_any (a : Option Addr) (n c : Nat) (L : List Int) (x : Int) (w : World) (hl : L.length = n) (hm : n ≤ 1048576) (hR : SlR w a n (ic L)) (v : Bool) (hv : L.contains x = v) :
    Calls Try.prog 34 #[.slice a n c, .int .i64 x] w fun e w' => e = .returned (.bool v) ∧ w = w' := by
  have HR := Lib.hid hR
  have HL := Lib.hid hl
  have HVV := Lib.hid hv
  clear hR hl hv
  go_enter Try.func34, Try.ntmps34
  go_wp2
  go_loop [5] (fun i => ∃ k : Nat, k ≤ n ∧ i = .int .i64 k ∧ (∀ j, j < k → L.getD j 0 ≠ x)) (fun i => n - (intOf i).toNat)
  case atStart => exact ⟨0, Nat.zero_le _, rfl, fun j h => absurd h (Nat.not_lt_zero j)⟩
  case round =>
    obtain ⟨k, hk, rfl, hok⟩ := hrel
    have HO := Lib.hid hok
    clear hok
    by_cases hlt : k < n
    · obtain ⟨g, rfl, hr⟩ := HR.out.row (by omega)
      have c0 := hr.cell hlt
      unfold ic at c0
      clear hr
      by_cases hx : L.getD k 0 = x
      · have HV : Hid (v = true) := Lib.hid (by
          rw [← HVV.out, List.contains_iff_mem, ← hx, getD_at _ _ (by rw [HL.out]; exact hlt)]
          exact List.getElem_mem _)
        have hx' : (L.getD k 0 == x) = true := by simpa using hx
        clear HO hx
        generalize L.getD k 0 = q at c0 hx'
        go_wp2
        go_ret
        exact ⟨ret_bool HV.out.symm, rfl⟩
      · have HO2 : Hid (∀ j, j < k + 1 → L.getD j 0 ≠ x) := Lib.hid (by
          intro j hj
          by_cases e : j = k
          · rw [e]; exact hx
          · exact HO.out j (by omega))
        have hx' : (L.getD k 0 == x) = false := by simpa using hx
        clear HO hx
        generalize L.getD k 0 = q at c0 hx'
        go_wp2
        go_round
        case rel => exact ⟨k + 1, by omega, by go_num, HO2.out⟩
        case measure => simp [intOf]; omega
    · have HV : Hid (v = false) := Lib.hid (by
        rw [← HVV.out]
        cases e : L.contains x
        · rfl
        · rw [List.contains_iff_mem] at e
          obtain ⟨j, hj, hjx⟩ := List.mem_iff_getElem.1 e
          exact absurd (by rw [getD_at _ _ hj]; exact hjx) (HO.out j (by rw [HL.out] at hj; omega)))
      go_wp2
      go_ret
      exact ⟨ret_bool HV.out.symm, rfl⟩
end Go.Proofs.Ytjnjlpljakkakaa
