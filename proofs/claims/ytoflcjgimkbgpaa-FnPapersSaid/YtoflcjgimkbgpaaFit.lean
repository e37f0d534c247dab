/-
  The bands of a sheet, first fit: the plain words, and the contract of IndexFunc with FirstFit's closure.
  By an AI agent.
-/
import Derived.Test.YtoflcjgimkbgpaaInts
namespace Go.Proofs.Ytoflcjgimkbgpaa
open Go.ChangeShapes Go.WideShapes Go.ChangeAt Go.RowKit
set_option maxRecDepth 100000
set_option linter.unusedVariables false

/-- The first room that is enough; the length where there is none. -/
def fitAt (x : Int) (ls : List Int) : Nat := ls.findIdx (fun r => decide (x ≤ r))
def fitZ (x : Int) (ls : List Int) : Int := if fitAt x ls < ls.length then ((fitAt x ls : Nat) : Int) else -1
theorem fitAt_is {x : Int} {ls : List Int} {k : Nat} (hk : k < ls.length) (h : x ≤ ls.getD k 0) (hb : ∀ j, j < k → ls.getD j 0 < x) : fitAt x ls = k := by
  unfold fitAt
  rw [List.findIdx_eq hk]
  refine ⟨by simpa [List.getD, hk] using h, fun j hj => ?_⟩
  have := hb j hj
  have hj' : j < ls.length := by omega
  simp [List.getD, hj'] at this
  simpa using this
theorem fitAt_none {x : Int} {ls : List Int} (hb : ∀ j, j < ls.length → ls.getD j 0 < x) : fitAt x ls = ls.length := by
  unfold fitAt
  rw [List.findIdx_eq_length]
  intro y hy
  obtain ⟨j, hj, rfl⟩ := List.mem_iff_getElem.1 hy
  have := hb j hj
  simp [List.getD, hj] at this
  simpa using this
/-- One row is put: the places so far, and the rooms that are left. -/
def ffStep (wd : Int) (s : List Int × List Int) (x : Int) : List Int × List Int :=
  (s.1 ++ [((fitAt x s.2 : Nat) : Int)], if fitAt x s.2 < s.2.length then s.2.set (fitAt x s.2) (s.2.getD (fitAt x s.2) 0 - x) else s.2 ++ [wd - x])
def ff (wd : Int) (rows : List Int) : Nat → List Int × List Int
  | 0 => ([], [])
  | k + 1 => ffStep wd (ff wd rows k) (rows.getD k 0)
theorem ff_len (wd : Int) (rows : List Int) (k : Nat) : (ff wd rows k).1.length = k ∧ (ff wd rows k).2.length ≤ k := by
  induction k with
  | zero => exact ⟨rfl, Nat.le_refl _⟩
  | succ k ih =>
    refine ⟨by show (_ ++ [_]).length = _; rw [List.length_append, ih.1]; rfl, ?_⟩
    show (if _ then _ else _ : List Int).length ≤ _
    split
    · rw [List.length_set]; omega
    · rw [List.length_append]; simp; omega
theorem fitAt_room {x : Int} {ls : List Int} (h : fitAt x ls < ls.length) : x ≤ ls.getD (fitAt x ls) 0 := by
  have := List.findIdx_getElem (w := h)
  simp only [decide_eq_true_eq] at this
  unfold fitAt at h ⊢
  simpa [List.getD, h] using this
theorem ff_bd {wd : Int} {rows : List Int} {k : Nat} (hw : 1 ≤ wd ∧ wd ≤ 1000) (hr : ∀ j, j < k → 1 ≤ rows.getD j 0 ∧ rows.getD j 0 ≤ wd) : ∀ z ∈ (ff wd rows k).2, 0 ≤ z ∧ z ≤ 1000 := by
  induction k with
  | zero => intro z hz; cases hz
  | succ k ih =>
    have ih := ih fun j hj => hr j (by omega)
    have hk := hr k (by omega)
    intro z hz
    have hz : z ∈ (if _ then _ else _ : List Int) := hz
    split at hz
    · rename_i h
      have hx := fitAt_room h
      rcases List.mem_or_eq_of_mem_set hz with h1 | h1
      · exact ih z h1
      · have hm : (ff wd rows k).2.getD (fitAt (rows.getD k 0) (ff wd rows k).2) 0 ∈ (ff wd rows k).2 := by
          rw [List.getD, List.getElem?_eq_getElem h]; exact List.getElem_mem h
        have := ih _ hm
        omega
    · rcases List.mem_append.1 hz with h1 | h1
      · exact ih z h1
      · have := List.mem_singleton.1 h1; omega
theorem index_fit (a : Option Addr) (m c b : Nat) (x : Int) (ls : List Int) (w : World) (hl : ls.length = m) (hm : m ≤ 1048576) (hR : SlR w a m (ic ls)) (hb : w.cell? ⟨b, 0, none⟩ = some (.int .i64 x)) :
    Calls Try.prog 60 #[.slice a m c, .func (.func 61) #[] #[.pointer (some ⟨b, 0, none⟩)]] w fun e w' => e = .returned (.int .i64 (fitZ x ls)) ∧ Below w.heap.size w w' := by
  have HR := Lib.hid hR
  have HL := Lib.hid hl
  have HB0 := Lib.hid hb
  have hbl : b < w.heap.size := World.block_lt_of_cell? _ _ hb
  clear hR hl hb
  go_enter Try.func60, Try.ntmps60
  go_wp2
  go_loopw [8] (fun i wr => ∃ k : Nat, k ≤ m ∧ i = .int .i64 k ∧ (∀ j, j < k → ls.getD j 0 < x) ∧ Below w.heap.size w wr) (fun i _ => m - (intOf i).toNat)
  case atStart => exact ⟨0, Nat.zero_le _, rfl, fun j h => absurd h (Nat.not_lt_zero j), Below.refl _ _⟩
  case round =>
    obtain ⟨k, hk, rfl, hok, hB⟩ := hrel
    have HO := Lib.hid hok
    have HB := Lib.hid hB
    clear hok hB
    have c1 := (HB.out.cell (p := ⟨b, 0, none⟩) hbl).trans HB0.out
    by_cases hlt : k < m
    · obtain ⟨g, rfl, hr⟩ := (HR.out.below HB.out).row (by omega)
      have c0 := hr.cell hlt
      unfold ic at c0
      clear hr
      by_cases hp : x ≤ ls.getD k 0
      · have HV : Hid (fitZ x ls = (k : Int)) := Lib.hid (by
          have e := fitAt_is (by rw [HL.out]; exact hlt) hp HO.out
          unfold fitZ
          rw [e, if_pos (by rw [HL.out]; exact hlt)])
        clear HO
        generalize ls.getD k 0 = q at c0 hp
        go_wp2_with go_in
        go_ret
        exact ⟨ret_int HV.out.symm, HB.out⟩
      · have HO2 : Hid (∀ j, j < k + 1 → ls.getD j 0 < x) := Lib.hid (by
          intro j hj
          by_cases e : j = k
          · rw [e]; omega
          · exact HO.out j (by omega))
        clear HO
        generalize ls.getD k 0 = q at c0 hp
        go_wp2_with go_in
        go_roundw
        case rel => exact ⟨k + 1, by omega, by go_num, HO2.out, HB.out⟩
        case measure => simp [intOf]; omega
    · have HV : Hid (fitZ x ls = -1) := Lib.hid (by
        have e := fitAt_none (x := x) (ls := ls) (fun j hj => HO.out j (by rw [HL.out] at hj; omega))
        unfold fitZ
        rw [e, if_neg (Nat.lt_irrefl _)])
      go_wp2
      go_ret
      exact ⟨ret_int HV.out.symm, HB.out⟩
end Go.Proofs.Ytoflcjgimkbgpaa
