/-
  What a book's spine gives: the plain words of CardsIn, BookSwells and GuardsNeeded. No program in sight.
  By an AI agent.
-/
import Derived.Test.YtjkcmjnejbobeaaSpine
namespace Go.Proofs.Ytjkcmjnejbobeaa
open Go.ChangeShapes Go.WideShapes Go.ChangeAt Go.RowKit Go.Joins Go.Deep
set_option maxRecDepth 100000
set_option linter.unusedVariables false

theorem lit_bd {n : Int} (h : (Lit.int .i64 n).wf = true) : -9223372036854775808 ≤ n ∧ n ≤ 9223372036854775807 := by
  unfold Lit.wf at h
  simp only [Bool.and_eq_true, decide_eq_true_eq] at h
  exact h
/-! ### How many cards fit -/
def cif (W : Int) (xs : List DCard) (sh : Int) : Nat → Nat → Nat
  | 0, k => k
  | m + 1, k => if W < sumT xs sh (k + 1) then k else cif W xs sh m (k + 1)
theorem cif_zero (W : Int) (xs : List DCard) (sh : Int) (k : Nat) : cif W xs sh 0 k = k := rfl
theorem cif_stop {W : Int} {xs : List DCard} {sh : Int} {m k : Nat} (h : W < sumT xs sh (k + 1)) (hm : 0 < m) : cif W xs sh m k = k := by
  cases m with
  | zero => omega
  | succ m => show (if _ then _ else _) = _; rw [if_pos h]
theorem cif_go {W : Int} {xs : List DCard} {sh : Int} {n k : Nat} (h : ¬ W < sumT xs sh (k + 1)) (hm : k < n) : cif W xs sh (n - k) k = cif W xs sh (n - (k + 1)) (k + 1) := by
  obtain ⟨m, hm'⟩ : ∃ m, n - k = m + 1 := ⟨n - k - 1, by omega⟩
  rw [hm', show n - (k + 1) = m by omega]
  show (if _ then _ else _) = _
  rw [if_neg h]
def ciR (W : Int) (xs : List DCard) (sh : Int) : Int := if bookB xs sh = true ∧ 0 ≤ W then (cif W xs sh xs.length 0 : Nat) else -1
/-! ### Whether a book swells -/
/-- What the first k guards give. -/
def sumG (sh gd : Int) (zs : List Int) : Nat → Int
  | 0 => 0
  | k + 1 => sumG sh gd zs k + (2 * sh + gd * zs.getD k 0)
def gokB (zs : List Int) (k : Nat) : Bool := (List.range k).all fun i => inB (zs.getD i 0) 0 1000
theorem gok_iff {zs : List Int} {k : Nat} : gokB zs k = true ↔ ∀ i, i < k → 0 ≤ zs.getD i 0 ∧ zs.getD i 0 ≤ 1000 := by
  unfold gokB; simp only [List.all_eq_true, List.mem_range]
  exact ⟨fun h i hi => inB_iff.1 (h i hi), fun h i hi => inB_iff.2 (h i hi)⟩
theorem gmul_bd {gd z : Int} (h1 : 1 ≤ gd) (h2 : gd ≤ 1000) (h3 : 0 ≤ z) (h4 : z ≤ 1000) : 0 ≤ gd * z ∧ gd * z ≤ 1000000 := by
  have e1 : gd * 0 ≤ gd * z := Int.mul_le_mul_of_nonneg_left h3 (by omega)
  have e2 : gd * z ≤ gd * 1000 := Int.mul_le_mul_of_nonneg_left h4 (by omega)
  omega
theorem sumG_bd {sh gd : Int} {zs : List Int} (k : Nat) (h1 : 1 ≤ gd) (h2 : gd ≤ 1000) (h : ∀ i, i < k → 0 ≤ zs.getD i 0 ∧ zs.getD i 0 ≤ 1000) (hs : k = 0 ∨ (1 ≤ sh ∧ sh ≤ 1000)) : 0 ≤ sumG sh gd zs k ∧ sumG sh gd zs k ≤ 1002000 * k := by
  induction k with
  | zero => exact ⟨Int.le_refl _, Int.le_refl _⟩
  | succ k ih =>
    have i1 := ih (fun i hi => h i (by omega)) (.inr (hs.resolve_left (by omega)))
    have i2 := h k (by omega)
    have i3 := gmul_bd h1 h2 i2.1 i2.2
    have i4 := hs.resolve_left (by omega)
    show 0 ≤ sumG sh gd zs k + _ ∧ sumG sh gd zs k + _ ≤ _
    push_cast; omega
def swellB (xs : List DCard) (sh gd : Int) (zs : List Int) : Bool := bookB xs sh && inB gd 1 1000 && decide (zs.length = xs.length) && gokB zs zs.length && decide (sumG sh gd zs xs.length < sumT xs sh xs.length)
theorem swell_no {xs : List DCard} {sh gd : Int} {zs : List Int} (h : bookB xs sh = false ∨ (gd < 1 ∨ 1000 < gd) ∨ zs.length ≠ xs.length ∨ gokB zs zs.length = false) : swellB xs sh gd zs = false := by
  unfold swellB
  rcases h with h | h | h | h
  · rw [h]; rfl
  · rw [inB_f h]; simp
  · rw [decide_eq_false h]; simp
  · rw [h]; simp
theorem swell_yes {xs : List DCard} {sh gd : Int} {zs : List Int} (h1 : bookB xs sh = true) (h2 : 1 ≤ gd) (h3 : gd ≤ 1000) (h4 : zs.length = xs.length) (h5 : gokB zs zs.length = true) : swellB xs sh gd zs = decide (sumG sh gd zs xs.length < sumT xs sh xs.length) := by
  unfold swellB; rw [h1, inB_t h2 h3, decide_eq_true h4, h5]; rfl
theorem gok_no {zs : List Int} {k : Nat} (hk : k < zs.length) (h : zs.getD k 0 < 0 ∨ 1000 < zs.getD k 0) : gokB zs zs.length = false := by
  cases e : gokB zs zs.length
  · rfl
  · have := gok_iff.1 e k hk; omega
/-! ### The guards that are needed -/
/-- The guards that card k needs. -/
def gnN (xs : List DCard) (sh gd : Int) (k : Nat) : Int := (tcN xs sh k - 2 * sh + gd - 1).tdiv gd
def gl (xs : List DCard) (sh gd : Int) (k : Nat) : List Int := (List.range k).map (gnN xs sh gd)
theorem gl_succ (xs : List DCard) (sh gd : Int) (k : Nat) : gl xs sh gd (k + 1) = gl xs sh gd k ++ [gnN xs sh gd k] := by unfold gl; rw [List.range_succ, List.map_append]; rfl
theorem gl_len (xs : List DCard) (sh gd : Int) (k : Nat) : (gl xs sh gd k).length = k := by simp [gl]
def gnR (xs : List DCard) (sh gd : Int) : List Int := if bookB xs sh = true ∧ 1 ≤ gd ∧ gd ≤ 1000 then gl xs sh gd xs.length else []
theorem gnR_no {xs : List DCard} {sh gd : Int} (h : bookB xs sh = false ∨ gd < 1 ∨ 1000 < gd) : gnR xs sh gd = [] := by
  unfold gnR; rw [if_neg]
  rintro ⟨a, b, c⟩
  rcases h with h | h | h
  · rw [h] at a; cases a
  · omega
  · omega
theorem gnR_yes {xs : List DCard} {sh gd : Int} (h : bookB xs sh = true) (h1 : 1 ≤ gd) (h2 : gd ≤ 1000) : gnR xs sh gd = gl xs sh gd xs.length := by
  unfold gnR; rw [if_pos ⟨h, h1, h2⟩]
theorem gnR_len (xs : List DCard) (sh gd : Int) : (gnR xs sh gd).length ≤ 20 := by
  unfold gnR
  split
  · rename_i h; rw [gl_len]; exact (bookB_iff.1 h.1).1
  · simp
end Go.Proofs.Ytjkcmjnejbobeaa
