/-
  The plain law of two colors: a sweep over the pairs, repeated a fixed number of times or until nothing turns, ends in one and the same list.
  By an AI agent.
-/
import Derived.Test.YteojoifhmaoiaaaInts
namespace Go.Proofs.Yteojoifhmaoiaaa
open Go.ChangeShapes Go.WideShapes Go.ChangeAt Go.RowKit
set_option maxRecDepth 100000
set_option linter.unusedVariables false

/-- One pair: where one of both is colored the other takes the other color. -/
def stp (o : List Int) (a b : Nat) : List Int := if 0 ≤ o.getD a 0 ∧ o.getD b 0 < 0 then o.set b (1 - o.getD a 0) else if 0 ≤ o.getD b 0 ∧ o.getD a 0 < 0 then o.set a (1 - o.getD b 0) else o
/-- The places without a color. -/
def unc (o : List Int) : Nat := o.countP (fun x => decide (x < 0))
/-- Colors, or none: -1. -/
def okc (o : List Int) : Prop := ∀ i, i < o.length → -1 ≤ o.getD i 0 ∧ o.getD i 0 ≤ 1
theorem set_len (o : List Int) (i : Nat) (v : Int) : (o.set i v).length = o.length := by simp
theorem set_getD {o : List Int} {i j : Nat} {v : Int} (hi : i < o.length) : (o.set i v).getD j 0 = if j = i then v else o.getD j 0 := by
  by_cases e : j = i
  · subst e
    rw [if_pos rfl]
    simp [List.getD, hi]
  · rw [if_neg e]
    simp [List.getD, show ¬ i = j from fun h => e h.symm]
theorem okc_set {o : List Int} {i : Nat} {v : Int} (h : okc o) (hi : i < o.length) (h1 : -1 ≤ v) (h2 : v ≤ 1) : okc (o.set i v) := by
  intro j hj
  rw [set_getD hi]
  by_cases e : j = i
  · rw [if_pos e]; exact ⟨h1, h2⟩
  · rw [if_neg e]; exact h j (by rw [set_len] at hj; exact hj)
theorem unc_set {o : List Int} {i : Nat} {v : Int} (hi : i < o.length) (h0 : o.getD i 0 < 0) (hv : 0 ≤ v) : unc (o.set i v) + 1 = unc o := by
  unfold unc
  induction o generalizing i with
  | nil => simp at hi
  | cons x t ih =>
    cases i with
    | zero =>
      have hx : x < 0 := by simpa [List.getD] using h0
      rw [List.set_cons_zero, List.countP_cons, List.countP_cons, decide_eq_true hx, decide_eq_false (by omega)]
      simp
    | succ i =>
      rw [List.set_cons_succ, List.countP_cons, List.countP_cons]
      have := ih (i := i) (by simpa using hi) (by simpa [List.getD] using h0)
      omega
theorem unc_le (o : List Int) : unc o ≤ o.length := List.countP_le_length ..
theorem stp_len (o : List Int) (a b : Nat) : (stp o a b).length = o.length := by
  unfold stp
  by_cases h1 : 0 ≤ o.getD a 0 ∧ o.getD b 0 < 0
  · rw [if_pos h1, set_len]
  · rw [if_neg h1]
    by_cases h2 : 0 ≤ o.getD b 0 ∧ o.getD a 0 < 0
    · rw [if_pos h2, set_len]
    · rw [if_neg h2]
theorem stp_ok {o : List Int} {a b : Nat} (h : okc o) (ha : a < o.length) (hb : b < o.length) : okc (stp o a b) := by
  have h1 := h a ha
  have h2 := h b hb
  unfold stp
  by_cases h3 : 0 ≤ o.getD a 0 ∧ o.getD b 0 < 0
  · rw [if_pos h3]; exact okc_set h hb (by omega) (by omega)
  · rw [if_neg h3]
    by_cases h4 : 0 ≤ o.getD b 0 ∧ o.getD a 0 < 0
    · rw [if_pos h4]; exact okc_set h ha (by omega) (by omega)
    · rw [if_neg h4]; exact h
/-- Whether the pair turns something. -/
def tns (o : List Int) (a b : Nat) : Bool := decide ((0 ≤ o.getD a 0 ∧ o.getD b 0 < 0) ∨ (0 ≤ o.getD b 0 ∧ o.getD a 0 < 0))
theorem stp_no {o : List Int} {a b : Nat} (h : tns o a b = false) : stp o a b = o := by
  have h1 := of_decide_eq_false h
  unfold stp
  rw [if_neg (fun h => h1 (.inl h)), if_neg (fun h => h1 (.inr h))]
theorem stp_yes {o : List Int} {a b : Nat} (h : tns o a b = true) (hok : okc o) (ha : a < o.length) (hb : b < o.length) : unc (stp o a b) + 1 = unc o := by
  have h1 := of_decide_eq_true h
  have h2 := hok a ha
  have h3 := hok b hb
  unfold stp
  by_cases h4 : 0 ≤ o.getD a 0 ∧ o.getD b 0 < 0
  · rw [if_pos h4]; exact unc_set hb h4.2 (by omega)
  · rw [if_neg h4]
    have h5 : 0 ≤ o.getD b 0 ∧ o.getD a 0 < 0 := by rcases h1 with h | h; · exact absurd h h4
                                                    · exact h
    rw [if_pos h5]; exact unc_set ha h5.2 (by omega)
section
variable (p q : Nat → Nat)
def swp (o : List Int) : Nat → List Int
  | 0 => o
  | j + 1 => stp (swp o j) (p j) (q j)
def chg (o : List Int) : Nat → Bool
  | 0 => false
  | j + 1 => chg o j || tns (swp p q o j) (p j) (q j)
variable {p q}
theorem swp_len (o : List Int) : ∀ j, (swp p q o j).length = o.length := by
  intro j
  induction j with
  | zero => rfl
  | succ j ih => show (stp _ _ _).length = _; rw [stp_len, ih]
theorem swp_ok {o : List Int} (h : okc o) {n : Nat} (hpq : ∀ j, j < n → p j < o.length ∧ q j < o.length) : ∀ j, j ≤ n → okc (swp p q o j) := by
  intro j
  induction j with
  | zero => intro _; exact h
  | succ j ih =>
    intro hj
    obtain ⟨h1, h2⟩ := hpq j (by omega)
    exact stp_ok (ih (by omega)) (by rw [swp_len]; exact h1) (by rw [swp_len]; exact h2)
theorem swp_chg {o : List Int} (h : okc o) {n : Nat} (hpq : ∀ j, j < n → p j < o.length ∧ q j < o.length) : ∀ j, j ≤ n → (chg p q o j = false → swp p q o j = o) ∧ (chg p q o j = true → unc (swp p q o j) < unc o) ∧ unc (swp p q o j) ≤ unc o := by
  intro j
  induction j with
  | zero => intro _; exact ⟨fun _ => rfl, fun h => by simp [chg] at h, Nat.le_refl _⟩
  | succ j ih =>
    intro hj
    obtain ⟨h1, h2, h3⟩ := ih (by omega)
    obtain ⟨ha, hb⟩ := hpq j (by omega)
    have hok := swp_ok h hpq j (by omega)
    have hla := swp_len (p := p) (q := q) o j
    cases ht : tns (swp p q o j) (p j) (q j)
    · have he : swp p q o (j + 1) = swp p q o j := stp_no ht
      have hc : chg p q o (j + 1) = chg p q o j := by show (chg p q o j || tns _ _ _) = _; rw [ht, Bool.or_false]
      rw [he, hc]
      exact ⟨h1, h2, h3⟩
    · have hu := stp_yes ht hok (by rw [hla]; exact ha) (by rw [hla]; exact hb)
      have hc : chg p q o (j + 1) = true := by show (chg p q o j || tns _ _ _) = _; rw [ht, Bool.or_true]
      rw [hc]
      refine ⟨fun h => by simp at h, fun _ => ?_, ?_⟩
      · show unc (stp _ _ _) < _; omega
      · show unc (stp _ _ _) ≤ _; omega
/-- r sweeps over the first n pairs. -/
def itr (p q : Nat → Nat) (n : Nat) (o : List Int) : Nat → List Int
  | 0 => o
  | r + 1 => swp p q (itr p q n o r) n
theorem itr_len {n : Nat} (o : List Int) : ∀ r, (itr p q n o r).length = o.length := by
  intro r
  induction r with
  | zero => rfl
  | succ r ih => show (swp _ _ _ _).length = _; rw [swp_len, ih]
theorem itr_ok {n : Nat} {o : List Int} (h : okc o) (hpq : ∀ j, j < n → p j < o.length ∧ q j < o.length) : ∀ r, okc (itr p q n o r) := by
  intro r
  induction r with
  | zero => exact h
  | succ r ih => exact swp_ok ih (fun j hj => by rw [itr_len]; exact hpq j hj) n (Nat.le_refl _)
theorem itr_fix {n : Nat} {o : List Int} {s : Nat} (h : swp p q (itr p q n o s) n = itr p q n o s) : ∀ r, itr p q n o (s + r) = itr p q n o s := by
  intro r
  induction r with
  | zero => rfl
  | succ r ih => show swp p q (itr p q n o (s + r)) n = _; rw [ih, h]
theorem itr_ex {n : Nat} {o : List Int} (h : okc o) (hpq : ∀ j, j < n → p j < o.length ∧ q j < o.length) : ∀ r, (∃ s, s ≤ r ∧ swp p q (itr p q n o s) n = itr p q n o s) ∨ unc (itr p q n o (r + 1)) + (r + 1) ≤ unc o := by
  intro r
  induction r with
  | zero =>
    obtain ⟨h1, h2, _⟩ := swp_chg h hpq n (Nat.le_refl _)
    cases hc : chg p q o n
    · exact .inl ⟨0, Nat.le_refl _, h1 hc⟩
    · have := h2 hc
      right
      show unc (swp p q o n) + 1 ≤ _
      omega
  | succ r ih =>
    rcases ih with ⟨s, hs, he⟩ | ih
    · exact .inl ⟨s, by omega, he⟩
    · obtain ⟨h1, h2, _⟩ := swp_chg (itr_ok h hpq (r + 1)) (fun j hj => by rw [itr_len]; exact hpq j hj) n (Nat.le_refl _)
      cases hc : chg p q (itr p q n o (r + 1)) n
      · exact .inl ⟨r + 1, Nat.le_refl _, h1 hc⟩
      · have := h2 hc
        right
        show unc (swp p q (itr p q n o (r + 1)) n) + (r + 1 + 1) ≤ _
        omega
/-- Until nothing turns, or m times: the same. -/
theorem itr_end {n m t : Nat} {o : List Int} (h : okc o) (hpq : ∀ j, j < n → p j < o.length ∧ q j < o.length) (hm : o.length ≤ m) (ht : swp p q (itr p q n o t) n = itr p q n o t) : itr p q n o t = itr p q n o m := by
  obtain ⟨s, hs, he⟩ : ∃ s, s ≤ m ∧ swp p q (itr p q n o s) n = itr p q n o s := by
    rcases itr_ex h hpq m with h1 | h1
    · exact h1
    · have := unc_le o
      omega
  have h1 : itr p q n o m = itr p q n o s := by
    have := itr_fix he (m - s)
    rw [show s + (m - s) = m by omega] at this
    exact this
  rw [h1]
  rcases Nat.le_total s t with h2 | h2
  · have := itr_fix he (t - s)
    rw [show s + (t - s) = t by omega] at this
    exact this
  · have := itr_fix ht (s - t)
    rw [show t + (s - t) = s by omega] at this
    exact this.symm
end
/-- The colors when the first k faces have been looked at. -/
def two (p q : Nat → Nat) (n m : Nat) : Nat → List Int
  | 0 => List.replicate m (-1)
  | k + 1 => if 0 ≤ (two p q n m k).getD k 0 then two p q n m k else itr p q n ((two p q n m k).set k 0) m
theorem two_len (p q : Nat → Nat) (n m : Nat) : ∀ k, (two p q n m k).length = m := by
  intro k
  induction k with
  | zero => simp [two]
  | succ k ih =>
    unfold two
    by_cases h : 0 ≤ (two p q n m k).getD k 0
    · rw [if_pos h]; exact ih
    · rw [if_neg h, itr_len, set_len]; exact ih
theorem two_ok {p q : Nat → Nat} {n m : Nat} (hpq : ∀ j, j < n → p j < m ∧ q j < m) : ∀ k, k ≤ m → okc (two p q n m k) := by
  intro k
  induction k with
  | zero =>
    intro _ i hi
    simp [two] at hi
    simp [two, List.getD, hi]
  | succ k ih =>
    intro hk
    have h0 := ih (by omega)
    have hl := two_len p q n m k
    unfold two
    by_cases h : 0 ≤ (two p q n m k).getD k 0
    · rw [if_pos h]; exact h0
    · rw [if_neg h]
      exact itr_ok (okc_set h0 (by omega) (by omega) (by omega)) (fun j hj => by rw [set_len, hl]; exact hpq j hj) m
end Go.Proofs.Yteojoifhmaoiaaa
