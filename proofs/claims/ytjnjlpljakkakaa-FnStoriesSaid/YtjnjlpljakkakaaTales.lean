/-
  How many tales start at a page of a story without circles. No program in sight.
  By an AI agent.
-/
import Derived.Test.YtjnjlpljakkakaaEndless
namespace Go.Proofs.Ytjnjlpljakkakaa
set_option maxRecDepth 100000
set_option linter.unusedVariables false

/-- No circle is met from page p. -/
def acy (L : Rows) (p : Nat) : Prop := ∀ k, (k = p ∨ Path L p k) → ¬ Path L k k
theorem acy_next {L : Rows} {p y : Nat} (h : acy L p) (e : edge L p y) : acy L y := by
  intro k hk
  rcases hk with rfl | hk
  · exact h k (.inr (.one e))
  · exact h k (.inr (.more e hk))
open Classical in
/-- How many pages are met from p. -/
noncomputable def rk (n : Nat) (L : Rows) (p : Nat) : Nat := ((List.range n).filter fun k => decide (Path L p k)).length
theorem filter_lt {α : Type} {P Q : α → Bool} {l : List α} (h : ∀ x ∈ l, P x = true → Q x = true) {y : α} (hy : y ∈ l) (h1 : P y = false) (h2 : Q y = true) : (l.filter P).length < (l.filter Q).length := by
  induction l with
  | nil => cases hy
  | cons a l ih =>
    have hle : (l.filter P).length ≤ (l.filter Q).length := by
      clear ih hy
      induction l with
      | nil => simp
      | cons b l ih2 =>
        have i2 := ih2 (fun x hx => h x (by simp at hx ⊢; rcases hx with hx | hx <;> simp [hx]))
        cases hP : P b
        · cases hQ : Q b
          · simp only [List.filter_cons, hP, hQ]; simpa using i2
          · simp only [List.filter_cons, hP, hQ]; simp; omega
        · simp only [List.filter_cons, hP, h b (by simp) hP]; simpa using i2
    rcases List.mem_cons.1 hy with rfl | hy
    · simp only [List.filter_cons, h1, h2]; simp; omega
    · have i := ih (fun x hx => h x (List.mem_cons_of_mem _ hx)) hy
      cases hP : P a
      · cases hQ : Q a
        · simp only [List.filter_cons, hP, hQ]; simpa using i
        · simp only [List.filter_cons, hP, hQ]; simp; omega
      · simp only [List.filter_cons, hP, h a (by simp) hP]; simpa using i
open Classical in
theorem rk_next {n : Nat} {L : Rows} (hs : storyOk n L) {p y : Nat} (hp : p < n) (h : acy L p) (e : edge L p y) : rk n L y < rk n L p := by
  have hy := edge_lt hs hp e
  unfold rk
  refine filter_lt (fun x _ hx => ?_) (List.mem_range.2 hy) (decide_eq_false (h y (.inr (.one e)))) (decide_eq_true (.one e))
  exact decide_eq_true (.more e (of_decide_eq_true hx))
open Classical in
theorem rk_lt {n : Nat} {L : Rows} {p : Nat} (hp : p < n) (h : acy L p) : rk n L p < n := by
  have := filter_lt (P := fun k => decide (Path L p k)) (Q := fun _ => true) (l := List.range n) (fun _ _ _ => rfl) (List.mem_range.2 hp) (decide_eq_false (h p (.inl rfl))) rfl
  have e : (List.range n).filter (fun _ => true) = List.range n := List.filter_eq_self.2 (fun _ _ => rfl)
  rw [e, List.length_range] at this
  exact this
def sumF (f : Nat → Int) : Nat → Int
  | 0 => 0
  | q + 1 => sumF f q + f q
def nx (L : Rows) (p q : Nat) : Nat := ((rowN L p).getD q 0).toNat
/-- With so much fuel. -/
def tal (L : Rows) : Nat → Nat → Int
  | 0, _ => 0
  | m + 1, p => if lenN L p = 0 then 1 else sumF (fun q => tal L m (nx L p q)) (lenN L p)
theorem sumF_congr {f g : Nat → Int} {m : Nat} (h : ∀ q, q < m → f q = g q) : sumF f m = sumF g m := by
  induction m with
  | zero => rfl
  | succ m ih => show sumF f m + f m = sumF g m + g m; rw [ih (fun q hq => h q (by omega)), h m (by omega)]
theorem edge_nx {n : Nat} {L : Rows} (hs : storyOk n L) {p q : Nat} (hp : p < n) (hq : q < lenN L p) : edge L p (nx L p q) ∧ (rowN L p).getD q 0 = (nx L p q : Int) := by
  have := ((hs.2 p hp).2 q hq).1.1
  have e : (rowN L p).getD q 0 = (nx L p q : Int) := by unfold nx; omega
  exact ⟨⟨q, hq, e⟩, e⟩
theorem tal_fuel {n : Nat} {L : Rows} (hs : storyOk n L) (r : Nat) : ∀ {p m m' : Nat}, p < n → acy L p → rk n L p ≤ r → rk n L p < m → rk n L p < m' → tal L m p = tal L m' p := by
  induction r with
  | zero =>
    intro p m m' hp ha hr hm hm'
    obtain ⟨m, rfl⟩ : ∃ k, m = k + 1 := ⟨m - 1, by omega⟩
    obtain ⟨m', rfl⟩ : ∃ k, m' = k + 1 := ⟨m' - 1, by omega⟩
    show (if _ then _ else _) = (if _ then _ else _)
    by_cases h0 : lenN L p = 0
    · rw [if_pos h0, if_pos h0]
    · exfalso
      have := rk_next hs hp ha (edge_nx hs hp (q := 0) (by omega)).1
      omega
  | succ r ih =>
    intro p m m' hp ha hr hm hm'
    obtain ⟨m, rfl⟩ : ∃ k, m = k + 1 := ⟨m - 1, by omega⟩
    obtain ⟨m', rfl⟩ : ∃ k, m' = k + 1 := ⟨m' - 1, by omega⟩
    show (if _ then _ else _) = (if _ then _ else _)
    by_cases h0 : lenN L p = 0
    · rw [if_pos h0, if_pos h0]
    · rw [if_neg h0, if_neg h0]
      refine sumF_congr fun q hq => ?_
      have he := (edge_nx hs hp hq).1
      have hk := rk_next hs hp ha he
      exact ih (edge_lt hs hp he) (acy_next ha he) (by omega) (by omega) (by omega)
def talN (n : Nat) (L : Rows) (p : Nat) : Int := tal L (n + 1) p
theorem talN_eq {n : Nat} {L : Rows} (hs : storyOk n L) {p : Nat} (hp : p < n) (ha : acy L p) : talN n L p = if lenN L p = 0 then 1 else sumF (fun q => talN n L (nx L p q)) (lenN L p) := by
  show (if _ then _ else _) = _
  by_cases h0 : lenN L p = 0
  · rw [if_pos h0, if_pos h0]
  · rw [if_neg h0, if_neg h0]
    refine sumF_congr fun q hq => ?_
    have he := (edge_nx hs hp hq).1
    have hk := rk_next hs hp ha he
    have hl := rk_lt hp ha
    exact tal_fuel hs (rk n L (nx L p q)) (edge_lt hs hp he) (acy_next ha he) (Nat.le_refl _) (by omega) (by omega)
theorem sumF_bd {f : Nat → Int} {B : Int} (hB : 0 ≤ B) (m : Nat) (h : ∀ q, q < m → 0 ≤ f q ∧ f q ≤ B) : 0 ≤ sumF f m ∧ sumF f m ≤ m * B := by
  induction m with
  | zero => exact ⟨Int.le_refl _, by simp [sumF]⟩
  | succ m ih =>
    have i := ih (fun q hq => h q (by omega))
    have j := h m (by omega)
    show 0 ≤ sumF f m + f m ∧ sumF f m + f m ≤ _
    push_cast
    rw [Int.add_mul, Int.one_mul]
    omega
theorem talN_bd {n : Nat} {L : Rows} (hs : storyOk n L) (r : Nat) : ∀ {p : Nat}, p < n → acy L p → rk n L p ≤ r → 0 ≤ talN n L p ∧ talN n L p ≤ 4 ^ r := by
  induction r with
  | zero =>
    intro p hp ha hr
    rw [talN_eq hs hp ha]
    by_cases h0 : lenN L p = 0
    · rw [if_pos h0]; omega
    · exfalso
      have := rk_next hs hp ha (edge_nx hs hp (q := 0) (by omega)).1
      omega
  | succ r ih =>
    intro p hp ha hr
    have hpow : (1 : Int) ≤ 4 ^ r := by
      have : 0 < 4 ^ r := Nat.pow_pos (by omega)
      have e : ((4 : Int) ^ r) = ((4 ^ r : Nat) : Int) := by norm_cast
      rw [e]; omega
    rw [talN_eq hs hp ha, Int.pow_succ]
    by_cases h0 : lenN L p = 0
    · rw [if_pos h0]; omega
    · rw [if_neg h0]
      have hlen : lenN L p ≤ 4 := (hs.2 p hp).1
      have := sumF_bd (f := fun q => talN n L (nx L p q)) (B := 4 ^ r) (by omega) (lenN L p) (fun q hq => by
        have he := (edge_nx hs hp hq).1
        exact ih (edge_lt hs hp he) (acy_next ha he) (by have := rk_next hs hp ha he; omega))
      refine ⟨this.1, Int.le_trans this.2 ?_⟩
      have : (lenN L p : Int) * 4 ^ r ≤ 4 * 4 ^ r := Int.mul_le_mul_of_nonneg_right (by omega) (by omega)
      omega
theorem talN_16 {n : Nat} {L : Rows} (hs : storyOk n L) {p : Nat} (hp : p < n) (ha : acy L p) : 0 ≤ talN n L p ∧ talN n L p ≤ 4294967296 := by
  have h := talN_bd hs 16 hp ha (by have := rk_lt hp ha; have := hs.1.2; omega)
  have : (4 : Int) ^ 16 = 4294967296 := by decide
  omega
theorem endless_not {n : Nat} {L : Rows} (hs : storyOk n L) (h : ¬ endless n L) : acy L 0 := by
  intro k hk hc
  refine h ⟨k, ?_, hk, hc⟩
  rcases hk with rfl | hk
  · exact hs.1.1
  · exact hk.lt hs hs.1.1
open Classical in
noncomputable def ctR (n : Nat) (L : Rows) : Int := if storyOk n L ∧ ¬ endless n L then talN n L 0 else -1
open Classical in
theorem ctR_no {n : Nat} {L : Rows} (h : ¬ storyOk n L ∨ endless n L) : ctR n L = -1 := by
  unfold ctR; rw [if_neg]
  rintro ⟨a, b⟩
  rcases h with h | h
  · exact h a
  · exact b h
open Classical in
theorem ctR_yes {n : Nat} {L : Rows} (h : storyOk n L) (h2 : ¬ endless n L) : ctR n L = talN n L 0 := by unfold ctR; rw [if_pos ⟨h, h2⟩]
end Go.Proofs.Ytjnjlpljakkakaa
