/-
  In how many steps an end of a story is met: the plain words of ShortestTale and LongestTale. No program in sight.
  By an AI agent.
-/
import Derived.Test.YtjnjlpljakkakaaTales
namespace Go.Proofs.Ytjnjlpljakkakaa
set_option maxRecDepth 100000
set_option linter.unusedVariables false

/-- An end is met from p with just k steps. -/
def E (L : Rows) : Nat → Nat → Prop
  | 0, p => lenN L p = 0
  | k + 1, p => ∃ y, edge L p y ∧ E L k y
theorem E_len {L : Rows} {k p : Nat} (h : E L (k + 1) p) : 0 < lenN L p := by
  obtain ⟨y, ⟨q, hq, _⟩, _⟩ := h
  omega
/-- Tables of steps: the least number (m = false) or the greatest one (m = true). -/
def Tab (n : Nat) (L : Rows) (X : Nat → Prop) (m : Bool) (f : Nat → Int) : Prop := ∀ p, p < n → X p → (f p = -1 ∧ ∀ k, ¬ E L k p) ∨ (0 ≤ f p ∧ E L (f p).toNat p ∧ ∀ k, E L k p → if m then (k : Int) ≤ f p else f p ≤ k)
/-- What each round keeps: a number is the length of a way to an end. -/
def Snd (n : Nat) (L : Rows) (f : Nat → Int) : Prop := ∀ p, p < n → f p = -1 ∨ (0 ≤ f p ∧ f p ≤ n ∧ E L (f p).toNat p)
/-- .. and ways of at most r steps are known. -/
def Cpl (n : Nat) (L : Rows) (X : Nat → Prop) (m : Bool) (r : Nat) (p : Nat) (f : Nat → Int) : Prop := X p → ∀ k, k ≤ r → E L k p → 0 ≤ f p ∧ if m then (k : Int) ≤ f p else f p ≤ k
/-- The next word for page p from a page that follows it. -/
def upd (n : Nat) (m : Bool) (x y : Int) : Bool := decide (0 ≤ x) && decide (x < n) && (decide (y < 0) || (m && decide (y < x + 1)) || (!m && decide (x + 1 < y)))
def stp (n : Nat) (m : Bool) (x y : Int) : Int := if upd n m x y = true then x + 1 else y
theorem stp_snd {n : Nat} {L : Rows} {m : Bool} {f : Nat → Int} (h : Snd n L f) {p y : Nat} (hy : y < n) (he : edge L p y) : Snd n L (fun i => if i = p then stp n m (f y) (f p) else f i) := by
  intro i hi
  by_cases e : i = p
  · subst e
    simp only [if_true]
    unfold stp
    split
    · rename_i hu
      unfold upd at hu
      simp only [Bool.and_eq_true, decide_eq_true_eq] at hu
      obtain ⟨⟨h0, h1⟩, _⟩ := hu
      right
      refine ⟨by omega, by omega, ?_⟩
      rcases h y hy with h2 | ⟨_, _, h3⟩
      · omega
      · rw [show (f y + 1).toNat = (f y).toNat + 1 by omega]
        exact ⟨y, he, h3⟩
    · exact h i hi
  · simp only [if_neg e]; exact h i hi
/-- Updates go one way. -/
def better (m : Bool) (a b : Int) : Prop := 0 ≤ a → 0 ≤ b ∧ if m then a ≤ b else b ≤ a
theorem better.refl (m : Bool) (a : Int) : better m a a := fun h => ⟨h, by cases m <;> simp⟩
theorem stp_better (n : Nat) (m : Bool) (x y : Int) : better m y (stp n m x y) := by
  intro h
  unfold stp
  split
  · rename_i hu
    unfold upd at hu
    cases m
    · simp at hu ⊢; omega
    · simp at hu ⊢; omega
  · exact ⟨h, by cases m <;> simp⟩
theorem stp_at {n : Nat} {m : Bool} {x y : Int} {k : Nat} (h0 : 0 ≤ x) (h1 : x < n) (hk : if m then (k : Int) ≤ x else x ≤ k) : 0 ≤ stp n m x y ∧ if m then ((k + 1 : Nat) : Int) ≤ stp n m x y else stp n m x y ≤ ((k + 1 : Nat) : Int) := by
  unfold stp
  cases m
  · simp only [if_false, Bool.false_eq_true] at hk ⊢
    split
    · push_cast; omega
    · rename_i hu
      unfold upd at hu
      simp at hu
      push_cast
      have := hu h0 h1
      omega
  · simp only [if_true] at hk ⊢
    split
    · push_cast; omega
    · rename_i hu
      unfold upd at hu
      simp at hu
      push_cast
      have := hu h0 h1
      omega
theorem better.cpl {m : Bool} {a b : Int} {k : Nat} (h : better m a b) (ha : 0 ≤ a ∧ if m then (k : Int) ≤ a else a ≤ k) : 0 ≤ b ∧ if m then (k : Int) ≤ b else b ≤ k := by
  obtain ⟨h0, h1⟩ := h ha.1
  refine ⟨h0, ?_⟩
  have h2 := ha.2
  cases m
  · simp only [if_false, Bool.false_eq_true] at *; omega
  · simp only [if_true] at *; omega
/-- Behind n rounds. -/
theorem tab_of {n : Nat} {L : Rows} {X : Nat → Prop} {m : Bool} {f : Nat → Int} {r : Nat} (hs : Snd n L f) (hc : ∀ p, p < n → Cpl n L X m r p f)
    (hr : ∀ p, p < n → X p → ∀ k, E L k p → (m = true → k ≤ r) ∧ ∃ k', k' ≤ r ∧ E L k' p ∧ k' ≤ k) : Tab n L X m f := by
  intro p hp hX
  rcases hs p hp with h | ⟨h0, h1, h2⟩
  · left
    refine ⟨h, fun k hk => ?_⟩
    obtain ⟨_, k', hk', he, _⟩ := hr p hp hX k hk
    have := (hc p hp hX k' hk' he).1
    omega
  · right
    refine ⟨h0, h2, fun k hk => ?_⟩
    obtain ⟨hm, k', hk', he, hle⟩ := hr p hp hX k hk
    cases m
    · have := (hc p hp hX k' hk' he).2
      simp only [if_false, Bool.false_eq_true] at *
      omega
    · exact (hc p hp hX k (hm rfl) hk).2
/-! ### The way -/
/-- The least of the first q pages behind p that P takes. -/
def lst (L : Rows) (P : Nat → Prop) [DecidablePred P] (p : Nat) : Nat → Int
  | 0 => -1
  | q + 1 => if P (nx L p q) ∧ (lst L P p q < 0 ∨ (nx L p q : Int) < lst L P p q) then (nx L p q : Int) else lst L P p q
theorem lst_congr {L : Rows} {P Q : Nat → Prop} [DecidablePred P] [DecidablePred Q] {p m : Nat} (h : ∀ q, q < m → (P (nx L p q) ↔ Q (nx L p q))) : lst L P p m = lst L Q p m := by
  induction m with
  | zero => rfl
  | succ m ih =>
    have i := ih (fun q hq => h q (by omega))
    show (if _ then _ else _) = (if _ then _ else _)
    rw [i]
    have := h m (by omega)
    by_cases e : Q (nx L p m) ∧ (lst L Q p m < 0 ∨ (nx L p m : Int) < lst L Q p m)
    · rw [if_pos e, if_pos ⟨this.2 e.1, e.2⟩]
    · rw [if_neg e, if_neg (fun h' => e ⟨this.1 h'.1, h'.2⟩)]
theorem lst_or {L : Rows} {P : Nat → Prop} [DecidablePred P] {p : Nat} (m : Nat) : (lst L P p m = -1 ∧ ∀ q, q < m → ¬ P (nx L p q)) ∨ ∃ q, q < m ∧ P (nx L p q) ∧ lst L P p m = (nx L p q : Int) := by
  induction m with
  | zero => exact .inl ⟨rfl, fun q h => by omega⟩
  | succ m ih =>
    have e0 : lst L P p (m + 1) = if P (nx L p m) ∧ (lst L P p m < 0 ∨ (nx L p m : Int) < lst L P p m) then (nx L p m : Int) else lst L P p m := rfl
    rw [e0]
    by_cases e : P (nx L p m) ∧ (lst L P p m < 0 ∨ (nx L p m : Int) < lst L P p m)
    · right; exact ⟨m, by omega, e.1, if_pos e⟩
    · rw [if_neg e]
      rcases ih with ⟨h1, h2⟩ | ⟨q, hq, h1, h2⟩
      · left
        refine ⟨h1, fun q hq => ?_⟩
        by_cases eq : q = m
        · subst eq; intro hP; exact e ⟨hP, .inl (by omega)⟩
        · exact h2 q (by omega)
      · exact .inr ⟨q, by omega, h1, h2⟩
open Classical in
/-- The next page where k steps are left behind it. -/
noncomputable def nxt (L : Rows) (k p : Nat) : Nat := (lst L (fun y => E L k y) p (lenN L p)).toNat
open Classical in
theorem nxt_ok {n : Nat} {L : Rows} (hs : storyOk n L) {k p : Nat} (hp : p < n) (h : E L (k + 1) p) : lst L (fun y => E L k y) p (lenN L p) = (nxt L k p : Int) ∧ edge L p (nxt L k p) ∧ E L k (nxt L k p) := by
  rcases lst_or (L := L) (P := fun y => E L k y) (p := p) (lenN L p) with ⟨_, h2⟩ | ⟨q, hq, h1, h2⟩
  · exfalso
    obtain ⟨y, ⟨q, hq, e⟩, hy⟩ := h
    have : nx L p q = y := by unfold nx; rw [e]; simp
    exact h2 q hq (this ▸ hy)
  · have : nxt L k p = nx L p q := by unfold nxt; rw [h2]; simp
    rw [this]
    exact ⟨h2, (edge_nx hs hp hq).1, h1⟩
/-- The pages of the way: the first j of it where it has k steps, and the page behind them. -/
noncomputable def pg (L : Rows) (k : Nat) : Nat → Nat
  | 0 => 0
  | j + 1 => nxt L (k - (j + 1)) (pg L k j)
theorem pg_ok {n : Nat} {L : Rows} (hs : storyOk n L) {k : Nat} (h : E L k 0) (j : Nat) (hj : j ≤ k) : pg L k j < n ∧ E L (k - j) (pg L k j) ∧ (pg L k j = 0 ∨ Path L 0 (pg L k j)) := by
  induction j with
  | zero => exact ⟨hs.1.1, h, .inl rfl⟩
  | succ j ih =>
    obtain ⟨i1, i2, i3⟩ := ih (by omega)
    rw [show k - j = k - (j + 1) + 1 by omega] at i2
    obtain ⟨_, o1, o2⟩ := nxt_ok hs i1 i2
    have hp : Path L (pg L k j) (nxt L (k - (j + 1)) (pg L k j)) := .one o1
    refine ⟨edge_lt hs i1 o1, o2, .inr ?_⟩
    rcases i3 with i3 | i3
    · rw [i3] at hp
      show Path L 0 (nxt L (k - (j + 1)) (pg L k j))
      rw [i3]; exact hp
    · exact i3.trans hp
noncomputable def way (L : Rows) (k j : Nat) : List Int := (List.range (j + 1)).map fun i => (pg L k i : Int)
theorem way_succ (L : Rows) (k j : Nat) : way L k (j + 1) = way L k j ++ [(pg L k (j + 1) : Int)] := by unfold way; rw [List.range_succ, List.map_append]; rfl
theorem way_len (L : Rows) (k j : Nat) : (way L k j).length = j + 1 := by unfold way; simp
end Go.Proofs.Ytjnjlpljakkakaa
