/-
  Which pages are met from a page: paths, the rounds of the reference's table, a search in depth. No program in sight.
  By an AI agent.
-/
import Derived.Test.YtjnjlpljakkakaaStoryOk
namespace Go.Proofs.Ytjnjlpljakkakaa
set_option maxRecDepth 100000
set_option linter.unusedVariables false

def edge (L : Rows) (i j : Nat) : Prop := ∃ q, q < lenN L i ∧ (rowN L i).getD q 0 = (j : Int)
inductive Path (L : Rows) : Nat → Nat → Prop
  | one {i j : Nat} : edge L i j → Path L i j
  | more {i k j : Nat} : edge L i k → Path L k j → Path L i j
theorem Path.trans {L : Rows} {i k j : Nat} (h : Path L i k) (h2 : Path L k j) : Path L i j := by
  induction h with
  | one e => exact .more e h2
  | more e _ ih => exact .more e (ih h2)
theorem edge_lt {n : Nat} {L : Rows} (h : storyOk n L) {i j : Nat} (hi : i < n) (he : edge L i j) : j < n := by
  obtain ⟨q, hq, e⟩ := he
  have := ((h.2 i hi).2 q hq).1.2
  rw [e] at this
  omega
theorem Path.lt {n : Nat} {L : Rows} (h : storyOk n L) {i j : Nat} (hp : Path L i j) (hi : i < n) : j < n := by
  induction hp with
  | one e => exact edge_lt h hi e
  | more e _ ih => exact ih (edge_lt h hi e)
/-- The table behind m rounds. -/
def Rm (L : Rows) : Nat → Nat → Nat → Prop
  | 0, i, j => edge L i j
  | m + 1, i, j => Rm L m i j ∨ (Rm L m i m ∧ Rm L m m j)
theorem Rm_mono {L : Rows} {i j m : Nat} (k : Nat) (h : Rm L m i j) : Rm L (m + k) i j := by
  induction k with
  | zero => exact h
  | succ k ih => exact .inl ih
theorem Rm_path {L : Rows} (m : Nat) : ∀ {i j : Nat}, Rm L m i j → Path L i j := by
  induction m with
  | zero => intro i j h; exact .one h
  | succ m ih =>
    intro i j h
    rcases h with h | ⟨h1, h2⟩
    · exact ih h
    · exact (ih h1).trans (ih h2)
theorem Rm_trans {L : Rows} (m : Nat) : ∀ {a i j : Nat}, a < m → Rm L m i a → Rm L m a j → Rm L m i j := by
  induction m with
  | zero => intro a i j h; omega
  | succ m ih =>
    intro a i j ha h1 h2
    by_cases e : a = m
    · subst e
      have k1 : Rm L a i a := by rcases h1 with h | ⟨h, _⟩ <;> exact h
      have k2 : Rm L a a j := by rcases h2 with h | ⟨_, h⟩ <;> exact h
      exact .inr ⟨k1, k2⟩
    · have ha' : a < m := by omega
      rcases h1 with h1 | ⟨h1, h1'⟩ <;> rcases h2 with h2 | ⟨h2, h2'⟩
      · exact .inl (ih ha' h1 h2)
      · exact .inr ⟨ih ha' h1 h2, h2'⟩
      · exact .inr ⟨h1, ih ha' h1' h2⟩
      · exact .inr ⟨h1, h2'⟩
theorem Rm_all {n : Nat} {L : Rows} (h : storyOk n L) {i j : Nat} (hi : i < n) : Rm L n i j ↔ Path L i j := by
  refine ⟨Rm_path n, fun hp => ?_⟩
  induction hp with
  | one e => have := Rm_mono n (show Rm L 0 _ _ from e); rwa [Nat.zero_add] at this
  | more e _ ih =>
    have hk := edge_lt h hi e
    have := Rm_mono n (show Rm L 0 _ _ from e)
    rw [Nat.zero_add] at this
    exact Rm_trans n hk this (ih hk)
/-- Words of the table. -/
def TabOk (L : Rows) (m n : Nat) (f : Nat → Nat) : Prop := ∀ i, i < n → ∀ j, (f i).testBit j = true ↔ Rm L m i j
/-- .. within a round. -/
def TabIn (L : Rows) (m i n : Nat) (f : Nat → Nat) : Prop := ∀ i', i' < n → ∀ j, (f i').testBit j = true ↔ Rm L (if i' < i then m + 1 else m) i' j
theorem TabIn.start {L : Rows} {m n : Nat} {f : Nat → Nat} (h : TabOk L m n f) : TabIn L m 0 n f := by
  intro i hi j; rw [if_neg (by omega)]; exact h i hi j
theorem TabIn.done {L : Rows} {m n : Nat} {f : Nat → Nat} (h : TabIn L m n n f) : TabOk L (m + 1) n f := by
  intro i hi j; have := h i hi j; rwa [if_pos hi] at this
theorem TabIn.own {L : Rows} {m i n : Nat} {f : Nat → Nat} (h : TabIn L m i n f) (hm : m < n) (j : Nat) : (f m).testBit j = true ↔ Rm L m m j := by
  rw [h m hm j]
  by_cases e : m < i
  · rw [if_pos e]
    constructor
    · rintro (h | ⟨_, h⟩) <;> exact h
    · exact .inl
  · rw [if_neg e]
theorem TabIn.next_or {L : Rows} {m i n : Nat} {f : Nat → Nat} (h : TabIn L m i n f) (hi : i < n) (hm : m < n) (hb : (f i).testBit m = true) : TabIn L m (i + 1) n (fun x => if x = i then f i ||| f m else f x) := by
  intro i' hi' j
  by_cases e : i' = i
  · subst e
    rw [if_pos (by omega)]
    simp only [if_true, Nat.testBit_or, Bool.or_eq_true]
    rw [h.own hm j]
    have h1 := h i' hi' j
    have h2 := h i' hi' m
    rw [if_neg (by omega)] at h1 h2
    rw [h1]
    constructor
    · rintro (h | h')
      · exact .inl h
      · exact .inr ⟨h2.1 hb, h'⟩
    · rintro (h | ⟨_, h'⟩)
      · exact .inl h
      · exact .inr h'
  · simp only [if_neg e]
    have h1 := h i' hi' j
    rw [h1]
    by_cases e2 : i' < i
    · rw [if_pos e2, if_pos (by omega)]
    · rw [if_neg e2, if_neg (by omega)]
theorem TabIn.next_no {L : Rows} {m i n : Nat} {f : Nat → Nat} (h : TabIn L m i n f) (hi : i < n) (hm : m < n) (hb : (f i).testBit m = false) : TabIn L m (i + 1) n f := by
  intro i' hi' j
  have h1 := h i' hi' j
  by_cases e : i' = i
  · subst e
    rw [if_pos (by omega)]
    rw [if_neg (by omega)] at h1
    have h2 := h i' hi' m
    rw [if_neg (by omega)] at h2
    rw [h1]
    constructor
    · exact .inl
    · rintro (h | ⟨h, _⟩)
      · exact h
      · rw [h2.2 h] at hb; cases hb
  · rw [h1]
    by_cases e2 : i' < i
    · rw [if_pos e2, if_pos (by omega)]
    · rw [if_neg e2, if_neg (by omega)]
/-- The first words. -/
def TabNew (L : Rows) (k i n : Nat) (f : Nat → Nat) : Prop := ∀ k', k' < n → ∀ j, (f k').testBit j = true ↔ ∃ q, q < (if k' < k then lenN L k' else if k' = k then i else 0) ∧ (rowN L k').getD q 0 = (j : Int)
theorem TabNew.start {L : Rows} {n : Nat} : TabNew L 0 0 n (fun _ => 0) := by
  intro k hk j
  rw [if_neg (by omega)]
  constructor
  · intro h; simp at h
  · rintro ⟨q, hq, _⟩; split at hq <;> omega
theorem TabNew.row {L : Rows} {k n : Nat} {f : Nat → Nat} (h : TabNew L k (lenN L k) n f) : TabNew L (k + 1) 0 n f := by
  intro k' hk' j
  rw [h k' hk' j]
  by_cases e : k' < k
  · rw [if_pos e, if_pos (by omega)]
  · by_cases e2 : k' = k
    · subst e2; rw [if_neg e, if_pos rfl, if_pos (by omega)]
    · rw [if_neg e, if_neg e2, if_neg (by omega)]
      split <;> rfl
theorem TabNew.next {L : Rows} {k i n x : Nat} {f : Nat → Nat} (h : TabNew L k i n f) (hk : k < n) (hx : (rowN L k).getD i 0 = (x : Int)) : TabNew L k (i + 1) n (fun y => if y = k then f k ||| 2 ^ x else f y) := by
  intro k' hk' j
  have h1 := h k' hk' j
  by_cases e : k' = k
  · subst e
    rw [if_neg (Nat.lt_irrefl _), if_pos rfl] at h1
    rw [if_neg (Nat.lt_irrefl _), if_pos rfl]
    simp only [if_true, Nat.testBit_or, Bool.or_eq_true, Nat.testBit_two_pow, decide_eq_true_eq]
    rw [h1]
    constructor
    · rintro (⟨q, hq, e⟩ | e)
      · exact ⟨q, by omega, e⟩
      · subst e; exact ⟨i, by omega, hx⟩
    · rintro ⟨q, hq, e⟩
      by_cases eq : q = i
      · subst eq; right; rw [hx] at e; omega
      · exact .inl ⟨q, by omega, e⟩
  · simp only [if_neg e]
    rw [h1]
    by_cases e2 : k' < k
    · rw [if_pos e2, if_pos e2]
    · rw [if_neg e2, if_neg e, if_neg e2]
theorem TabNew.done {L : Rows} {n : Nat} {f : Nat → Nat} (h : TabNew L n 0 n f) : TabOk L 0 n f := by
  intro i hi j
  have := h i hi j
  rw [if_pos hi] at this
  exact this
/-! ### A search in depth -/
/-- Pages that are not yet seen. -/
def unseen (n : Nat) (S : Nat → Bool) : Nat := ((List.range n).filter fun i => !S i).length
theorem unseen_mono {n : Nat} {S T : Nat → Bool} (h : ∀ i, S i = true → T i = true) : unseen n T ≤ unseen n S := by
  unfold unseen
  induction n with
  | zero => simp
  | succ n ih =>
    simp only [List.range_succ, List.filter_append, List.length_append]
    have : (List.filter (fun i => !T i) [n]).length ≤ (List.filter (fun i => !S i) [n]).length := by
      cases hS : S n
      · simp [hS]; exact Nat.le_trans (List.length_filter_le _ _) (Nat.le_refl _)
      · simp [h n hS]
    omega
theorem unseen_lt {n p : Nat} {S T : Nat → Bool} (h : ∀ i, S i = true → T i = true) (hp : p < n) (h1 : S p = false) (h2 : T p = true) : unseen n T < unseen n S := by
  unfold unseen
  induction n with
  | zero => omega
  | succ n ih =>
    simp only [List.range_succ, List.filter_append, List.length_append]
    by_cases e : p = n
    · subst e
      have := unseen_mono (n := p) h
      unfold unseen at this
      simp [h1, h2]
      omega
    · have i1 := ih (by omega)
      have : (List.filter (fun i => !T i) [n]).length ≤ (List.filter (fun i => !S i) [n]).length := by
        cases hS : S n
        · simp [hS]; exact Nat.le_trans (List.length_filter_le _ _) (Nat.le_refl _)
        · simp [h n hS]
      omega
/-- What a search from p adds. -/
structure Dfs (L : Rows) (p : Nat) (S T : Nat → Bool) : Prop where
  sub : ∀ i, S i = true → T i = true
  self : T p = true
  new : ∀ x, T x = true → S x = false → x = p ∨ Path L p x
  shut : ∀ x, T x = true → S x = false → ∀ y, edge L x y → T y = true
/-- .. when the first q pages that follow p are done; U is S and p. -/
structure DfsIn (L : Rows) (p q : Nat) (S U T : Nat → Bool) : Prop where
  sub : ∀ i, U i = true → T i = true
  new : ∀ x, T x = true → S x = false → x = p ∨ Path L p x
  shut : ∀ x, T x = true → U x = false → ∀ y, edge L x y → T y = true
  row : ∀ q', q' < q → ∀ y : Nat, (rowN L p).getD q' 0 = (y : Int) → T y = true
theorem DfsIn.start {L : Rows} {p : Nat} {S : Nat → Bool} : DfsIn L p 0 S (fun i => if i = p then true else S i) (fun i => if i = p then true else S i) := by
  refine ⟨fun i h => h, fun x h1 h2 => ?_, fun x h1 h2 => ?_, fun q h => absurd h (Nat.not_lt_zero q)⟩
  · by_cases e : x = p
    · exact .inl e
    · simp only [if_neg e] at h1; rw [h1] at h2; cases h2
  · rw [h1] at h2; cases h2
theorem DfsIn.next {L : Rows} {p q y : Nat} {S U T T' : Nat → Bool} (h : DfsIn L p q S U T) (hy : (rowN L p).getD q 0 = (y : Int)) (hq : q < lenN L p) (hSU : ∀ i, S i = true → U i = true) (d : Dfs L y T T') : DfsIn L p (q + 1) S U T' := by
  have he : edge L p y := ⟨q, hq, hy⟩
  refine ⟨fun i hi => d.sub i (h.sub i hi), fun x h1 h2 => ?_, fun x h1 h2 z hz => ?_, fun q' hq' z hz => ?_⟩
  · cases hT : T x
    · rcases d.new x h1 hT with e | e
      · subst e; exact .inr (.one he)
      · exact .inr (.more he e)
    · exact h.new x hT h2
  · cases hT : T x
    · exact d.shut x h1 hT z hz
    · exact d.sub z (h.shut x hT h2 z hz)
  · by_cases e : q' = q
    · subst e
      rw [hy] at hz
      have : z = y := by omega
      subst this
      exact d.self
    · exact d.sub z (h.row q' (by omega) z hz)
theorem DfsIn.done {L : Rows} {p : Nat} {S T : Nat → Bool} (h : DfsIn L p (lenN L p) S (fun i => if i = p then true else S i) T) : Dfs L p S T := by
  refine ⟨fun i hi => h.sub i (by show (if i = p then true else S i) = true; split <;> first | rfl | exact hi), h.sub p (by simp), h.new, fun x h1 h2 y hy => ?_⟩
  by_cases e : x = p
  · subst e
    obtain ⟨q, hq, e⟩ := hy
    exact h.row q hq y e
  · exact h.shut x h1 (by simp only [if_neg e]; exact h2) y hy
theorem Dfs.whole {L : Rows} {p : Nat} {T : Nat → Bool} (h : Dfs L p (fun _ => false) T) (x : Nat) : T x = true ↔ (x = p ∨ Path L p x) := by
  refine ⟨fun hx => h.new x hx rfl, fun hx => ?_⟩
  have hp : ∀ {i j : Nat}, Path L i j → T i = true → T j = true := by
    intro i j hp
    induction hp with
    | one e => intro hi; exact h.shut _ hi rfl _ e
    | more e _ ih => intro hi; exact ih (h.shut _ hi rfl _ e)
  rcases hx with rfl | hx
  · exact h.self
  · exact hp hx h.self
end Go.Proofs.Ytjnjlpljakkakaa
