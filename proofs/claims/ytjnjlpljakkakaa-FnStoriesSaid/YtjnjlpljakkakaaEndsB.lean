/-
  The rounds of the reference's table of steps, and what both sides' ways come to. No program in sight.
  By an AI agent.
-/
import Derived.Test.YtjnjlpljakkakaaEnds
namespace Go.Proofs.Ytjnjlpljakkakaa
set_option maxRecDepth 100000
set_option linter.unusedVariables false

/-- Within round r, at page k, the first i of its pages done. -/
structure RI (n : Nat) (L : Rows) (X : Nat → Prop) (m : Bool) (r k i : Nat) (f : Nat → Int) : Prop where
  snd : Snd n L f
  cpl : ∀ p, p < n → Cpl n L X m r p f
  done : ∀ p, p < k → p < n → Cpl n L X m (r + 1) p f
  part : X k → ∀ q, q < i → ∀ j, j ≤ r → E L j (nx L k q) → 0 ≤ f k ∧ if m then ((j + 1 : Nat) : Int) ≤ f k else f k ≤ ((j + 1 : Nat) : Int)
section
variable {n : Nat} {L : Rows} {X : Nat → Prop} {m : Bool} {r k i : Nat} {f : Nat → Int}
theorem RI.start (h : Snd n L f) (hc : ∀ p, p < n → Cpl n L X m r p f) : RI n L X m r 0 0 f := ⟨h, hc, fun p hp => absurd hp (Nat.not_lt_zero p), fun _ q hq => absurd hq (Nat.not_lt_zero q)⟩
theorem RI.finish (h : RI n L X m r n 0 f) : ∀ p, p < n → Cpl n L X m (r + 1) p f := fun p hp => h.done p hp hp
theorem RI.row (hs : storyOk n L) (h : RI n L X m r k (lenN L k) f) (hk : k < n) : RI n L X m r (k + 1) 0 f := by
  refine ⟨h.snd, h.cpl, fun p hp hpn => ?_, fun _ q hq => absurd hq (Nat.not_lt_zero q)⟩
  by_cases e : p = k
  · subst e
    intro hX j hj he
    cases j with
    | zero => exact h.cpl p hk hX 0 (Nat.zero_le _) he
    | succ j =>
      obtain ⟨y, ⟨q, hq, e⟩, hy⟩ := he
      have : nx L p q = y := by unfold nx; rw [e]; simp
      exact h.part hX q hq j (by omega) (this ▸ hy)
  · exact h.done p (by omega) hpn
theorem RI.next (hs : storyOk n L) (h : RI n L X m r k i f) (hk : k < n) (hi : i < lenN L k) (hr : r < n) (hX : X k → X (nx L k i)) (hbd : m = true → ∀ p, p < n → X p → ∀ j, E L j p → j < n) :
    RI n L X m r k (i + 1) (fun p => if p = k then stp n m (f (nx L k i)) (f k) else f p) := by
  have he := (edge_nx hs hk hi).1
  have hy := edge_lt hs hk he
  have hb := stp_better n m (f (nx L k i)) (f k)
  have hcp : ∀ r' p, p < n → Cpl n L X m r' p f → Cpl n L X m r' p (fun p => if p = k then stp n m (f (nx L k i)) (f k) else f p) := by
    intro r' p hp hc hXp j hj hej
    have := hc hXp j hj hej
    by_cases e : p = k
    · subst e; simp only [if_true]; exact hb.cpl this
    · simp only [if_neg e]; exact this
  refine ⟨stp_snd h.snd hy he, fun p hp => hcp r p hp (h.cpl p hp), fun p hp hpn => hcp (r + 1) p hpn (h.done p hp hpn), fun hXk q hq j hj hej => ?_⟩
  simp only [if_true]
  by_cases e : q = i
  · subst e
    have hc := h.cpl _ hy (hX hXk) j hj hej
    refine stp_at hc.1 ?_ hc.2
    cases m
    · have := hc.2
      simp only [if_false, Bool.false_eq_true] at this
      omega
    · rcases h.snd _ hy with h1 | ⟨h1, _, h2⟩
      · omega
      · have := hbd rfl _ hy (hX hXk) _ h2
        omega
  · exact hb.cpl (h.part hXk q (by omega) j hj hej)
end
theorem snd_new (n : Nat) (L : Rows) : Snd n L (fun p => if lenN L p = 0 then 0 else -1) := by
  intro p hp
  by_cases e : lenN L p = 0
  · simp only [if_pos e]; exact .inr ⟨by omega, by omega, e⟩
  · simp only [if_neg e]; exact .inl trivial
theorem cpl_new (n : Nat) (L : Rows) (X : Nat → Prop) (m : Bool) (p : Nat) : Cpl n L X m 0 p (fun p => if lenN L p = 0 then 0 else -1) := by
  intro _ j hj he
  have : j = 0 := by omega
  subst this
  have e : lenN L p = 0 := he
  simp only [if_pos e]
  cases m <;> simp
/-! ### How long a way can be -/
theorem E_rk {n : Nat} {L : Rows} (hs : storyOk n L) (j : Nat) : ∀ {p : Nat}, p < n → acy L p → E L j p → j ≤ rk n L p := by
  induction j with
  | zero => intro p _ _ _; exact Nat.zero_le _
  | succ j ih =>
    rintro p hp ha ⟨y, he, hy⟩
    have := ih (edge_lt hs hp he) (acy_next ha he) hy
    have := rk_next hs hp ha he
    omega
def leE (L : Rows) (j y : Nat) : Prop := ∃ t, t ≤ j ∧ E L t y
open Classical in
theorem E_min {n : Nat} {L : Rows} (hs : storyOk n L) {k p : Nat} (hp : p < n) (h : E L k p) (hmin : ∀ j, E L j p → k ≤ j) : k < n := by
  -- for each j ≤ k a page whose least number is j
  have hw : ∀ i, i ≤ k → ∃ y, y < n ∧ E L (k - i) y ∧ ∀ j, E L j y → k - i ≤ j := by
    intro i
    induction i with
    | zero => intro _; exact ⟨p, hp, h, fun j hj => hmin j hj⟩
    | succ i ih =>
      intro hi
      obtain ⟨y, hy, h1, h2⟩ := ih (by omega)
      rw [show k - i = k - (i + 1) + 1 by omega] at h1
      obtain ⟨z, he, hz⟩ := h1
      refine ⟨z, edge_lt hs hy he, hz, fun j hj => ?_⟩
      have := h2 (j + 1) ⟨z, he, hj⟩
      omega
  have hc : ∀ j, j ≤ k → j + 1 ≤ ((List.range n).filter fun y => decide (leE L (j) y)).length := by
    intro j
    induction j with
    | zero =>
      intro _
      obtain ⟨y, hy, h1, _⟩ := hw k (Nat.le_refl _)
      rw [Nat.sub_self] at h1
      have : y ∈ (List.range n).filter fun y => decide (leE L (0) y) := List.mem_filter.2 ⟨List.mem_range.2 hy, decide_eq_true ⟨0, Nat.le_refl _, h1⟩⟩
      exact List.length_pos_of_mem this
    | succ j ih =>
      intro hj
      have i := ih (by omega)
      obtain ⟨y, hy, h1, h2⟩ := hw (k - (j + 1)) (by omega)
      rw [show k - (k - (j + 1)) = j + 1 by omega] at h1 h2
      have := filter_lt (P := fun y => decide (leE L (j) y)) (Q := fun y => decide (leE L (j + 1) y)) (l := List.range n) (fun x _ hx => by
        obtain ⟨t, ht, het⟩ := of_decide_eq_true hx
        exact decide_eq_true ⟨t, by omega, het⟩) (List.mem_range.2 hy) (decide_eq_false (fun ⟨t, ht, het⟩ => by have := h2 t het; omega)) (decide_eq_true ⟨j + 1, Nat.le_refl _, h1⟩)
      omega
  have := hc k (Nat.le_refl _)
  have hl : ((List.range n).filter fun y => decide (leE L (k) y)).length ≤ n := Nat.le_trans (List.length_filter_le _ _) (by simp)
  omega
theorem E_least {L : Rows} {k p : Nat} (h : E L k p) : ∃ s, E L s p ∧ ∀ j, E L j p → s ≤ j := by
  induction k using Nat.strongRecOn with
  | _ k ih =>
    by_cases hj : ∃ j, j < k ∧ E L j p
    · obtain ⟨j, hj, he⟩ := hj; exact ih j hj he
    · exact ⟨k, h, fun j hej => by
        by_cases hlt : j < k
        · exact absurd ⟨j, hlt, hej⟩ hj
        · omega⟩
/-! ### The way by the table -/
theorem E_back {n : Nat} {L : Rows} (hs : storyOk n L) {k : Nat} (h : E L k 0) (j : Nat) : ∀ {t : Nat}, j ≤ k → E L t (pg L k j) → E L (j + t) 0 := by
  induction j with
  | zero => intro t _ ht; rw [Nat.zero_add]; exact ht
  | succ j ih =>
    intro t hj ht
    obtain ⟨i1, i2, _⟩ := pg_ok hs h j (by omega)
    rw [show k - j = k - (j + 1) + 1 by omega] at i2
    obtain ⟨_, o1, _⟩ := nxt_ok hs i1 i2
    have := ih (t := t + 1) (by omega) ⟨_, o1, ht⟩
    rwa [show j + (t + 1) = j + 1 + t by omega] at this
section
variable {n : Nat} {L : Rows} {X : Nat → Prop} {m : Bool} {f : Nat → Int} {s : Nat}
theorem tab_pg (hs : storyOk n L) (ht : Tab n L X m f) (h0 : X 0) (hX : ∀ p, Path L 0 p → X p) (hf : f 0 = s) (j : Nat) (hj : j ≤ s) : E L s 0 ∧ f (pg L s j) = ((s - j : Nat) : Int) := by
  have hE : E L s 0 := by
    rcases ht 0 hs.1.1 h0 with ⟨h, _⟩ | ⟨_, h, _⟩
    · omega
    · rw [hf] at h; simpa using h
  refine ⟨hE, ?_⟩
  obtain ⟨i1, i2, i3⟩ := pg_ok hs hE j hj
  have hXp : X (pg L s j) := by rcases i3 with h | h; rw [h]; exact h0; exact hX _ h
  rcases ht _ i1 hXp with ⟨_, h⟩ | ⟨h1, h2, h3⟩
  · exact absurd i2 (h _)
  · have a := h3 _ i2
    have b : E L (j + (f (pg L s j)).toNat) 0 := E_back hs hE j hj h2
    rcases ht 0 hs.1.1 h0 with ⟨h, _⟩ | ⟨_, _, h4⟩
    · omega
    · have c := h4 _ b
      rw [hf] at c
      cases m
      · simp only [if_false, Bool.false_eq_true] at a c; omega
      · simp only [if_true] at a c; omega
theorem tab_next (hs : storyOk n L) (ht : Tab n L X m f) (h0 : X 0) (hX : ∀ p, Path L 0 p → X p) (hf : f 0 = s) {j : Nat} (hj : j < s) {y : Nat} (he : edge L (pg L s j) y) : f y = f (pg L s j) - 1 ↔ E L (s - (j + 1)) y := by
  obtain ⟨hE, hfp⟩ := tab_pg hs ht h0 hX hf j (by omega)
  obtain ⟨i1, i2, i3⟩ := pg_ok hs hE j (by omega)
  have hXp : X (pg L s j) := by rcases i3 with h | h; rw [h]; exact h0; exact hX _ h
  have hXy : X y := by
    rcases i3 with h | h
    · rw [h] at he; exact hX _ (.one he)
    · exact hX _ (h.trans (.one he))
  have hy := edge_lt hs i1 he
  rcases ht y hy hXy with ⟨h1, h2⟩ | ⟨h1, h2, h3⟩
  · constructor
    · intro h; omega
    · intro h; exact absurd h (h2 _)
  · have a : E L ((f y).toNat + 1) (pg L s j) := ⟨y, he, h2⟩
    rcases ht _ i1 hXp with ⟨_, h⟩ | ⟨_, _, h5⟩
    · exact absurd i2 (h _)
    · have b := h5 _ a
      constructor
      · intro h
        have : (f y).toNat = s - (j + 1) := by omega
        rw [this] at h2; exact h2
      · intro h
        have c := h3 _ h
        cases m
        · simp only [if_false, Bool.false_eq_true] at b c; omega
        · simp only [if_true] at b c; omega
end
/-! ### Both results -/
/-- s is the least (m = false) or the greatest (m = true) number of steps to an end. -/
def isBest (L : Rows) (m : Bool) (s : Nat) : Prop := E L s 0 ∧ ∀ k, E L k 0 → if m then k ≤ s else s ≤ k
theorem isBest.uniq {L : Rows} {m : Bool} {s t : Nat} (h : isBest L m s) (h2 : isBest L m t) : s = t := by
  have a := h.2 t h2.1
  have b := h2.2 s h.1
  cases m
  · simp only [if_false, Bool.false_eq_true] at a b; omega
  · simp only [if_true] at a b; omega
def okFor (n : Nat) (L : Rows) (m : Bool) : Prop := storyOk n L ∧ (m = true → ¬ endless n L)
open Classical in
noncomputable def tlR (n : Nat) (L : Rows) (m : Bool) : List Int := if h : okFor n L m ∧ ∃ s, isBest L m s then way L h.2.choose h.2.choose else []
open Classical in
theorem tlR_no {n : Nat} {L : Rows} {m : Bool} (h : ¬ okFor n L m ∨ ∀ k, ¬ E L k 0) : tlR n L m = [] := by
  unfold tlR
  rw [dif_neg]
  rintro ⟨h1, s, h2⟩
  rcases h with h | h
  · exact h h1
  · exact h s h2.1
open Classical in
theorem tlR_yes {n : Nat} {L : Rows} {m : Bool} {s : Nat} (h : okFor n L m) (hb : isBest L m s) : tlR n L m = way L s s := by
  unfold tlR
  have hh : okFor n L m ∧ ∃ s, isBest L m s := ⟨h, s, hb⟩
  rw [dif_pos hh, (hh.2.choose_spec).uniq hb]
theorem best_lt {n : Nat} {L : Rows} {m : Bool} {s : Nat} (h : okFor n L m) (hb : isBest L m s) : s < n := by
  cases m
  · exact E_min h.1 h.1.1.1 hb.1 (fun j hj => by have := hb.2 j hj; simpa using this)
  · have ha := endless_not h.1 (h.2 rfl)
    have := E_rk h.1 s h.1.1.1 ha hb.1
    have := rk_lt h.1.1.1 ha
    omega
open Classical in
theorem tlR_len (n : Nat) (L : Rows) (m : Bool) : (tlR n L m).length ≤ 16 := by
  unfold tlR
  split
  · rename_i h
    rw [way_len]
    have := best_lt h.1 h.2.choose_spec
    have := h.1.1.1.2
    omega
  · simp
end Go.Proofs.Ytjnjlpljakkakaa
