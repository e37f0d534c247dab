/-
  Stories: the plain law of reached and lost pages, of tales and their lengths. No program in sight.
  By an AI agent.
-/
import Derived.Test.YtjnjlpljakkakaaLost
import Derived.Test.YtjnjlpljakkakaaEndsB
namespace Go.Proofs.Ytjnjlpljakkakaa
set_option maxRecDepth 100000
set_option linter.unusedVariables false

theorem mem_fl {P : Nat → Bool} {n k : Nat} : (fl P n).contains (k : Int) = true ↔ k < n ∧ P k = true := by
  rw [List.contains_iff_mem]
  unfold fl
  simp only [List.mem_map, List.mem_filter, List.mem_range]
  constructor
  · rintro ⟨x, hx, e⟩
    have : x = k := by
      have e' : (x : Int) = (k : Int) := e
      omega
    subst this; exact hx
  · intro h; exact ⟨k, h, rfl⟩
open Classical in
/-- Page k is met. -/
noncomputable def metB (L : Rows) (k : Nat) : Bool := decide (k = 0 ∨ Path L 0 k)
open Classical in
theorem metB_iff {L : Rows} {k : Nat} : metB L k = true ↔ (k = 0 ∨ Path L 0 k) := by unfold metB; simp
open Classical in
theorem rf_has {n : Nat} {L : Rows} (hs : storyOk n L) {k : Nat} (hk : k < n) : (rfR n L 0).contains (k : Int) = metB L k := by
  have h := rfR_yes (p := 0) hs hs.1.1 (P := metB L) (fun k _ => metB_iff)
  rw [show (0 : Int) = ((0 : Nat) : Int) from rfl, h]
  cases e : metB L k
  · cases e2 : (fl (metB L) n).contains (k : Int)
    · rfl
    · rw [(mem_fl.1 e2).2] at e; cases e
  · exact mem_fl.2 ⟨hk, e⟩
open Classical in
theorem lp_has {n : Nat} {L : Rows} (hs : storyOk n L) {k : Nat} (hk : k < n) : (lpR n L).contains (k : Int) = !metB L k := by
  have h := lpR_yes hs (P := fun k => !metB L k) (fun k _ => by rw [Bool.not_eq_false']; exact metB_iff)
  rw [h]
  cases e : metB L k
  · exact mem_fl.2 ⟨hk, by simp [e]⟩
  · cases e2 : (fl (fun k => !metB L k) n).contains (k : Int)
    · rfl
    · have := (mem_fl.1 e2).2; simp [e] at this
theorem met_next {L : Rows} {k y : Nat} (h : metB L k = true) (he : edge L k y) : metB L y = true := by
  rw [metB_iff] at h ⊢
  rcases h with rfl | h
  · exact .inr (.one he)
  · exact .inr (h.trans (.one he))
theorem sumF_pos {f : Nat → Int} (m : Nat) (h : ∀ q, q < m → 1 ≤ f q) : 0 ≤ sumF f m ∧ (0 < m → 1 ≤ sumF f m) := by
  induction m with
  | zero => exact ⟨Int.le_refl _, fun h => absurd h (Nat.lt_irrefl _)⟩
  | succ m ih =>
    have i := ih (fun q hq => h q (by omega))
    have j := h m (by omega)
    show 0 ≤ sumF f m + f m ∧ (_ → 1 ≤ sumF f m + f m)
    omega
theorem tal_pos {n : Nat} {L : Rows} (hs : storyOk n L) (r : Nat) : ∀ {p : Nat}, p < n → acy L p → rk n L p ≤ r → 1 ≤ talN n L p := by
  induction r with
  | zero =>
    intro p hp ha hr
    rw [talN_eq hs hp ha]
    by_cases h0 : lenN L p = 0
    · rw [if_pos h0]; omega
    · exfalso
      have := rk_next hs hp ha (edge_nx hs hp (q := 0) (by omega)).1
      omega
  | succ r ih =>
    intro p hp ha hr
    rw [talN_eq hs hp ha]
    by_cases h0 : lenN L p = 0
    · rw [if_pos h0]; omega
    · rw [if_neg h0]
      refine (sumF_pos (lenN L p) (fun q hq => ?_)).2 (by omega)
      have he := (edge_nx hs hp hq).1
      exact ih (edge_lt hs hp he) (acy_next ha he) (by have := rk_next hs hp ha he; omega)
/-- The count is -1 just where the story is endless, and 1 at least elsewhere. -/
theorem ct_law {n : Nat} {L : Rows} (hs : storyOk n L) : (endB n L = true ∧ ctR n L = -1) ∨ (endB n L = false ∧ 1 ≤ ctR n L) := by
  by_cases he : endless n L
  · exact .inl ⟨endB_t hs he, ctR_no (.inr he)⟩
  · right
    refine ⟨endB_f (fun h => he h.2), ?_⟩
    rw [ctR_yes hs he]
    exact tal_pos hs _ hs.1.1 (endless_not hs he) (Nat.le_refl _)
/-! ### ends -/
noncomputable def endsN (n : Nat) (L : Rows) : Nat → Bool
  | 0 => false
  | k + 1 => endsN n L k || (metB L k && decide (lenN L k = 0))
theorem endsN_iff {n : Nat} {L : Rows} (m : Nat) : endsN n L m = true ↔ ∃ k, k < m ∧ metB L k = true ∧ lenN L k = 0 := by
  induction m with
  | zero => exact ⟨(fun h => by cases h), fun ⟨k, hk, _⟩ => by omega⟩
  | succ m ih =>
    show (endsN n L m || (metB L m && decide (lenN L m = 0))) = true ↔ _
    rw [Bool.or_eq_true, ih, Bool.and_eq_true, decide_eq_true_eq]
    constructor
    · rintro (⟨k, hk, h⟩ | h)
      · exact ⟨k, by omega, h⟩
      · exact ⟨m, by omega, h⟩
    · rintro ⟨k, hk, h⟩
      by_cases e : k = m
      · subst e; exact .inr h
      · exact .inl ⟨k, by omega, h⟩
theorem path_E {L : Rows} {i j : Nat} (h : Path L i j) (h0 : lenN L j = 0) : ∃ k, E L k i := by
  induction h with
  | one e => exact ⟨1, _, e, h0⟩
  | more e _ ih => obtain ⟨k, hk⟩ := ih h0; exact ⟨k + 1, _, e, hk⟩
theorem ends_iff {n : Nat} {L : Rows} (hs : storyOk n L) : endsN n L n = true ↔ ∃ k, E L k 0 := by
  rw [endsN_iff]
  constructor
  · rintro ⟨k, hk, hm, h0⟩
    rw [metB_iff] at hm
    rcases hm with rfl | hm
    · exact ⟨0, h0⟩
    · exact path_E hm h0
  · rintro ⟨k, hk⟩
    obtain ⟨h1, h2, h3⟩ := pg_ok hs hk k (Nat.le_refl _)
    rw [Nat.sub_self] at h2
    exact ⟨_, h1, metB_iff.2 h3, h2⟩
theorem short_best {L : Rows} {k : Nat} (h : E L k 0) : ∃ s, isBest L false s := by
  obtain ⟨s, h1, h2⟩ := E_least h
  exact ⟨s, h1, fun k hk => by simpa using h2 k hk⟩
theorem okF {n : Nat} {L : Rows} (hs : storyOk n L) : okFor n L false := ⟨hs, fun h => by cases h⟩
theorem acy_E {n : Nat} {L : Rows} (hs : storyOk n L) (r : Nat) : ∀ {p : Nat}, p < n → acy L p → rk n L p ≤ r → ∃ k, E L k p := by
  induction r with
  | zero =>
    intro p hp ha hr
    by_cases h0 : lenN L p = 0
    · exact ⟨0, h0⟩
    · exfalso
      have := rk_next hs hp ha (edge_nx hs hp (q := 0) (by omega)).1
      omega
  | succ r ih =>
    intro p hp ha hr
    by_cases h0 : lenN L p = 0
    · exact ⟨0, h0⟩
    · have he := (edge_nx hs hp (q := 0) (by omega)).1
      obtain ⟨k, hk⟩ := ih (edge_lt hs hp he) (acy_next ha he) (by have := rk_next hs hp ha he; omega)
      exact ⟨k + 1, _, he, hk⟩
theorem most_ex {P : Nat → Prop} (B : Nat) (hb : ∀ k, P k → k ≤ B) {k : Nat} (hk : P k) : ∃ s, P s ∧ ∀ j, P j → j ≤ s := by
  induction B generalizing k with
  | zero => exact ⟨k, hk, fun j hj => by have := hb j hj; omega⟩
  | succ B ih =>
    by_cases h : P (B + 1)
    · exact ⟨B + 1, h, hb⟩
    · exact ih (fun j hj => by
        have := hb j hj
        by_cases e : j = B + 1
        · subst e; exact absurd hj h
        · omega) hk
theorem long_best {n : Nat} {L : Rows} (hs : storyOk n L) (he : ¬ endless n L) : ∃ s, isBest L true s := by
  have ha := endless_not hs he
  obtain ⟨k, hk⟩ := acy_E hs _ hs.1.1 ha (Nat.le_refl _)
  obtain ⟨s, h1, h2⟩ := most_ex (rk n L 0) (fun j hj => E_rk hs j hs.1.1 ha hj) hk
  exact ⟨s, h1, fun k hk => by simpa using h2 k hk⟩
/-- A list is a tale: its pages follow each other from page 0 to an end, and it has no end before. -/
def isTale (n : Nat) (L : Rows) (W : List Int) : Prop := ∀ i, i < W.length → (0 ≤ W.getD i 0 ∧ W.getD i 0 < (n : Int)) ∧ (i = 0 → W.getD 0 0 = 0) ∧ (0 < i → (rowN L (W.getD (i - 1) 0).toNat).contains (W.getD i 0) = true) ∧ ((i + 1 = W.length) ↔ lenN L (W.getD i 0).toNat = 0)
theorem way_at {L : Rows} {s j i : Nat} (hi : i ≤ j) : (way L s j).getD i 0 = (pg L s i : Int) := by
  unfold way
  simp [List.getD, show i < j + 1 by omega]
theorem way_tale {n : Nat} {L : Rows} (hs : storyOk n L) {s : Nat} (h : E L s 0) : isTale n L (way L s s) := by
  intro i hi
  rw [way_len] at hi
  obtain ⟨h1, h2, _⟩ := pg_ok hs h i (by omega)
  rw [way_at (by omega : i ≤ s)]
  refine ⟨⟨by omega, by omega⟩, fun h0 => by rw [way_at (by omega : 0 ≤ s)]; rfl, fun h0 => ?_, ?_⟩
  · rw [way_at (by omega : i - 1 ≤ s)]
    obtain ⟨g1, g2, _⟩ := pg_ok hs h (i - 1) (by omega)
    rw [show s - (i - 1) = s - (i - 1 + 1) + 1 by omega] at g2
    obtain ⟨_, ⟨q, hq, e⟩, _⟩ := nxt_ok hs g1 g2
    have hpi : pg L s i = nxt L (s - (i - 1 + 1)) (pg L s (i - 1)) := by
      obtain ⟨j, rfl⟩ : ∃ j, i = j + 1 := ⟨i - 1, by omega⟩
      rfl
    rw [hpi, List.contains_iff_mem, ← e, Int.toNat_natCast, getD_at _ _ hq]
    exact List.getElem_mem _
  · rw [way_len, Int.toNat_natCast]
    constructor
    · intro e
      have : s - i = 0 := by omega
      rw [this] at h2; exact h2
    · intro e
      by_cases hlt : i = s
      · omega
      · exfalso
        rw [show s - i = s - (i + 1) + 1 by omega] at h2
        have := E_len h2
        omega
theorem nil_tale (n : Nat) (L : Rows) : isTale n L [] := fun i hi => absurd hi (Nat.not_lt_zero i)
/-- Both tales. -/
theorem tale_law {n : Nat} {L : Rows} (hs : storyOk n L) : isTale n L (tlR n L true) ∧ isTale n L (tlR n L false) ∧ (decide (0 < (tlR n L false).length) = endsN n L n) ∧ (tlR n L false).length ≤ n ∧
    (endB n L = true → (tlR n L true).length = 0) ∧ (endB n L = false → (tlR n L false).length ≤ (tlR n L true).length) := by
  have hS : (∃ k, E L k 0) → ∃ s, isBest L false s ∧ tlR n L false = way L s s ∧ s < n := fun ⟨k, hk⟩ => by
    obtain ⟨s, hb⟩ := short_best hk
    exact ⟨s, hb, tlR_yes (okF hs) hb, best_lt (okF hs) hb⟩
  by_cases hx : ∃ k, E L k 0
  · obtain ⟨s, hb, e, hsn⟩ := hS hx
    have hE := (ends_iff hs).2 hx
    rw [e, hE]
    have hlen : decide (0 < (way L s s).length) = true := decide_eq_true (by rw [way_len]; omega)
    by_cases he : endless n L
    · have e2 : tlR n L true = [] := tlR_no (.inl (fun h => h.2 rfl he))
      rw [e2]
      exact ⟨nil_tale _ _, way_tale hs hb.1, hlen, by rw [way_len]; omega, fun _ => rfl, fun h => by rw [endB_t hs he] at h; cases h⟩
    · obtain ⟨t, ht⟩ := long_best hs he
      have e2 : tlR n L true = way L t t := tlR_yes ⟨hs, fun _ => he⟩ ht
      rw [e2]
      refine ⟨way_tale hs ht.1, way_tale hs hb.1, hlen, by rw [way_len]; omega, fun h => ?_, fun _ => ?_⟩
      · rw [endB_f (fun h => he h.2)] at h; cases h
      · rw [way_len, way_len]
        have := ht.2 s hb.1
        simp only [if_true] at this
        omega
  · have hn : ∀ k, ¬ E L k 0 := fun k hk => hx ⟨k, hk⟩
    have e1 : tlR n L true = [] := tlR_no (.inr hn)
    have e2 : tlR n L false = [] := tlR_no (.inr hn)
    have hE : endsN n L n = false := by
      cases h : endsN n L n
      · rfl
      · exact absurd ((ends_iff hs).1 h) hx
    rw [e1, e2, hE]
    exact ⟨nil_tale _ _, nil_tale _ _, rfl, Nat.zero_le _, fun _ => rfl, fun _ => Nat.le_refl _⟩
/-! ### the small story of three pages -/
def three : Rows := [[1, 2], [], []]
theorem three_ok : storyOk 3 three := by
  refine ⟨by omega, fun k hk => ⟨?_, fun i hi => ⟨?_, fun j hj => ?_⟩⟩⟩
  · have : k = 0 ∨ k = 1 ∨ k = 2 := by omega
    rcases this with rfl | rfl | rfl <;> decide
  · have hk' : k = 0 ∨ k = 1 ∨ k = 2 := by omega
    rcases hk' with rfl | rfl | rfl
    · have : i = 0 ∨ i = 1 := by have : i < 2 := hi; omega
      rcases this with rfl | rfl <;> decide
    · exact absurd hi (Nat.not_lt_zero i)
    · exact absurd hi (Nat.not_lt_zero i)
  · have hk' : k = 0 ∨ k = 1 ∨ k = 2 := by omega
    rcases hk' with rfl | rfl | rfl
    · have : i = 1 ∧ j = 0 := by have : i < 2 := hi; omega
      obtain ⟨rfl, rfl⟩ := this
      decide
    · exact absurd hi (Nat.not_lt_zero i)
    · exact absurd hi (Nat.not_lt_zero i)
theorem three_edge {i j : Nat} (h : edge three i j) : i = 0 ∧ (j = 1 ∨ j = 2) := by
  obtain ⟨q, hq, e⟩ := h
  have hi : i = 0 := by
    rcases i with _ | _ | _ | i
    · rfl
    · exact absurd hq (Nat.not_lt_zero q)
    · exact absurd hq (Nat.not_lt_zero q)
    · exact absurd hq (Nat.not_lt_zero q)
  subst hi
  have : q = 0 ∨ q = 1 := by have : q < 2 := hq; omega
  rcases this with rfl | rfl
  · have e' : (1 : Int) = (j : Int) := e
    omega
  · have e' : (2 : Int) = (j : Int) := e
    omega
theorem three_path {i j : Nat} (h : Path three i j) : i = 0 ∧ (j = 1 ∨ j = 2) := by
  induction h with
  | one e => exact three_edge e
  | more e _ ih => have := three_edge e; omega
theorem three_ct : ctR 3 three = 2 := by
  have he : ¬ endless 3 three := fun ⟨k, _, h1, h2⟩ => by
    have := three_path h2
    omega
  rw [ctR_yes three_ok he]
  decide
end Go.Proofs.Ytjnjlpljakkakaa
