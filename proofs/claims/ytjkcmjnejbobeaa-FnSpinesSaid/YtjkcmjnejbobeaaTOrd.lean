/-
  The order of thick cards, in plain words: insertion from the back, then from both ends in turn. No program in sight.
  By an AI agent.
-/
import Derived.Test.YtjkcmjnejbobeaaOwn
namespace Go.Proofs.Ytjkcmjnejbobeaa
open Go.ChangeShapes Go.WideShapes Go.ChangeAt Go.RowKit
set_option linter.unusedVariables false

/-- Where the newcomer k settles, looking from place j down. -/
def iposF (key : Nat → Int) (L : Nat → Nat) (k : Nat) : Nat → Nat
  | 0 => 0
  | j + 1 => if key (L j) < key k then iposF key L k j else j + 1
theorem iposF_go {key : Nat → Int} {L : Nat → Nat} {k j : Nat} (h : key (L j) < key k) : iposF key L k (j + 1) = iposF key L k j := if_pos h
theorem iposF_stop {key : Nat → Int} {L : Nat → Nat} {k j : Nat} (h : ¬ key (L j) < key k) : iposF key L k (j + 1) = j + 1 := if_neg h
theorem iposF_le (key : Nat → Int) (L : Nat → Nat) (k : Nat) : ∀ j, iposF key L k j ≤ j := by
  intro j
  induction j with
  | zero => exact Nat.le_refl _
  | succ j ih =>
    by_cases h : key (L j) < key k
    · rw [iposF_go h]; omega
    · rw [iposF_stop h]; exact Nat.le_refl _
/-- m set in at place j: what stood there and behind it moves up. -/
def insF (L : Nat → Nat) (j m : Nat) : Nat → Nat := fun i => if i < j then L i else if i = j then m else if i ≤ m then L (i - 1) else i
def ordF (key : Nat → Int) : Nat → Nat → Nat
  | 0 => id
  | m + 1 => insF (ordF key m) (iposF key (ordF key m) m m) m
theorem ordF_hi (key : Nat → Int) : ∀ m i, m ≤ i → ordF key m i = i := by
  intro m
  induction m with
  | zero => intro i _; rfl
  | succ m ih =>
    intro i hi
    have h1 := iposF_le key (ordF key m) m m
    show insF _ _ _ i = i
    unfold insF
    rw [if_neg (by omega), if_neg (by omega), if_neg (by omega)]
theorem insF_top {L : Nat → Nat} {m : Nat} (h : ∀ i, m ≤ i → L i = i) (i : Nat) : insF L m m i = L i := by
  unfold insF
  by_cases h1 : i < m
  · rw [if_pos h1]
  · rw [if_neg h1]
    by_cases h2 : i = m
    · rw [if_pos h2, h i (by omega), h2]
    · rw [if_neg h2, if_neg (by omega), h i (by omega)]
theorem ordF_one (key : Nat → Int) (i : Nat) : ordF key 1 i = i := insF_top (L := id) (m := 0) (fun _ _ => rfl) i
/-- One swap of the newcomer with the one ahead of it. -/
theorem insF_swap {L : Nat → Nat} {j m : Nat} (hj : j < m) (i : Nat) : (if i = j then m else if i = j + 1 then L j else insF L (j + 1) m i) = insF L j m i := by
  unfold insF
  by_cases h1 : i = j
  · subst h1
    rw [if_pos rfl, if_neg (by omega), if_pos rfl]
  · rw [if_neg h1]
    by_cases h2 : i = j + 1
    · subst h2
      rw [if_pos rfl, if_neg (by omega), if_neg (by omega), if_pos (by omega)]
      rfl
    · rw [if_neg h2]
      by_cases h3 : i < j
      · rw [if_pos h3, if_pos (by omega)]
      · rw [if_neg h3, if_neg (by omega), if_neg h2, if_neg h1]
theorem insF_at (L : Nat → Nat) (j m : Nat) : insF L j m j = m := by
  unfold insF
  rw [if_neg (by omega), if_pos rfl]
theorem insF_lo {L : Nat → Nat} {j m i : Nat} (h : i < j) : insF L j m i = L i := if_pos h
/-- The row while it is moved up, the newcomer not set in yet. -/
def shfF (L : Nat → Nat) (j m : Nat) : Nat → Nat := fun i => if i ≤ j then L i else if i ≤ m then L (i - 1) else i
theorem shfF_top {L : Nat → Nat} {m i : Nat} (h : ∀ i, m ≤ i → L i = i) : shfF L m m i = L i := by
  unfold shfF
  by_cases h1 : i ≤ m
  · rw [if_pos h1]
  · rw [if_neg h1, if_neg h1, h i (by omega)]
theorem shfF_move {L : Nat → Nat} {j m : Nat} (hj : j < m) (i : Nat) : (if i = j + 1 then L j else shfF L (j + 1) m i) = shfF L j m i := by
  unfold shfF
  by_cases h1 : i = j + 1
  · subst h1
    rw [if_pos rfl, if_neg (by omega), if_pos (by omega)]
    rfl
  · rw [if_neg h1]
    by_cases h2 : i ≤ j
    · rw [if_pos h2, if_pos (by omega)]
    · rw [if_neg h2, if_neg (by omega)]
theorem shfF_lo {L : Nat → Nat} {j m i : Nat} (h : i ≤ j) : shfF L j m i = L i := if_pos h
theorem shfF_set {L : Nat → Nat} {j m : Nat} (i : Nat) : (if i = j then m else shfF L j m i) = insF L j m i := by
  unfold shfF insF
  by_cases h1 : i < j
  · rw [if_neg (by omega), if_pos (by omega), if_pos h1]
  · rw [if_neg h1]
    by_cases h2 : i = j
    · rw [if_pos h2, if_pos h2]
    · rw [if_neg h2, if_neg h2, if_neg (by omega)]
/-- From both ends in turn. -/
def zgF (f : Nat → Nat) (n t : Nat) : Nat := if t % 2 = 0 then f (t / 2) else f (n - 1 - t / 2)
def nl (f : Nat → Nat) (n : Nat) : List Int := (List.range n).map (fun t => ((f t : Nat) : Int))
theorem nl_len (f : Nat → Nat) (n : Nat) : (nl f n).length = n := by simp [nl]
theorem nl_at {f : Nat → Nat} {n i : Nat} (h : i < n) : (nl f n).getD i 0 = (f i : Int) := by simp [nl, List.getD, h]
theorem nl_succ (f : Nat → Nat) (n : Nat) : nl f (n + 1) = nl f n ++ [(f n : Int)] := by unfold nl; rw [List.range_succ, List.map_append]; rfl
theorem nl_congr {f g : Nat → Nat} {n : Nat} (h : ∀ i, i < n → f i = g i) : nl f n = nl g n := by
  unfold nl
  exact List.map_congr_left fun i hi => by rw [h i (List.mem_range.1 hi)]
theorem nl_set {f : Nat → Nat} {n j : Nat} (v : Nat) : (nl f n).set j (v : Int) = nl (fun i => if i = j then v else f i) n := by
  apply List.ext_getElem
  · simp [nl]
  · intro i h1 h2
    simp only [nl, List.getElem_set, List.getElem_map, List.getElem_range]
    by_cases e : j = i
    · rw [if_pos e, if_pos e.symm]
    · rw [if_neg e, if_neg (fun h => e h.symm)]
theorem nl_drop1 {f : Nat → Nat} {n k : Nat} (h : k < n) : (nl f n).take k ++ (nl f n).drop (k + 1) = nl (fun i => if i < k then f i else f (i + 1)) (n - 1) := by
  apply List.ext_getElem
  · simp [nl]; omega
  · intro i h1 h2
    have hi : i < n - 1 := by simpa [nl] using h2
    rw [List.getElem_append]
    simp only [nl, List.length_take, List.length_map, List.length_range, List.getElem_take, List.getElem_drop, List.getElem_map, List.getElem_range]
    by_cases e : i < k
    · rw [dif_pos (by omega), if_pos e]
    · rw [dif_neg (by omega), if_neg e]
      congr 2
      omega
/-! ### What the order is -/
theorem ordF_lt (key : Nat → Int) : ∀ m i, i < m → ordF key m i < m := by
  intro m
  induction m with
  | zero => intro i h; omega
  | succ m ih =>
    intro i hi
    have hle := iposF_le key (ordF key m) m m
    show insF _ _ _ i < m + 1
    generalize iposF key (ordF key m) m m = j at *
    unfold insF
    by_cases h1 : i < j
    · rw [if_pos h1]; have := ih i (by omega); omega
    · rw [if_neg h1]
      by_cases h2 : i = j
      · rw [if_pos h2]; omega
      · rw [if_neg h2, if_pos (by omega)]
        have := ih (i - 1) (by omega); omega
theorem ordF_inj (key : Nat → Int) : ∀ m a b, a < b → b < m → ordF key m a ≠ ordF key m b := by
  intro m
  induction m with
  | zero => intro a b _ h; omega
  | succ m ih =>
    intro a b hab hb
    have hle := iposF_le key (ordF key m) m m
    have hlt := ordF_lt key m
    show insF _ _ _ a ≠ insF _ _ _ b
    generalize iposF key (ordF key m) m m = j at *
    unfold insF
    by_cases a1 : a < j
    · rw [if_pos a1]
      by_cases b1 : b < j
      · rw [if_pos b1]; exact ih a b hab (by omega)
      · rw [if_neg b1]
        by_cases b2 : b = j
        · rw [if_pos b2]; have := hlt a (by omega); omega
        · rw [if_neg b2, if_pos (by omega)]; exact ih a (b - 1) (by omega) (by omega)
    · rw [if_neg a1, if_neg (show ¬ b < j by omega), if_neg (show ¬ b = j by omega), if_pos (show b ≤ m by omega)]
      by_cases a2 : a = j
      · rw [if_pos a2]; have := hlt (b - 1) (by omega); omega
      · rw [if_neg a2, if_pos (by omega)]; exact ih (a - 1) (b - 1) (by omega) (by omega)
/-- All of whom the newcomer goes ahead are thinner; the one that it stops behind is not. -/
theorem iposF_behind {key : Nat → Int} {L : Nat → Nat} {k : Nat} : ∀ j i, iposF key L k j ≤ i → i < j → key (L i) < key k := by
  intro j
  induction j with
  | zero => intro i _ h; omega
  | succ j ih =>
    intro i h1 h2
    by_cases h : key (L j) < key k
    · rw [iposF_go h] at h1
      by_cases e : i = j
      · subst e; exact h
      · exact ih i h1 (by omega)
    · rw [iposF_stop h] at h1; omega
theorem iposF_ahead {key : Nat → Int} {L : Nat → Nat} {k : Nat} : ∀ j p, iposF key L k j = p + 1 → key k ≤ key (L p) := by
  intro j
  induction j with
  | zero => intro p h; cases h
  | succ j ih =>
    intro p h0
    by_cases h : key (L j) < key k
    · rw [iposF_go h] at h0; exact ih p h0
    · rw [iposF_stop h] at h0
      have : j = p := by omega
      subst this; omega
theorem ordF_down (key : Nat → Int) : ∀ m a b, a ≤ b → b < m → key (ordF key m b) ≤ key (ordF key m a) := by
  intro m
  induction m with
  | zero => intro a b _ h; omega
  | succ m ih =>
    intro a b hab hb
    have hle := iposF_le key (ordF key m) m m
    have hbe := iposF_behind (key := key) (L := ordF key m) (k := m) m
    have hah := iposF_ahead (key := key) (L := ordF key m) (k := m) m
    show key (insF _ _ _ b) ≤ key (insF _ _ _ a)
    generalize iposF key (ordF key m) m m = j at *
    unfold insF
    by_cases a1 : a < j
    · rw [if_pos a1]
      obtain ⟨p, rfl⟩ : ∃ p, j = p + 1 := ⟨j - 1, by omega⟩
      have hk := hah p rfl
      have hpa := ih a p (by omega) (by omega)
      by_cases b1 : b < p + 1
      · rw [if_pos b1]; exact ih a b hab (by omega)
      · rw [if_neg b1]
        by_cases b2 : b = p + 1
        · rw [if_pos b2]; omega
        · rw [if_neg b2, if_pos (by omega)]
          have := hbe (b - 1) (by omega) (by omega)
          omega
    · rw [if_neg a1, if_neg (show ¬ b < j by omega)]
      by_cases a2 : a = j
      · rw [if_pos a2]
        by_cases b2 : b = j
        · rw [if_pos b2]; exact Int.le_refl _
        · rw [if_neg b2, if_pos (by omega)]
          have := hbe (b - 1) (by omega) (by omega)
          omega
      · rw [if_neg a2, if_pos (show a ≤ m by omega), if_neg (show ¬ b = j by omega), if_pos (show b ≤ m by omega)]
        exact ih (a - 1) (b - 1) (by omega) (by omega)
theorem ordF_onto (key : Nat → Int) : ∀ m k, k < m → ∃ i, i < m ∧ ordF key m i = k := by
  intro m
  induction m with
  | zero => intro k h; omega
  | succ m ih =>
    intro k hk
    have hle := iposF_le key (ordF key m) m m
    show ∃ i, i < m + 1 ∧ insF _ _ _ i = k
    generalize iposF key (ordF key m) m m = j at *
    by_cases e : k = m
    · exact ⟨j, by omega, by rw [insF_at, e]⟩
    · obtain ⟨i, h1, h2⟩ := ih k (by omega)
      by_cases h : i < j
      · exact ⟨i, by omega, by rw [insF_lo h, h2]⟩
      · refine ⟨i + 1, by omega, ?_⟩
        unfold insF
        rw [if_neg (by omega), if_neg (by omega), if_pos (by omega)]
        exact h2
theorem ordF_max (key : Nat → Int) {m k : Nat} (h : k < m) : key k ≤ key (ordF key m 0) := by
  obtain ⟨i, h1, h2⟩ := ordF_onto key m k h
  rw [← h2]
  exact ordF_down key m 0 i (Nat.zero_le _) h1
end Go.Proofs.Ytjkcmjnejbobeaa
