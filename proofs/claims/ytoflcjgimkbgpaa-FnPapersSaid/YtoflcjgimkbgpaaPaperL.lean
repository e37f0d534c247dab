/-
  Papers: the plain law of sheets that are used up.
  By an AI agent.
-/
import Derived.Test.YtoflcjgimkbgpaaPaperU
import Derived.Test.YtoflcjgimkbgpaaPaperH
namespace Go.Proofs.Ytoflcjgimkbgpaa
open Go.ChangeShapes Go.WideShapes Go.ChangeAt Go.RowKit
set_option maxRecDepth 100000
set_option linter.unusedVariables false

theorem okAll_s {ps : List DPaper} (h : okAll ps = true) {j : Nat} (hj : j < ps.length) : (0 ≤ (ps.getD j default).k ∧ (ps.getD j default).k ≤ 9) ∧ (40 ≤ (ps.getD j default).g ∧ (ps.getD j default).g ≤ 400) ∧ 0 ≤ (ps.getD j default).s ∧ (ps.getD j default).s ≤ 100000 := by
  have hp := okAll_at h hj
  unfold pOk at hp
  have := paperOk_iff.1 hp
  omega
theorem usedP_k (ps : List DPaper) (kind sheets : Int) (j : Nat) : (usedP ps kind sheets j).k = (ps.getD j default).k ∧ (usedP ps kind sheets j).g = (ps.getD j default).g := by
  unfold usedP; split <;> exact ⟨rfl, rfl⟩
theorem usedP_s {ps : List DPaper} (h : okAll ps = true) {kind sheets : Int} (hs : 0 ≤ sheets) {j : Nat} (hj : j < ps.length) : 0 ≤ (usedP ps kind sheets j).s ∧ (usedP ps kind sheets j).s ≤ (ps.getD j default).s := by
  have h1 := okAll_s h hj
  have h2 := rem_bd h (kind := kind) hs j (by omega)
  unfold usedP mn
  split
  · dsimp only
    split <;> omega
  · omega
theorem used_ok {ps : List DPaper} (h : okAll ps = true) {kind sheets : Int} (hs : 0 ≤ sheets) : okAll (used ps kind sheets) = true := by
  refine okAll_of fun j hj => ?_
  rw [used_length] at hj
  rw [used_at ps kind sheets hj]
  have h1 := okAll_s h hj
  have h2 := usedP_s h (kind := kind) hs hj
  have h3 := usedP_k ps kind sheets j
  unfold pOk
  exact paperOk_iff.2 (by omega)
theorem rem_left {ps : List DPaper} (h : okAll ps = true) {kind sheets : Int} (hs : 0 ≤ sheets) : ∀ m, m ≤ ps.length → (leftN ps kind m ≤ sheets → rem ps kind sheets m = sheets - leftN ps kind m) ∧ (sheets < leftN ps kind m → rem ps kind sheets m = 0) := by
  intro m
  induction m with
  | zero => intro _; exact ⟨fun _ => by simp [rem, leftN], fun h' => by simp [leftN] at h'; omega⟩
  | succ m ih =>
    intro hm
    have h1 := ih (by omega)
    have h2 := okAll_s h (j := m) (by omega)
    have h3 := rem_bd h (kind := kind) hs m (by omega)
    unfold rem leftN mn
    by_cases e : (ps.getD m default).k = kind
    · rw [if_pos e, if_pos e]
      by_cases hc : leftN ps kind m ≤ sheets
      · have := h1.1 hc
        constructor
        · intro h4; split <;> omega
        · intro h4; split <;> omega
      · have := h1.2 (by omega)
        constructor
        · intro h4; omega
        · intro h4; split <;> omega
    · rw [if_neg e, if_neg e]
      constructor
      · intro h4; rw [h1.1 (by omega)]; omega
      · intro h4; exact h1.2 (by omega)
theorem left_used {ps : List DPaper} {kind sheets : Int} : ∀ m, m ≤ ps.length → leftN (used ps kind sheets) kind m + (sheets - rem ps kind sheets m) = leftN ps kind m := by
  intro m
  induction m with
  | zero => intro _; simp [leftN, rem]
  | succ m ih =>
    intro hm
    have h1 := ih (by omega)
    have h2 : leftN (used ps kind sheets) kind (m + 1) = leftN (used ps kind sheets) kind m + if (usedP ps kind sheets m).k = kind then (usedP ps kind sheets m).s else 0 := by
      show leftN (used ps kind sheets) kind m + (if ((used ps kind sheets).getD m default).k = kind then ((used ps kind sheets).getD m default).s else 0) = _
      rw [used_at ps kind sheets (by omega : m < ps.length)]
    rw [h2]
    have h3 : rem ps kind sheets (m + 1) = if (ps.getD m default).k = kind then rem ps kind sheets m - mn (rem ps kind sheets m) (ps.getD m default).s else rem ps kind sheets m := rfl
    have h4 : leftN ps kind (m + 1) = leftN ps kind m + if (ps.getD m default).k = kind then (ps.getD m default).s else 0 := rfl
    rw [h3, h4]
    by_cases e : (ps.getD m default).k = kind
    · have e2 : usedP ps kind sheets m = ⟨(ps.getD m default).k, (ps.getD m default).g, (ps.getD m default).s - mn (rem ps kind sheets m) (ps.getD m default).s⟩ := if_pos e
      rw [e2, if_pos e, if_pos e, if_pos e]
      show _ + ((ps.getD m default).s - mn _ _) + _ = _
      omega
    · have e2 : usedP ps kind sheets m = ps.getD m default := if_neg e
      rw [e2]
      simp only [if_neg e]
      omega
/-- What is left after use. -/
theorem left_law {ps : List DPaper} (h : okAll ps = true) {kind sheets : Int} (hu : useB ps kind sheets = true) : leftOf (useP ps kind sheets) kind = leftOf ps kind - sheets := by
  obtain ⟨_, _, hs, hle⟩ := useB_iff.1 hu
  unfold useP
  rw [if_pos hu]
  unfold leftOf at hle ⊢
  rw [if_pos h] at hle ⊢
  rw [if_pos (used_ok h hs), used_length]
  have h1 := left_used (ps := ps) (kind := kind) (sheets := sheets) ps.length (Nat.le_refl _)
  have h2 := rem_left h (kind := kind) hs ps.length (Nat.le_refl _)
  by_cases e : leftN ps kind ps.length ≤ sheets
  · have := h2.1 e; omega
  · have := h2.2 (by omega); omega
/-- Each paper after use. -/
theorem use_each {ps : List DPaper} (h : okAll ps = true) (kind sheets : Int) {j : Nat} (hj : j < ps.length) :
    ((useP ps kind sheets).getD j default).s ≤ (ps.getD j default).s ∧ 0 ≤ ((useP ps kind sheets).getD j default).s ∧ ((ps.getD j default).k ≠ kind → (useP ps kind sheets).getD j default = ps.getD j default) ∧ pOk ((useP ps kind sheets).getD j default) = true := by
  unfold useP
  have h0 := okAll_s h hj
  cases hu : useB ps kind sheets
  · rw [if_neg (by simp)]
    exact ⟨Int.le_refl _, h0.2.2.1, fun _ => rfl, okAll_at h hj⟩
  · rw [if_pos rfl]
    obtain ⟨_, _, hs, hle⟩ := useB_iff.1 hu
    have h1 := okAll_at (used_ok h (kind := kind) hs) (k := j) (by rw [used_length]; exact hj)
    rw [used_at ps kind sheets hj] at h1 ⊢
    have h2 := usedP_s h (kind := kind) hs hj
    exact ⟨h2.2, h2.1, fun hk => if_neg hk, h1⟩
/-! ### the heaviest kind -/
def anyS (ps : List DPaper) : Nat → Bool
  | 0 => false
  | m + 1 => anyS ps m || decide (0 < (ps.getD m default).s)
theorem hv_any (ps : List DPaper) : ∀ m, (hv ps m).isSome = anyS ps m ∧ ∀ b, hv ps m = some b → 0 < (ps.getD b default).s := by
  intro m
  induction m with
  | zero => exact ⟨rfl, fun b h => by cases h⟩
  | succ m ih =>
    obtain ⟨h1, h2⟩ := ih
    unfold hv anyS
    cases e : hv ps m with
    | none =>
      rw [e] at h1
      rw [← h1]
      by_cases hs : 0 < (ps.getD m default).s
      · simp only [if_pos hs]
        exact ⟨by rw [decide_eq_true hs]; rfl, fun b hb => by cases hb; exact hs⟩
      · simp only [if_neg hs]
        exact ⟨by rw [decide_eq_false hs]; rfl, fun b hb => by cases hb⟩
    | some b =>
      rw [e] at h1
      rw [← h1]
      by_cases hs : 0 < (ps.getD m default).s ∧ (ps.getD b default).g < (ps.getD m default).g
      · simp only [if_pos hs]
        exact ⟨by simp, fun b' hb => by cases hb; exact hs.1⟩
      · simp only [if_neg hs]
        exact ⟨by simp, fun b' hb => by cases hb; exact h2 b e⟩
theorem leftN_ge {ps : List DPaper} (h : okAll ps = true) {kind : Int} {j : Nat} (hk : (ps.getD j default).k = kind) : ∀ m, m ≤ ps.length → j < m → (ps.getD j default).s ≤ leftN ps kind m := by
  intro m
  induction m with
  | zero => intro _ h; omega
  | succ m ih =>
    intro hm hj
    have hb := leftN_bd h kind m (by omega)
    have h2 := okAll_s h (j := m) (by omega)
    show _ ≤ leftN ps kind m + _
    by_cases e : j = m
    · subst e; rw [if_pos hk]; omega
    · have := ih (by omega) (by omega)
      split <;> omega
theorem heavy_law {ps : List DPaper} (h : okAll ps = true) : decide (heavyOf ps ≥ 0) = anyS ps ps.length ∧ (heavyOf ps < 0 ∨ 0 < leftOf ps (heavyOf ps)) ∧ -1 ≤ heavyOf ps ∧ heavyOf ps ≤ 9 := by
  obtain ⟨h1, h2⟩ := hv_any ps ps.length
  unfold heavyOf leftOf
  rw [if_pos h, if_pos h, ← h1]
  cases e : hv ps ps.length with
  | none => exact ⟨by simp [hvK], .inl (by simp [hvK]), by simp [hvK], by simp [hvK]⟩
  | some b =>
    have hb := hv_lt e
    have hs := h2 b e
    have hk := okAll_s h hb
    show decide ((ps.getD b default).k ≥ 0) = true ∧ _
    refine ⟨decide_eq_true (by omega), .inr ?_, ?_, ?_⟩
    · have := leftN_ge h (kind := (ps.getD b default).k) rfl ps.length (Nat.le_refl _) hb
      show 0 < leftN ps (ps.getD b default).k ps.length
      omega
    · show -1 ≤ (ps.getD b default).k; omega
    · show (ps.getD b default).k ≤ 9; omega
end Go.Proofs.Ytoflcjgimkbgpaa
