/-
  Runs of a list of numbers: the plain words of CutRuns and CutsOf. No program in sight.
  By an AI agent.
-/
import Derived.Test.YtlplfpoggifadaaCutB
import Derived.Test.YtlplfpoggifadaaBld
namespace Go.Proofs.Ytlplfpoggifadaa
open Go.ChangeShapes Go.WideShapes Go.ChangeAt Go.RowKit Go.Joins Go.Deep
set_option maxRecDepth 100000
set_option linter.unusedVariables false

def nxtQ (L : List Int) (k : Nat) : Prop := L.getD (k + 1) 0 = L.getD k 0 + 1
instance (L : List Int) (k : Nat) : Decidable (nxtQ L k) := by unfold nxtQ; exact inferInstance
/-- Where the run begins that holds number k. -/
def stR (L : List Int) : Nat → Nat
  | 0 => 0
  | k + 1 => if nxtQ L k then stR L k else k + 1
/-- The runs ahead of it. -/
def clR (L : List Int) : Nat → Rows
  | 0 => []
  | k + 1 => if nxtQ L k then clR L k else clR L k ++ [[L.getD (stR L k) 0, L.getD k 0]]
/-- The runs of the first k numbers. -/
def rnR (L : List Int) : Nat → Rows
  | 0 => []
  | k + 1 => clR L k ++ [[L.getD (stR L k) 0, L.getD k 0]]
def runsL (L : List Int) : Rows := rnR L L.length
theorem rn_more {L : List Int} {k : Nat} (h : nxtQ L k) : rnR L (k + 2) = clR L k ++ [[L.getD (stR L k) 0, L.getD (k + 1) 0]] := by
  show clR L (k + 1) ++ [[L.getD (stR L (k + 1)) 0, _]] = _
  have e1 : clR L (k + 1) = clR L k := if_pos h
  have e2 : stR L (k + 1) = stR L k := if_pos h
  rw [e1, e2]
theorem rn_new {L : List Int} {k : Nat} (h : ¬ nxtQ L k) : clR L (k + 1) = rnR L (k + 1) ∧ stR L (k + 1) = k + 1 := ⟨if_neg h, if_neg h⟩
theorem st_le (L : List Int) (k : Nat) : stR L k ≤ k := by
  induction k with
  | zero => exact Nat.le_refl _
  | succ k ih => unfold stR; split <;> omega
theorem cl_len (L : List Int) (k : Nat) : (clR L k).length ≤ k := by
  induction k with
  | zero => exact Nat.le_refl _
  | succ k ih =>
    show (if _ then _ else _ : Rows).length ≤ _
    split
    · omega
    · rw [List.length_append, List.length_singleton]; omega
theorem rn_len (L : List Int) (k : Nat) : (rnR L k).length ≤ k := by
  cases k with
  | zero => exact Nat.le_refl _
  | succ k => show (clR L k ++ _).length ≤ _; rw [List.length_append, List.length_singleton]; have := cl_len L k; omega
theorem st_run (L : List Int) (k : Nat) : L.getD k 0 - L.getD (stR L k) 0 = (k : Int) - (stR L k : Int) := by
  induction k with
  | zero => show L.getD 0 0 - L.getD 0 0 = _; simp [stR]
  | succ k ih =>
    by_cases h : nxtQ L k
    · have e : stR L (k + 1) = stR L k := if_pos h
      unfold nxtQ at h
      rw [e]
      push_cast
      omega
    · rw [(rn_new h).2]; push_cast; omega
/-- Each run has two numbers a ≤ b below N. -/
def runOk (N : Nat) (r : List Int) : Prop := ∃ a b : Nat, r = [(a : Int), (b : Int)] ∧ a ≤ b ∧ b < N
theorem run_at {L : List Int} {N k : Nat} (h : ∀ j, j < L.length → 0 ≤ L.getD j 0 ∧ L.getD j 0 < (N : Int)) (hk : k < L.length) : runOk N [L.getD (stR L k) 0, L.getD k 0] := by
  have h1 := h k hk
  have h2 := st_le L k
  have h3 := h (stR L k) (by omega)
  have h4 := st_run L k
  exact ⟨(L.getD (stR L k) 0).toNat, (L.getD k 0).toNat, by rw [Int.toNat_of_nonneg h3.1, Int.toNat_of_nonneg h1.1], by omega, by omega⟩
theorem cl_ok {L : List Int} {N : Nat} (h : ∀ j, j < L.length → 0 ≤ L.getD j 0 ∧ L.getD j 0 < (N : Int)) (k : Nat) (hk : k < L.length) : ∀ r ∈ clR L k, runOk N r := by
  induction k with
  | zero => intro r hr; cases hr
  | succ k ih =>
    intro r hr
    by_cases hq : nxtQ L k
    · have e : clR L (k + 1) = clR L k := if_pos hq
      rw [e] at hr
      exact ih (by omega) r hr
    · rw [(rn_new hq).1] at hr
      rcases List.mem_append.1 hr with hr | hr
      · exact ih (by omega) r hr
      · rw [List.mem_singleton.1 hr]
        exact run_at h (by omega)
theorem rn_ok {L : List Int} {N : Nat} (h : ∀ j, j < L.length → 0 ≤ L.getD j 0 ∧ L.getD j 0 < (N : Int)) (k : Nat) (hk : k ≤ L.length) : ∀ r ∈ rnR L k, runOk N r := by
  cases k with
  | zero => intro r hr; cases hr
  | succ k =>
    intro r hr
    rcases List.mem_append.1 hr with hr | hr
    · exact cl_ok h k (by omega) r hr
    · rw [List.mem_singleton.1 hr]
      exact run_at h (by omega)
/-- How many numbers the runs hold. -/
def widR (R : Rows) : Int := (R.map fun r => r.getD 1 0 + 1 - r.getD 0 0).sum
theorem wid_app (R : Rows) (a b : Int) : widR (R ++ [[a, b]]) = widR R + (b + 1 - a) := by
  unfold widR
  simp [List.getD]
theorem cl_wid (L : List Int) (k : Nat) : widR (clR L k) = (stR L k : Int) := by
  induction k with
  | zero => rfl
  | succ k ih =>
    by_cases h : nxtQ L k
    · have e1 : clR L (k + 1) = clR L k := if_pos h
      have e2 : stR L (k + 1) = stR L k := if_pos h
      rw [e1, e2]; exact ih
    · rw [(rn_new h).1, (rn_new h).2]
      show widR (clR L k ++ _) = _
      have := st_run L k
      rw [wid_app, ih]
      push_cast
      omega
theorem rn_wid (L : List Int) (k : Nat) : widR (rnR L k) = (k : Int) := by
  cases k with
  | zero => rfl
  | succ k =>
    show widR (clR L k ++ _) = _
    have := st_run L k
    rw [wid_app, cl_wid]
    push_cast
    omega
theorem fl_bd {P : Nat → Bool} {n : Nat} {j : Nat} (h : j < (fl P n).length) : 0 ≤ (fl P n).getD j 0 ∧ (fl P n).getD j 0 < (n : Int) := by
  rw [getD_at _ _ h]
  have hm := List.getElem_mem h
  generalize (fl P n)[j] = y at *
  unfold fl at hm
  simp only [List.mem_map, List.mem_filter, List.mem_range] at hm
  obtain ⟨x, hx, e⟩ := hm
  rw [← e]
  show 0 ≤ (x : Int) ∧ (x : Int) < n
  omega
/-! ### the cuts of a card -/
def runCut (row : Int) (r : List Int) : DCut := ⟨row, r.getD 0 0, r.getD 1 0 + 1⟩
/-- The runs between strip k and the next one. -/
def runsAt (ss : List ByteArray) (N k : Nat) : Rows := runsL (dfL (rowS ss k) (rowS ss (k + 1)) N)
def cutsN (ss : List ByteArray) (N : Nat) : Nat → List DCut
  | 0 => []
  | k + 1 => cutsN ss N k ++ (runsAt ss N k).map (runCut ((k + 1 : Nat) : Int))
theorem runsAt_ok (ss : List ByteArray) (N k : Nat) : ∀ r ∈ runsAt ss N k, runOk N r := rn_ok (fun j hj => fl_bd hj) _ (Nat.le_refl _)
theorem runsAt_len (ss : List ByteArray) (N k : Nat) : (runsAt ss N k).length ≤ N := Nat.le_trans (rn_len _ _) (dfL_len _ _ _)
theorem cutsN_len (ss : List ByteArray) (N : Nat) : ∀ k, (cutsN ss N k).length ≤ k * N := by
  intro k
  induction k with
  | zero => simp [cutsN]
  | succ k ih =>
    show (cutsN ss N k ++ _).length ≤ _
    have := runsAt_len ss N k
    rw [List.length_append, List.length_map, Nat.add_mul, Nat.one_mul]
    omega
theorem cutsN_ok (ss : List ByteArray) (N : Nat) (hN : N ≤ 100) : ∀ k, k ≤ 100 → ∀ x ∈ cutsN ss N k, cOk x = true := by
  intro k
  induction k with
  | zero => intro _ x hx; cases hx
  | succ k ih =>
    intro hk x hx
    rcases List.mem_append.1 hx with hx | hx
    · exact ih (by omega) x hx
    · obtain ⟨r, hr, rfl⟩ := List.mem_map.1 hx
      obtain ⟨a, b, rfl, h1, h2⟩ := runsAt_ok ss N k r hr
      rw [cOk_iff]
      show 0 ≤ ((k + 1 : Nat) : Int) ∧ ((k + 1 : Nat) : Int) ≤ 100 ∧ 0 ≤ (a : Int) ∧ (a : Int) < (b : Int) + 1 ∧ (b : Int) + 1 ≤ 100
      omega
/-- The cuts of a card. -/
def cutsR (d f : Int) (n : Nat) (ss : List ByteArray) : List DCut := if cardOkB d f ss = true then cutsN ss (d + f).toNat (n - 1) else []
theorem cutsR_yes {d f : Int} {n N : Nat} {ss : List ByteArray} (h : Cd d f n N ss) : cutsR d f n ss = cutsN ss N (n - 1) := by
  unfold cutsR
  have := h.sum
  rw [if_pos h.ok, show (d + f).toNat = N by omega]
theorem cutsR_no {d f : Int} {n : Nat} {ss : List ByteArray} (h : cardOkB d f ss = false) : cutsR d f n ss = [] := by unfold cutsR; rw [h]; rfl
theorem cutsR_len (d f : Int) (n : Nat) (ss : List ByteArray) (hl : ss.length = n) : (cutsR d f n ss).length ≤ 160 := by
  unfold cutsR
  split
  · rename_i h
    have h1 := (cardOk_iff.1 h).1
    exact Nat.le_trans (cutsN_len _ _ _) (Nat.mul_le_mul (show n - 1 ≤ 10 by omega) (show (d + f).toNat ≤ 16 by omega))
  · exact Nat.zero_le _
end Go.Proofs.Ytlplfpoggifadaa
