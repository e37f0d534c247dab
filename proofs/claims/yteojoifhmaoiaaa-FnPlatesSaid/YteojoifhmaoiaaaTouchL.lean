/-
  The plain law: the pairs of touching faces, sorted and compacted, are the pairs of the marked codes in their order.
  By an AI agent.
-/
import Derived.Test.YteojoifhmaoiaaaTouch
import Derived.Test.YteojoifhmaoiaaaComp
namespace Go.Proofs.Yteojoifhmaoiaaa
open Go.ChangeShapes Go.WideShapes Go.ChangeAt Go.RowKit
set_option maxRecDepth 100000
set_option linter.unusedVariables false

theorem nat_ext : ∀ {l1 l2 : List Nat}, l1.Pairwise (· < ·) → l2.Pairwise (· < ·) → (∀ x, x ∈ l1 ↔ x ∈ l2) → l1 = l2 := by
  intro l1
  induction l1 with
  | nil =>
    intro l2 _ _ h
    cases l2 with
    | nil => rfl
    | cons y t => exact absurd ((h y).2 (List.mem_cons_self ..)) (by simp)
  | cons x s ih =>
    intro l2 h1 h2 h
    cases l2 with
    | nil => exact absurd ((h x).1 (List.mem_cons_self ..)) (by simp)
    | cons y t =>
      rw [List.pairwise_cons] at h1 h2
      have hx := (h x).1 (List.mem_cons_self ..)
      have hy := (h y).2 (List.mem_cons_self ..)
      have hxy : x = y := by
        rcases List.mem_cons.1 hx with e | e
        · exact e
        · rcases List.mem_cons.1 hy with e2 | e2
          · exact e2.symm
          · have a := h2.1 x e
            have b := h1.1 y e2
            omega
      subst hxy
      rw [ih h1.2 h2.2 (fun z => ?_)]
      constructor
      · intro hz
        rcases List.mem_cons.1 ((h z).1 (List.mem_cons_of_mem _ hz)) with e | e
        · have := h1.1 z hz; omega
        · exact e
      · intro hz
        rcases List.mem_cons.1 ((h z).2 (List.mem_cons_of_mem _ hz)) with e | e
        · have := h2.1 z hz; omega
        · exact e
def dec (m x : Nat) : List Int := [((x / m : Nat) : Int), ((x % m : Nat) : Int)]
def pr2 (p : Nat × Nat) : List Int := [(p.1 : Int), (p.2 : Int)]
theorem tcL_eq (T : Nat → Bool) (m : Nat) : ∀ k, tcL T m k = ((List.range k).filter T).map (dec m) := by
  intro k
  induction k with
  | zero => rfl
  | succ k ih =>
    rw [List.range_succ, List.filter_append, List.map_append, ← ih]
    show tcL T m k ++ _ = _
    congr 1
    by_cases h : T k = true
    · rw [if_pos h]; simp [h, dec]
    · rw [if_neg h]; simp [h]
/-- A list of pairs, sorted; its kept places. -/
theorem touch_eq {ps : List (Nat × Nat)} {m n : Nat} {x y : Nat → Nat} (hlt : ∀ p, p ∈ ps → p.1 < m ∧ p.2 < m) (hmem : ∀ p : Nat × Nat, p ∈ ps ↔ ∃ i, i < n ∧ (x i, y i) = p)
    (hs : ∀ i j, i < j → j < n → ¬ (x j < x i ∨ (x j = x i ∧ y j < y i))) :
    (kpI (fun i => (x i : Int)) (fun i => (y i : Int)) n).map (fun i => pr2 (x i, y i)) = tcL (fun k => ps.any fun p => decide (p.1 * m + p.2 = k)) m (m * m) := by
  have hxy : ∀ i, i < n → x i < m ∧ y i < m := fun i hi => hlt (x i, y i) ((hmem _).2 ⟨i, hi, rfl⟩)
  have hdec : ∀ i, i < n → pr2 (x i, y i) = dec m (x i * m + y i) := fun i hi => by
    obtain ⟨h1, h2⟩ := hxy i hi
    unfold pr2 dec
    rw [Nat.mul_comm, Nat.mul_add_div (by omega), Nat.div_eq_of_lt h2, Nat.mul_add_mod, Nat.mod_eq_of_lt h2, Nat.add_zero]
  have hcode : ∀ i j, i < n → j < n → (x i * m + y i < x j * m + y j ↔ (x i < x j ∨ (x i = x j ∧ y i < y j))) := fun i j hi hj => by
    obtain ⟨h1, h2⟩ := hxy i hi
    obtain ⟨h3, h4⟩ := hxy j hj
    constructor
    · intro h
      rcases Nat.lt_or_ge (x i) (x j) with h5 | h5
      · exact .inl h5
      · right
        rcases Nat.lt_or_ge (x j) (x i) with h6 | h6
        · have := Nat.mul_le_mul_right m (show x j + 1 ≤ x i from h6)
          rw [Nat.succ_mul] at this
          omega
        · have e : x i = x j := by omega
          rw [e] at h
          exact ⟨e, by omega⟩
    · rintro (h | ⟨e, h⟩)
      · have := Nat.mul_le_mul_right m (show x i + 1 ≤ x j from h)
        rw [Nat.succ_mul] at this
        omega
      · rw [e]; omega
  rw [tcL_eq]
  have e1 : (kpI (fun i => (x i : Int)) (fun i => (y i : Int)) n).map (fun i => pr2 (x i, y i)) = ((kpI (fun i => (x i : Int)) (fun i => (y i : Int)) n).map (fun i => x i * m + y i)).map (dec m) := by
    rw [List.map_map]
    refine List.map_congr_left fun i hi => ?_
    exact hdec i (kpI_lt _ _ _ i hi)
  rw [e1]
  congr 1
  refine nat_ext ?_ ?_ fun c => ?_
  · rw [List.pairwise_map]
    refine List.Pairwise.imp_of_mem ?_ (kpI_up (fun i => (x i : Int)) (fun i => (y i : Int)) n)
    intro i j hi hj hij
    have hin := kpI_lt _ _ _ i hi
    have hjn := kpI_lt _ _ _ j hj
    rw [hcode i j hin hjn]
    have h1 := hs i j hij hjn
    have hkeep : keepP (fun i => (x i : Int)) (fun i => (y i : Int)) j := by
      clear h1 hjn hin hi hij e1 hcode hdec hxy hs hmem hlt
      revert hj
      generalize n = m'
      induction m' with
      | zero => intro h; simp [kpI] at h
      | succ m' ih =>
        intro h
        by_cases hk : keepP (fun i => (x i : Int)) (fun i => (y i : Int)) m'
        · rw [kpI_yes _ _ hk, List.mem_append, List.mem_singleton] at h
          rcases h with h | h
          · exact ih h
          · rw [h]; exact hk
        · rw [kpI_no _ _ hk] at h
          exact ih h
    rcases hkeep with h0 | h0
    · omega
    · have h0 : ¬ ((x j : Int) = (x (j - 1) : Int) ∧ (y j : Int) = (y (j - 1) : Int)) := h0
      by_cases hne : x i = x j ∧ y i = y j
      · exfalso
        by_cases e : i = j - 1
        · apply h0
          rw [← e]
          exact ⟨by rw [hne.1], by rw [hne.2]⟩
        · have h2 := hs i (j - 1) (by omega) (by omega)
          have h3 := hs (j - 1) j (by omega) hjn
          apply h0
          constructor <;> omega
      · omega
  · exact List.Pairwise.filter _ List.pairwise_lt_range
  · rw [List.mem_map, List.mem_filter, List.mem_range]
    have hcov : ∀ m', m' ≤ n → ∀ j, j < m' → ∃ i, i ∈ kpI (fun i => (x i : Int)) (fun i => (y i : Int)) m' ∧ x i = x j ∧ y i = y j := by
      intro m'
      induction m' with
      | zero => intro _ j h; omega
      | succ m' ih =>
        intro hm j hj
        by_cases hk : keepP (fun i => (x i : Int)) (fun i => (y i : Int)) m'
        · rw [kpI_yes _ _ hk]
          by_cases e : j = m'
          · exact ⟨m', by simp, by rw [e], by rw [e]⟩
          · obtain ⟨i, h1, h2⟩ := ih (by omega) j (by omega)
            exact ⟨i, List.mem_append_left _ h1, h2⟩
        · rw [kpI_no _ _ hk]
          by_cases e : j = m'
          · have h0 : ¬ m' = 0 := fun h => hk (.inl h)
            have h1 : (x m' : Int) = (x (m' - 1) : Int) ∧ (y m' : Int) = (y (m' - 1) : Int) := Classical.not_not.1 (fun h => hk (.inr h))
            obtain ⟨i, h2, h3, h4⟩ := ih (by omega) (m' - 1) (by omega)
            exact ⟨i, h2, by rw [e]; omega, by rw [e]; omega⟩
          · exact ih (by omega) j (by omega)
    constructor
    · rintro ⟨i, hi, rfl⟩
      have hin := kpI_lt _ _ _ i hi
      obtain ⟨h1, h2⟩ := hxy i hin
      refine ⟨code_lt h1 h2, ?_⟩
      rw [List.any_eq_true]
      exact ⟨(x i, y i), (hmem _).2 ⟨i, hin, rfl⟩, decide_eq_true rfl⟩
    · rintro ⟨hc, ht⟩
      rw [List.any_eq_true] at ht
      obtain ⟨p, hp, hpc⟩ := ht
      have hpc := of_decide_eq_true hpc
      obtain ⟨j, hj, hjp⟩ := (hmem p).1 hp
      obtain ⟨i, hi, h1, h2⟩ := hcov n (Nat.le_refl _) j hj
      refine ⟨i, hi, ?_⟩
      rw [h1, h2, ← hpc, ← hjp]
theorem touch_final {L' : Rows} {ps : List (Nat × Nat)} {m : Nat} (hlt : ∀ p, p ∈ ps → p.1 < m ∧ p.2 < m) (hmem : ∀ r, r ∈ L' ↔ r ∈ ps.map pr2)
    (hs : ∀ i j, i < j → j < L'.length → ∃ x0 x1 y0 y1 : Int, rowN L' i = [x0, x1] ∧ rowN L' j = [y0, y1] ∧ ¬ (y0 < x0 ∨ (y0 = x0 ∧ y1 < x1))) :
    ∃ x y : Nat → Nat, (∀ i, i < L'.length → rowN L' i = [(x i : Int), (y i : Int)]) ∧
      (kpI (fun i => (x i : Int)) (fun i => (y i : Int)) L'.length).map (rowN L') = tcL (fun k => ps.any fun p => decide (p.1 * m + p.2 = k)) m (m * m) := by
  have hrow : ∀ i, i < L'.length → ∃ p, p ∈ ps ∧ rowN L' i = pr2 p := fun i hi => by
    have h1 : rowN L' i ∈ L' := by unfold rowN; rw [getD_at _ _ hi]; exact List.getElem_mem hi
    obtain ⟨p, hp, e⟩ := List.mem_map.1 ((hmem _).1 h1)
    exact ⟨p, hp, e.symm⟩
  let x : Nat → Nat := fun i => ((rowN L' i).getD 0 0).toNat
  let y : Nat → Nat := fun i => ((rowN L' i).getD 1 0).toNat
  have hpx : ∀ i, i < L'.length → ∀ p, rowN L' i = pr2 p → (x i, y i) = p := fun i hi p e => by
    show (((rowN L' i).getD 0 0).toNat, ((rowN L' i).getD 1 0).toNat) = p
    rw [e]
    simp [pr2]
  have hxy : ∀ i, i < L'.length → rowN L' i = [(x i : Int), (y i : Int)] := fun i hi => by
    obtain ⟨p, _, e⟩ := hrow i hi
    have h := hpx i hi p e
    rw [e, ← h]
    rfl
  refine ⟨x, y, hxy, ?_⟩
  rw [← touch_eq (ps := ps) (m := m) (n := L'.length) (x := x) (y := y) hlt (fun p => ⟨fun hp => ?_, fun ⟨i, hi, e⟩ => ?_⟩) (fun i j hij hj => ?_)]
  · refine List.map_congr_left fun i hi => ?_
    exact hxy i (kpI_lt _ _ _ i hi)
  · obtain ⟨i, hi, e⟩ := List.getElem_of_mem ((hmem _).2 (List.mem_map.2 ⟨p, hp, rfl⟩))
    refine ⟨i, hi, hpx i hi p ?_⟩
    unfold rowN
    rw [getD_at _ _ hi, e]
  · obtain ⟨q, hq, e2⟩ := hrow i hi
    rw [← e, hpx i hi q e2]
    exact hq
  · obtain ⟨x0, x1, y0, y1, h1, h2, h3⟩ := hs i j hij hj
    rw [hxy i (by omega)] at h1
    rw [hxy j hj] at h2
    simp only [List.cons.injEq, and_true] at h1 h2
    omega
def PR (F : Nat → Nat) (N t : Nat) : Rows := (prL F N t).map pr2
theorem PR_no {F : Nat → Nat} {N t : Nat} (h : ¬ (0 < t % N ∧ F t ≠ F (t - 1))) : PR F N (t + 1) = PR F N t := by
  unfold PR
  rw [prL_succ, if_neg h, List.append_nil]
theorem PR_yes {F : Nat → Nat} {N t : Nat} (h : 0 < t % N ∧ F t ≠ F (t - 1)) : PR F N (t + 1) = PR F N t ++ [[((min (F t) (F (t - 1)) : Nat) : Int), ((max (F t) (F (t - 1)) : Nat) : Int)]] := by
  unfold PR
  rw [prL_succ, if_pos h, List.map_append]
  rfl
theorem PR_len (F : Nat → Nat) (N : Nat) : ∀ t, (PR F N t).length ≤ t := by
  intro t
  induction t with
  | zero => exact Nat.le_refl _
  | succ t ih =>
    by_cases h : 0 < t % N ∧ F t ≠ F (t - 1)
    · rw [PR_yes h, List.length_append]; simp; omega
    · rw [PR_no h]; omega
theorem prL_lt {F : Nat → Nat} {N m k : Nat} (h : ∀ t, t < m → F t < k) : ∀ t, t ≤ m → ∀ p, p ∈ prL F N t → p.1 < k ∧ p.2 < k := by
  intro t
  induction t with
  | zero => intro _ p hp; simp [prL] at hp
  | succ t ih =>
    intro ht p hp
    rw [prL_succ] at hp
    by_cases hc : 0 < t % N ∧ F t ≠ F (t - 1)
    · rw [if_pos hc, List.mem_append, List.mem_singleton] at hp
      rcases hp with hp | hp
      · exact ih (by omega) p hp
      · have h1 := h t (by omega)
        have h2 := h (t - 1) (by omega)
        subst hp
        dsimp only
        omega
    · rw [if_neg hc, List.append_nil] at hp
      exact ih (by omega) p hp
end Go.Proofs.Yteojoifhmaoiaaa
