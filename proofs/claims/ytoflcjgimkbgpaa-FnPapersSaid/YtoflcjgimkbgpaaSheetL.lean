/-
  Sheets: the plain law of blanks on a sheet, and of bands that are filled by the first fit.
  By an AI agent.
-/
import Derived.Test.YtoflcjgimkbgpaaSheet
import Derived.Test.YtoflcjgimkbgpaaFitV
namespace Go.Proofs.Ytoflcjgimkbgpaa
open Go.ChangeShapes Go.WideShapes Go.ChangeAt Go.RowKit
set_option maxRecDepth 100000
set_option linter.unusedVariables false

theorem fit_nat {x y n h : Nat} {d f : Int} {ss : List ByteArray} (hok : cardOkB d f ss = true) (hl : ss.length = n) (hdf : d + f = (h : Int)) (hx : 1 ≤ x ∧ x ≤ 200) (hy : 1 ≤ y ∧ y ≤ 200) :
    fitOf x y d f ss = ((x / n * (y / h) : Nat) : Int) := by
  unfold fitOf
  rw [if_pos ⟨hok, inR_iff.2 (by omega), inR_iff.2 (by omega)⟩, hl, hdf, Int.tdiv_eq_ediv_of_nonneg (by omega), Int.tdiv_eq_ediv_of_nonneg (by omega)]
  simp
theorem sheets_facts {x y n h k : Nat} {d f : Int} {ss : List ByteArray} (hok : cardOkB d f ss = true) (hl : ss.length = n) (hdf : d + f = (h : Int)) (hn : 1 ≤ n ∧ n ≤ 6) (hh : 2 ≤ h ∧ h ≤ 8) (hx : 10 ≤ x ∧ x ≤ 109) (hy : 12 ≤ y ∧ y ≤ 111) (hk : k ≤ 1275) :
    ∃ A B S : Nat, fitOf x y d f ss = (A : Int) ∧ A = x / n * (y / h) ∧ bestOf x y d f ss = (B : Int) ∧ bestOf y x d f ss = (B : Int) ∧ A ≤ B ∧ B ≤ x * y / (n * h) ∧ 1 ≤ B ∧ B ≤ 40000 ∧ sheetsOf x y d f k ss = (S : Int) ∧ S ≤ 50000 ∧ S * B ≤ 50000 ∧ k ≤ S * B ∧ (S = 0 ∨ (S - 1) * B < max 1 k) := by
  have h1 := fit_nat (x := x) (y := y) hok hl hdf (by omega) (by omega)
  have h2 := fit_nat (x := y) (y := x) hok hl hdf (by omega) (by omega)
  have hA1 : 1 ≤ x / n * (y / h) := Nat.mul_pos (Nat.div_pos (by omega) (by omega)) (Nat.div_pos (by omega) (by omega))
  have hu1 : x / n * (y / h) ≤ x * y / (n * h) := Nat.div_mul_div_le x n y h
  have hu2 : y / n * (x / h) ≤ x * y / (n * h) := by rw [Nat.mul_comm x y]; exact Nat.div_mul_div_le y n x h
  have hu3 : x * y / (n * h) ≤ 40000 := Nat.le_trans (Nat.div_le_self _ _) (Nat.le_trans (Nat.mul_le_mul hx.2 hy.2) (by decide))
  generalize hA : x / n * (y / h) = A at *
  generalize hC : y / n * (x / h) = C at *
  generalize x * y / (n * h) = U at *
  obtain ⟨B, hB⟩ : ∃ B : Nat, B = max A C := ⟨_, rfl⟩
  have hAB : A ≤ B := by rw [hB]; exact Nat.le_max_left _ _
  have hBU : B ≤ U := by rw [hB]; exact Nat.max_le.2 ⟨hu1, hu2⟩
  have b1 : bestOf x y d f ss = (B : Int) := by
    unfold bestOf
    rw [h1, h2, hB]
    by_cases h : A < C
    · rw [if_pos (by omega), Nat.max_eq_right (by omega)]
    · rw [if_neg (by omega), Nat.max_eq_left (by omega)]
  have b2 : bestOf y x d f ss = (B : Int) := by
    unfold bestOf
    rw [h1, h2, hB]
    by_cases h : A < C
    · rw [if_neg (by omega), Nat.max_eq_right (by omega)]
    · by_cases h' : C < A
      · rw [if_pos (by omega), Nat.max_eq_left (by omega)]
      · rw [if_neg (by omega), Nat.max_eq_left (by omega)]; omega
  have hB0 : 1 ≤ B := Nat.le_trans hA1 hAB
  refine ⟨A, B, (k + B - 1) / B, h1, rfl, b1, b2, hAB, hBU, hB0, Nat.le_trans hBU hu3, ?_, ?_, ?_, ?_, ?_⟩
  · unfold sheetsOf
    rw [b1, if_neg (by omega)]
    have e : (k : Int) + (B : Int) - 1 = ((k + B - 1 : Nat) : Int) := by omega
    rw [e]; simp
  · exact Nat.le_trans (Nat.div_le_self _ _) (by omega)
  · exact Nat.le_trans (Nat.div_mul_le_self _ _) (by omega)
  · have hm := Nat.mod_add_div (k + B - 1) B
    have hlt := Nat.mod_lt (k + B - 1) (show 0 < B by omega)
    rw [Nat.mul_comm] at hm
    omega
  · rcases Nat.eq_zero_or_pos ((k + B - 1) / B) with h0 | h0
    · exact .inl h0
    · refine .inr ?_
      have hm := Nat.div_mul_le_self (k + B - 1) B
      generalize (k + B - 1) / B = S at *
      obtain ⟨t, rfl⟩ : ∃ t, S = t + 1 := ⟨S - 1, by omega⟩
      rw [Nat.add_mul] at hm
      simp only [Nat.add_sub_cancel]
      have : t * B < max 1 k ∨ k = 0 := by
        rcases Nat.eq_zero_or_pos k with hk0 | hk0
        · exact .inr hk0
        · exact .inl (by omega)
      rcases this with h | h
      · exact h
      · subst h
        exfalso
        omega

/-! ### the first fit -/
/-- What a band bears. -/
def loadOf (wd : Int) (ls : List Int) (j : Nat) : Int := if j < ls.length then wd - ls.getD j 0 else 0
def sumTo (g : Nat → Int) : Nat → Int
  | 0 => 0
  | m + 1 => sumTo g m + g m
def rsum (rows : List Int) (k : Nat) : Int := sumTo (fun i => rows.getD i 0) k
theorem sumTo_put (g : Nat → Int) (p : Nat) (x : Int) : ∀ m, sumTo (fun j => g j + if j = p then x else 0) m = sumTo g m + if p < m then x else 0 := by
  intro m
  induction m with
  | zero => simp [sumTo]
  | succ m ih =>
    simp only [sumTo]
    rw [ih]
    by_cases h : m = p
    · subst h; simp; omega
    · rw [if_neg h]
      by_cases h2 : p < m
      · rw [if_pos h2, if_pos (by omega)]; omega
      · rw [if_neg h2, if_neg (by omega)]; omega
theorem sumTo_cut (g : Nat → Int) (l : Nat) (h : ∀ j, l ≤ j → g j = 0) : ∀ t, sumTo g (l + t) = sumTo g l := by
  intro t
  induction t with
  | zero => rfl
  | succ t ih => show sumTo g (l + t) + g (l + t) = _; rw [ih, h _ (by omega)]; omega
theorem getD_set_same {ls : List Int} {p : Nat} {x : Int} (h : p < ls.length) : (ls.set p x).getD p 0 = x := by simp [List.getD, h]
theorem getD_set_ne {ls : List Int} {p j : Nat} {x : Int} (h : j ≠ p) : (ls.set p x).getD j 0 = ls.getD j 0 := by
  simp only [List.getD]; rw [List.getElem?_set_ne (by omega)]
theorem getD_app_lt {ls : List Int} {j : Nat} {x : Int} (h : j < ls.length) : (ls ++ [x]).getD j 0 = ls.getD j 0 := by
  simp only [List.getD]; rw [List.getElem?_append_left h]
theorem getD_app_eq {ls : List Int} {x : Int} : (ls ++ [x]).getD ls.length 0 = x := by simp [List.getD]
theorem step_load (wd : Int) (s : List Int × List Int) (x : Int) (j : Nat) : loadOf wd (ffStep wd s x).2 j = loadOf wd s.2 j + if j = fitAt x s.2 then x else 0 := by
  obtain ⟨o, ls⟩ := s
  have hle := fitAt_le x ls
  show loadOf wd (if fitAt x ls < ls.length then ls.set (fitAt x ls) (ls.getD (fitAt x ls) 0 - x) else ls ++ [wd - x]) j = loadOf wd ls j + if j = fitAt x ls then x else 0
  generalize fitAt x ls = p at *
  by_cases h : p < ls.length
  · rw [if_pos h]
    unfold loadOf
    rw [List.length_set]
    by_cases e : j = p
    · subst e; rw [if_pos h, if_pos h, getD_set_same h, if_pos rfl]; omega
    · rw [getD_set_ne e, if_neg e]; omega
  · rw [if_neg h]
    unfold loadOf
    rw [List.length_append]
    have hp : p = ls.length := by omega
    subst hp
    by_cases e : j = ls.length
    · subst e; rw [if_pos (by simp), if_neg (by omega), getD_app_eq, if_pos rfl]; omega
    · rw [if_neg e]
      by_cases h2 : j < ls.length
      · rw [if_pos (by simp; omega), if_pos h2, getD_app_lt h2]; omega
      · rw [if_neg (by simp; omega), if_neg h2]; omega
theorem step_len (wd : Int) (s : List Int × List Int) (x : Int) : (ffStep wd s x).2.length = max s.2.length (fitAt x s.2 + 1) := by
  obtain ⟨o, ls⟩ := s
  have hle := fitAt_le x ls
  show (if fitAt x ls < ls.length then ls.set (fitAt x ls) (ls.getD (fitAt x ls) 0 - x) else ls ++ [wd - x]).length = max ls.length (fitAt x ls + 1)
  generalize fitAt x ls = p at *
  by_cases h : p < ls.length
  · rw [if_pos h, List.length_set]; omega
  · rw [if_neg h, List.length_append, List.length_singleton]; omega
theorem fitAt_before {x : Int} {ls : List Int} {j : Nat} (h : j < fitAt x ls) : ls.getD j 0 < x := by
  have hl : j < ls.length := Nat.lt_of_lt_of_le h (fitAt_le x ls)
  have := List.not_of_lt_findIdx h
  rw [show ls.getD j 0 = ls[j] by simp [List.getD, hl]]
  have h2 : ¬ x ≤ ls[j] := by simpa using this
  omega
/-- What the first fit keeps: rooms within the band, and no two neighbours that would go into one band. -/
structure FFI (wd : Int) (ls : List Int) : Prop where
  room : ∀ j, j < ls.length → 0 ≤ ls.getD j 0 ∧ ls.getD j 0 ≤ wd
  pair : ∀ j, j + 1 < ls.length → ls.getD j 0 + ls.getD (j + 1) 0 < wd
theorem FFI.step {wd : Int} {s : List Int × List Int} {x : Int} (h : FFI wd s.2) (hx : 1 ≤ x ∧ x ≤ wd) : FFI wd (ffStep wd s x).2 := by
  obtain ⟨o, ls⟩ := s
  obtain ⟨hr, hp⟩ := (show FFI wd ls from h)
  have hle := fitAt_le x ls
  show FFI wd (if fitAt x ls < ls.length then ls.set (fitAt x ls) (ls.getD (fitAt x ls) 0 - x) else ls ++ [wd - x])
  by_cases hlt : fitAt x ls < ls.length
  · rw [if_pos hlt]
    have hroom := fitAt_room hlt
    generalize fitAt x ls = p at *
    have hb := hr p hlt
    refine ⟨fun j hj => ?_, fun j hj => ?_⟩
    · rw [List.length_set] at hj
      by_cases e : j = p
      · subst e; rw [getD_set_same hlt]; show 0 ≤ ls.getD j 0 - x ∧ ls.getD j 0 - x ≤ wd; omega
      · rw [getD_set_ne e]; exact hr j hj
    · rw [List.length_set] at hj
      have hh : ls.getD j 0 + ls.getD (j + 1) 0 < wd := hp j hj
      by_cases e : j = p
      · subst e
        rw [getD_set_same hlt, getD_set_ne (by omega)]
        show ls.getD j 0 - x + ls.getD (j + 1) 0 < wd
        omega
      · rw [getD_set_ne e]
        by_cases e2 : j + 1 = p
        · subst e2; rw [getD_set_same hlt]; show ls.getD j 0 + (ls.getD (j + 1) 0 - x) < wd; omega
        · rw [getD_set_ne e2]; exact hh
  · rw [if_neg hlt]
    have hq : fitAt x ls = ls.length := by omega
    have hbef : ∀ j, j < ls.length → ls.getD j 0 < x := fun j hj => fitAt_before (by omega)
    refine ⟨fun j hj => ?_, fun j hj => ?_⟩
    · by_cases e : j = ls.length
      · subst e; rw [getD_app_eq]; omega
      · have hj' : j < ls.length := by simp at hj; omega
        rw [getD_app_lt hj']; exact hr j hj'
    · by_cases e : j + 1 = ls.length
      · rw [getD_app_lt (by omega), e, getD_app_eq]
        have := hbef j (by omega)
        omega
      · have hj' : j + 1 < ls.length := by simp at hj; omega
        rw [getD_app_lt (by omega), getD_app_lt hj']; exact hp j hj'
theorem ffi {wd : Int} {rows : List Int} (hw : 1 ≤ wd) {k : Nat} (hr : ∀ j, j < k → 1 ≤ rows.getD j 0 ∧ rows.getD j 0 ≤ wd) : FFI wd (ff wd rows k).2 := by
  induction k with
  | zero => exact ⟨fun j h => absurd h (Nat.not_lt_zero j), fun j h => absurd h (Nat.not_lt_zero _)⟩
  | succ k ih => exact (ih fun j hj => hr j (by omega)).step (hr k (by omega))
theorem ff_sum (wd : Int) (rows : List Int) (N : Nat) : ∀ k, k ≤ N → sumTo (loadOf wd (ff wd rows k).2) (N + 1) = rsum rows k := by
  intro k
  induction k with
  | zero =>
    intro _
    have : ∀ m, sumTo (loadOf wd ([] : List Int)) m = 0 := by
      intro m
      induction m with
      | zero => rfl
      | succ m ih => show _ + _ = (0 : Int); rw [ih]; rfl
    exact this _
  | succ k ih =>
    intro hk
    have h1 := ih (by omega)
    have e : loadOf wd (ff wd rows (k + 1)).2 = fun j => loadOf wd (ff wd rows k).2 j + if j = fitAt (rows.getD k 0) (ff wd rows k).2 then rows.getD k 0 else 0 := funext fun j => step_load wd _ _ j
    rw [e, sumTo_put, h1, if_pos (by have := fitAt_le (rows.getD k 0) (ff wd rows k).2; have := (ff_len wd rows k).2; omega)]
    rfl
theorem load_pos {wd : Int} {ls : List Int} (h : FFI wd ls) (j : Nat) : 0 ≤ loadOf wd ls j ∧ (1 ≤ wd → loadOf wd ls j ≤ wd) := by
  unfold loadOf
  split
  · have := h.room j (by assumption); omega
  · omega
theorem load_pair {wd : Int} {ls : List Int} (h : FFI wd ls) {j : Nat} (hj : j + 1 < ls.length) : wd < loadOf wd ls j + loadOf wd ls (j + 1) := by
  have := h.pair j hj
  unfold loadOf
  rw [if_pos (by omega), if_pos hj]
  omega
theorem half_full {wd : Int} {ls : List Int} (h : FFI wd ls) : ∀ m : Nat, m + 1 ≤ ls.length → (m : Int) * (wd + 1) ≤ 2 * sumTo (loadOf wd ls) (m + 1) - loadOf wd ls m - loadOf wd ls 0 := by
  intro m
  induction m with
  | zero => intro _; simp [sumTo]; omega
  | succ m ih =>
    intro hm
    have h1 := ih (by omega)
    have h2 := load_pair h (j := m) (by omega)
    have e : sumTo (loadOf wd ls) (m + 1 + 1) = sumTo (loadOf wd ls) (m + 1) + loadOf wd ls (m + 1) := rfl
    rw [e]
    have e2 : ((m + 1 : Nat) : Int) * (wd + 1) = (m : Int) * (wd + 1) + (wd + 1) := by
      rw [Int.natCast_add, Int.add_mul]; simp
    rw [e2]
    omega
/-- The last of the laws: fewer bands than twice the rows. -/
theorem band_law {wd : Int} {rows : List Int} {n : Nat} (hw : 1 ≤ wd) (hr : ∀ j, j < n → 1 ≤ rows.getD j 0 ∧ rows.getD j 0 ≤ wd) :
    ((ff wd rows n).2.length = 0 ∨ (((ff wd rows n).2.length - 1 : Nat) : Int) * wd < 1 ∨ (((ff wd rows n).2.length - 1 : Nat) : Int) * wd < 2 * rsum rows n) := by
  have hf := ffi hw hr
  have hs := ff_sum wd rows n n (Nat.le_refl _)
  have hl := (ff_len wd rows n).2
  generalize (ff wd rows n).2 = ls at *
  rcases Nat.eq_zero_or_pos ls.length with h0 | h0
  · exact .inl h0
  · right
    have h1 := half_full hf (ls.length - 1) (by omega)
    have h2 := (load_pos hf (ls.length - 1)).1
    have h3 := (load_pos hf 0).1
    have h4 := sumTo_cut (loadOf wd ls) ls.length (fun j hj => by unfold loadOf; rw [if_neg (by omega)]) (n + 1 - ls.length)
    rw [show ls.length + (n + 1 - ls.length) = n + 1 by omega, hs] at h4
    rw [show ls.length - 1 + 1 = ls.length by omega, ← h4] at h1
    rw [Int.mul_add] at h1
    rcases Nat.eq_zero_or_pos (ls.length - 1) with h5 | h5
    · left; rw [h5]; simp
    · right; omega
end Go.Proofs.Ytoflcjgimkbgpaa
