/-
  Knives: the plain law of ways: the shortest order, the nearest one, the cuts alone; the cuts of a card and their length. No program in sight.
  By an AI agent.
-/
import Derived.Test.YtlplfpoggifadaaShort
import Derived.Test.YtlplfpoggifadaaRuns
namespace Go.Proofs.Ytlplfpoggifadaa
open Go.ChangeShapes Go.WideShapes Go.ChangeAt Go.RowKit Go.Joins Go.Deep
set_option maxRecDepth 100000
set_option linter.unusedVariables false

/-! ### sums over what an order holds -/
def indS (L : List Int) (f : Nat → Int) : Nat → Int
  | 0 => 0
  | k + 1 => indS L f k + if L.contains (k : Int) = true then f k else 0
theorem ind_push {L : List Int} {x : Nat} {f : Nat → Int} (hx : L.contains (x : Int) = false) : ∀ n, indS (L ++ [(x : Int)]) f n = indS L f n + if x < n then f x else 0 := by
  intro n
  induction n with
  | zero => simp [indS]
  | succ n ih =>
    show indS (L ++ [(x : Int)]) f n + _ = indS L f n + _ + _
    rw [ih, List.contains_append]
    by_cases e : n = x
    · subst e
      rw [hx, if_neg (Nat.lt_irrefl n), if_pos (Nat.lt_succ_self n)]
      simp
    · have h1 : ¬ (n : Int) = (x : Int) := by omega
      have h2 : ([(x : Int)].contains (n : Int)) = false := by simp [h1]
      rw [h2, Bool.or_false]
      by_cases hlt : x < n
      · rw [if_pos hlt, if_pos (show x < n + 1 by omega)]; omega
      · rw [if_neg hlt, if_neg (show ¬ x < n + 1 by omega)]; omega
/-- The sum along an order. -/
def ordS (L : List Int) (f : Nat → Int) : Nat → Int
  | 0 => 0
  | m + 1 => ordS L f m + f (L.getD m 0).toNat
theorem ordS_take {L : List Int} {f : Nat → Int} {n : Nat} (h : ordOk n L) : ∀ m, m ≤ L.length → ordS L f m = indS (L.take m) f n := by
  intro m
  induction m with
  | zero =>
    intro _
    show 0 = _
    rw [List.take_zero]
    have : ∀ k, indS [] f k = 0 := by
      intro k
      induction k with
      | zero => rfl
      | succ k ih => show indS [] f k + _ = 0; rw [ih]; rfl
    rw [this]
  | succ m ih =>
    intro hm
    obtain ⟨h1, h2, h3⟩ := h.at (m := m) (by omega)
    have e1 : L.take (m + 1) = L.take m ++ [(((L.getD m 0).toNat : Nat) : Int)] := by
      rw [List.take_succ_eq_append_getElem (by omega), Int.toNat_of_nonneg h1, getD_at _ _ (by omega : m < L.length)]
    have e2 : (L.take m).contains (((L.getD m 0).toNat : Nat) : Int) = false := by rw [Int.toNat_of_nonneg h1]; exact h3
    rw [e1, ind_push e2, if_pos (by omega), ← ih (by omega)]
    rfl
theorem ind_one_lt {L : List Int} {n k : Nat} (hk : k < n) (hn : L.contains (k : Int) = false) : indS L (fun _ => 1) n ≤ (n : Int) - 1 := by
  have hle : ∀ m, indS L (fun _ => 1) m ≤ (m : Int) := by
    intro m
    induction m with
    | zero => exact Int.le_refl _
    | succ m ih => show indS L _ m + _ ≤ _; push_cast; split <;> omega
  have : ∀ m, k < m → indS L (fun _ => 1) m ≤ (m : Int) - 1 := by
    intro m
    induction m with
    | zero => intro h; omega
    | succ m ih =>
      intro h
      show indS L _ m + _ ≤ _
      push_cast
      by_cases e : k = m
      · subst e
        rw [hn, if_neg (by simp)]
        have := hle k
        omega
      · have := ih (by omega)
        split <;> omega
  exact this n hk
theorem ord_full {n : Nat} {L : List Int} (h : ordOk n L) (hl : L.length = n) {k : Nat} (hk : k < n) : L.contains (k : Int) = true := by
  cases e : L.contains (k : Int)
  · exfalso
    have h1 := ordS_take (f := fun _ => 1) h L.length (Nat.le_refl _)
    rw [List.take_length] at h1
    have h2 := ind_one_lt hk e
    have h3 : ∀ m, ordS L (fun _ => 1) m = (m : Int) := by
      intro m
      induction m with
      | zero => rfl
      | succ m ih => show ordS L _ m + 1 = _; rw [ih]; push_cast; rfl
    rw [h3, hl] at h1
    omega
  · rfl
theorem ordS_all {n : Nat} {L : List Int} {f : Nat → Int} (h : ordOk n L) (hl : L.length = n) : ordS L f n = indS L f n := by
  have h1 := ordS_take (f := f) h L.length (Nat.le_refl _)
  rw [List.take_length, hl] at h1
  exact h1
theorem indS_all {L : List Int} {f : Nat → Int} : ∀ m : Nat, (∀ k : Nat, k < m → L.contains (k : Int) = true) → ∀ g : Nat → Int, g 0 = 0 → (∀ k, g (k + 1) = g k + f k) → indS L f m = g m := by
  intro m
  induction m with
  | zero => intro _ g h0 _; exact h0.symm
  | succ m ih =>
    intro h g h0 hs
    show indS L f m + _ = _
    rw [h m (by omega), if_pos rfl, ih (fun k hk => h k (by omega)) g h0 hs, hs]
/-! ### ways -/
theorem wst_ge {ps : List DCut} {L : List Int} (hc : cAll ps = true) (h : ordOk ps.length L) : ∀ m, m ≤ L.length → ordS L (fun k => (ps.getD k default).s - (ps.getD k default).g) m ≤ (wst ps L m).2.2 := by
  intro m
  induction m with
  | zero => intro _; exact Int.le_refl _
  | succ m ih =>
    intro hm
    have i := ih (by omega)
    obtain ⟨h1, h2, _⟩ := h.at (m := m) (by omega)
    have hb := wst_bd hc m (fun q hq => h q (by omega))
    have hx := cAll_at hc (k := (L.getD m 0).toNat) (by omega)
    have hg := goM_bd hb.1 hx
    show ordS L _ m + _ ≤ (wst ps L m).2.2 + goW _ _ _
    unfold goW
    dsimp only
    omega
/-- No order is shorter than the cuts alone. -/
theorem way_ge {ps : List DCut} {L : List Int} (hc : cAll ps = true) (h : fullO ps L) : cutOf ps ≤ (kst ps L).2.2 := by
  have h1 := wst_ge hc h.1 L.length (Nat.le_refl _)
  rw [show (wst ps L L.length).2.2 = (kst ps L).2.2 from rfl, h.2, ordS_all h.1 h.2] at h1
  rw [indS_all ps.length (fun k hk => ord_full h.1 h.2 hk) (cutN ps) rfl (fun k => rfl)] at h1
  unfold cutOf
  rw [if_pos hc]
  exact h1
theorem nb_not {r p : Int} {ps : List DCut} {L : List Int} : ∀ i, 0 ≤ (nb r p ps L i).1 → L.contains (nb r p ps L i).1 = false := by
  intro i
  induction i with
  | zero => intro h; exact absurd h (by show ¬ (0 : Int) ≤ -1; omega)
  | succ i ih =>
    intro h
    unfold nb at h ⊢
    split at h
    · rename_i hh
      rw [if_pos hh]
      exact hh.1
    · rename_i hh
      rw [if_neg hh]
      exact ih h
theorem nst_ord {ps : List DCut} (hc : cAll ps = true) : ∀ k, k ≤ ps.length → ordOk ps.length (nst ps k).1 := by
  intro k
  induction k with
  | zero => intro _; exact ordOk.nil _
  | succ k ih =>
    intro hk
    have hf := nb_found (L := (nst ps k).1) (nst_at hc k (by omega)) hc (by rw [nst_len]; omega)
    have hn := nb_not (r := (nst ps k).2.1) (p := (nst ps k).2.2) (ps := ps) (L := (nst ps k).1) ps.length hf.1
    show ordOk _ ((nst ps k).1 ++ [(nb (nst ps k).2.1 (nst ps k).2.2 ps (nst ps k).1 ps.length).1])
    generalize (nb (nst ps k).2.1 (nst ps k).2.2 ps (nst ps k).1 ps.length).1 = x at *
    have e : x = ((x.toNat : Nat) : Int) := by omega
    rw [e] at hn ⊢
    exact (ih (by omega)).push (by omega) hn
theorem near_full {ps : List DCut} (hc : cAll ps = true) (h8 : ps.length ≤ 8) : fullO ps (nearR ps) := by
  rw [nearR_yes hc h8]
  exact ⟨nst_ord hc _ (Nat.le_refl _), nst_len _ _⟩
theorem short_full {ps : List DCut} (hc : cAll ps = true) (h6 : ps.length ≤ 6) : fullO ps (shR ps) := by
  rw [shR_yes hc h6]; exact (sh_best hc).full
theorem short_least {ps : List DCut} (hc : cAll ps = true) (h6 : ps.length ≤ 6) {L : List Int} (h : fullO ps L) : wayOf ps (shR ps) ≤ wayOf ps L := by
  have hs := short_full hc h6
  rw [wayOf_full hc (by omega) hs.1 hs.2, wayOf_full hc (by omega) h.1 h.2]
  have hb := sh_best hc
  rw [shR_yes hc h6] at *
  rw [← hb.way]
  exact hb.least L h
theorem short_ge {ps : List DCut} (hc : cAll ps = true) (h6 : ps.length ≤ 6) : cutOf ps ≤ wayOf ps (shR ps) := by
  have hs := short_full hc h6
  rw [wayOf_full hc (by omega) hs.1 hs.2]
  exact way_ge hc hs
theorem way_bd {ps : List DCut} (hc : cAll ps = true) (h6 : ps.length ≤ 6) {L : List Int} (h : fullO ps L) : 0 ≤ wayOf ps L ∧ wayOf ps L ≤ 3000 := by
  rw [wayOf_full hc (by omega) h.1 h.2]
  have := kst_bd hc h.1
  have := h.2
  omega
/-! ### small orders -/
def idL (n : Nat) : List Int := (List.range n).map Int.ofNat
def swL (n : Nat) : List Int := ((idL n).set 0 1).set 1 0
def dbL (n : Nat) : List Int := (swL n).set 1 1
def ordB (n : Nat) (L : List Int) : Bool := (List.range L.length).all (stepOk L n)
theorem ordB_ok {n : Nat} {L : List Int} (h : ordB n L = true) : ordOk n L := fun m hm => by
  unfold ordB at h
  rw [List.all_eq_true] at h
  exact h m (List.mem_range.2 hm)
theorem id_full {ps : List DCut} (h5 : ps.length ≤ 5) : fullO ps (idL ps.length) := by
  obtain ⟨n, hn⟩ : ∃ n, ps.length = n := ⟨_, rfl⟩
  unfold fullO
  rw [hn] at h5 ⊢
  have : n = 0 ∨ n = 1 ∨ n = 2 ∨ n = 3 ∨ n = 4 ∨ n = 5 := by omega
  rcases this with rfl | rfl | rfl | rfl | rfl | rfl <;> exact ⟨ordB_ok (by decide), by decide⟩
theorem sw_full {ps : List DCut} (h2 : 2 ≤ ps.length) (h5 : ps.length ≤ 5) : fullO ps (swL ps.length) := by
  obtain ⟨n, hn⟩ : ∃ n, ps.length = n := ⟨_, rfl⟩
  unfold fullO
  rw [hn] at h2 h5 ⊢
  have : n = 2 ∨ n = 3 ∨ n = 4 ∨ n = 5 := by omega
  rcases this with rfl | rfl | rfl | rfl <;> exact ⟨ordB_ok (by decide), by decide⟩
theorem db_bad {ps : List DCut} (h2 : 2 ≤ ps.length) (h5 : ps.length ≤ 5) : wayOf ps (dbL ps.length) = -1 := by
  obtain ⟨n, hn⟩ : ∃ n, ps.length = n := ⟨_, rfl⟩
  have : n = 2 ∨ n = 3 ∨ n = 4 ∨ n = 5 := by omega
  refine wayOf_bad (m := 1) ?_ ?_
  · rw [hn]; rcases this with rfl | rfl | rfl | rfl <;> decide
  · rw [hn]; rcases this with rfl | rfl | rfl | rfl <;> decide
theorem len_id (n : Nat) : (idL n).length = n := by simp [idL]
theorem len_sw (n : Nat) : (swL n).length = n := by simp [swL, idL]
theorem len_db (n : Nat) : (dbL n).length = n := by simp [dbL, swL, idL]
theorem idL_succ (n : Nat) : idL (n + 1) = idL n ++ [(n : Int)] := by unfold idL; rw [List.range_succ, List.map_append]; rfl
theorem one_cut : wayOf [⟨2, 3, 5⟩] [0] = 7 := by decide
/-! ### the length of a card's cuts -/
def clenN (ss : List ByteArray) (N : Nat) : Nat → Int
  | 0 => 0
  | k + 1 => clenN ss N k + ((dfL (rowS ss k) (rowS ss (k + 1)) N).length : Nat)
theorem clen_bd (ss : List ByteArray) (N : Nat) : ∀ k, 0 ≤ clenN ss N k ∧ clenN ss N k ≤ (k : Int) * N := by
  intro k
  induction k with
  | zero => exact ⟨Int.le_refl _, by simp [clenN]⟩
  | succ k ih =>
    have := dfL_len (rowS ss k) (rowS ss (k + 1)) N
    show 0 ≤ clenN ss N k + _ ∧ clenN ss N k + _ ≤ _
    push_cast
    rw [Int.add_mul, Int.one_mul]
    omega
theorem cutN_app (A B : List DCut) : ∀ m, m ≤ B.length → cutN (A ++ B) (A.length + m) = cutN A A.length + cutN B m := by
  have h0 : ∀ q, q ≤ A.length → cutN (A ++ B) q = cutN A q := by
    intro q
    induction q with
    | zero => intro _; rfl
    | succ q ih =>
      intro hq
      show cutN (A ++ B) q + _ = cutN A q + _
      rw [ih (by omega)]
      have : (A ++ B).getD q default = A.getD q default := by simp [List.getD, List.getElem?_append, show q < A.length by omega]
      rw [this]
  intro m
  induction m with
  | zero => intro _; rw [Nat.add_zero, h0 _ (Nat.le_refl _)]; show _ = _ + 0; omega
  | succ m ih =>
    intro hm
    rw [show A.length + (m + 1) = (A.length + m) + 1 by omega]
    show cutN (A ++ B) (A.length + m) + _ = cutN A A.length + (cutN B m + _)
    rw [ih (by omega)]
    have : (A ++ B).getD (A.length + m) default = B.getD m default := by simp only [List.getD]; rw [List.getElem?_append_right (by omega), Nat.add_sub_cancel_left]
    rw [this]
    omega
theorem wid_snoc (R : Rows) (r : List Int) : widR (R ++ [r]) = widR R + (r.getD 1 0 + 1 - r.getD 0 0) := by
  unfold widR
  simp only [List.map_append, List.map_cons, List.map_nil, List.sum_append, List.sum_cons, List.sum_nil]
  omega
theorem cutN_runs (row : Int) : ∀ R : Rows, cutN (R.map (runCut row)) R.length = widR R := by
  intro R
  have key : ∀ m, m ≤ R.length → cutN (R.map (runCut row)) m = widR (R.take m) := by
    intro m
    induction m with
    | zero => intro _; rfl
    | succ m ih =>
      intro hm
      show cutN _ m + _ = _
      rw [ih (by omega), List.take_succ_eq_append_getElem (by omega)]
      have e : (R.map (runCut row)).getD m default = runCut row (R[m]'(by omega)) := by simp [List.getD, show m < R.length by omega]
      rw [e, wid_snoc]
      rfl
  have := key R.length (Nat.le_refl _)
  rw [List.take_length] at this
  exact this
theorem cuts_len (ss : List ByteArray) (N : Nat) : ∀ k, cutN (cutsN ss N k) (cutsN ss N k).length = clenN ss N k := by
  intro k
  induction k with
  | zero => rfl
  | succ k ih =>
    show cutN (cutsN ss N k ++ _) (cutsN ss N k ++ _).length = clenN ss N k + _
    have h1 := cutN_app (cutsN ss N k) ((runsAt ss N k).map (runCut ((k + 1 : Nat) : Int))) (runsAt ss N k).length (by rw [List.length_map]; exact Nat.le_refl _)
    rw [List.length_append, List.length_map, h1, ih, cutN_runs]
    unfold runsAt runsL
    rw [rn_wid]
theorem cut_law {d f : Int} {n N : Nat} {ss : List ByteArray} (h : Cd d f n N ss) : cutOf (cutsR d f n ss) = clenN ss N (n - 1) := by
  have hb := h.bds
  unfold cutOf
  rw [cutsR_yes h, if_pos (show cAll _ = true from List.all_eq_true.2 fun x hx => cutsN_ok ss N (by omega) (n - 1) (by omega) x hx), cuts_len]
end Go.Proofs.Ytlplfpoggifadaa
