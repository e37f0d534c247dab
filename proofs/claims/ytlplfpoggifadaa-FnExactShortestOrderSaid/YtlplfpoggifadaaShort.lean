/-
  The shortest order of cuts: the plain words of the search in the reference and in the program, and what its result is. No program in sight.
  By an AI agent.
-/
import Derived.Test.YtlplfpoggifadaaNear
namespace Go.Proofs.Ytlplfpoggifadaa
set_option maxRecDepth 100000
set_option linter.unusedVariables false

/-- An order of some numbers below n, none twice. -/
def ordOk (n : Nat) (L : List Int) : Prop := ∀ m, m < L.length → stepOk L n m = true
theorem ordOk.at {n : Nat} {L : List Int} (h : ordOk n L) {m : Nat} (hm : m < L.length) : 0 ≤ L.getD m 0 ∧ L.getD m 0 < n ∧ (L.take m).contains (L.getD m 0) = false := by
  have := stepOk_iff.1 (h m hm)
  unfold usedB at this
  exact ⟨this.1, by omega, this.2.2⟩
theorem ordOk.nil (n : Nat) : ordOk n [] := fun m hm => absurd hm (Nat.not_lt_zero m)
theorem getD_app {L R : List Int} {m : Nat} (h : m < L.length) : (L ++ R).getD m 0 = L.getD m 0 := by
  simp [List.getD, List.getElem?_append, h]
theorem getD_last {L : List Int} {x : Int} : (L ++ [x]).getD L.length 0 = x := by simp [List.getD]
theorem stepOk_app {n : Nat} {L R : List Int} {m : Nat} (h : m < L.length) : stepOk (L ++ R) n m = stepOk L n m := by
  unfold stepOk usedB
  rw [getD_app h, List.take_append_of_le_length (by omega)]
theorem ordOk.push {n k : Nat} {L : List Int} (h : ordOk n L) (hk : k < n) (hn : L.contains (k : Int) = false) : ordOk n (L ++ [(k : Int)]) := by
  intro m hm
  rw [List.length_append, List.length_singleton] at hm
  by_cases e : m = L.length
  · subst e
    rw [stepOk_iff, getD_last]
    refine ⟨by omega, by omega, ?_⟩
    unfold usedB
    rw [List.take_left]
    exact hn
  · rw [stepOk_app (by omega)]
    exact h m (by omega)
theorem ordOk.pre {n : Nat} {L R : List Int} (h : ordOk n (L ++ R)) : ordOk n L := fun m hm => by
  have := h m (by rw [List.length_append]; omega)
  rwa [stepOk_app hm] at this
theorem wst_app (ps : List DCut) (L R : List Int) : ∀ m, m ≤ L.length → wst ps (L ++ R) m = wst ps L m := by
  intro m
  induction m with
  | zero => intro _; rfl
  | succ m ih =>
    intro hm
    have i := ih (by omega)
    show (_, _, _) = (_, _, _)
    rw [i, getD_app (by omega)]
/-- Row, place and way behind an order. -/
def kst (ps : List DCut) (L : List Int) : Int × Int × Int := wst ps L L.length
theorem kst_push (ps : List DCut) (L : List Int) (k : Nat) : kst ps (L ++ [(k : Int)]) = ((ps.getD k default).k, goP (kst ps L).1 (kst ps L).2.1 (ps.getD k default), (kst ps L).2.2 + goW (kst ps L).1 (kst ps L).2.1 (ps.getD k default)) := by
  unfold kst
  rw [List.length_append, List.length_singleton]
  show (_, _, _) = (_, _, _)
  rw [wst_app ps L _ L.length (Nat.le_refl _), getD_last, Int.toNat_natCast]
theorem kst_bd {ps : List DCut} {L : List Int} (hc : cAll ps = true) (h : ordOk ps.length L) : At (kst ps L).1 (kst ps L).2.1 ∧ 0 ≤ (kst ps L).2.2 ∧ (kst ps L).2.2 ≤ 300 * L.length := wst_bd hc L.length h
theorem wayOf_full {ps : List DCut} {L : List Int} (hc : cAll ps = true) (h8 : ps.length ≤ 8) (h : ordOk ps.length L) (hl : L.length = ps.length) : wayOf ps L = (kst ps L).2.2 := wayOf_yes hc h8 hl h

/-- An order and its way; a way below 0: none. -/
abbrev Bst := List Int × Int
def upd (a x : Bst) : Bst := if a.2 < 0 ∨ x.2 < a.2 then x else a
theorem upd_assoc (a b x : Bst) (hb : b.2 < 0 → b = ([], -1)) (hx : 0 ≤ x.2) : upd (if b.2 < 0 then a else upd a b) x = upd a (upd b x) := by
  by_cases h : b.2 < 0
  · rw [if_pos h]
    have : upd b x = x := if_pos (.inl h)
    rw [this]
  · rw [if_neg h]
    unfold upd
    by_cases h1 : a.2 < 0 ∨ b.2 < a.2
    · rw [if_pos h1]
      by_cases h2 : b.2 < 0 ∨ x.2 < b.2
      · rw [if_pos h2, if_pos (by omega)]
      · rw [if_neg h2, if_pos h1]
    · rw [if_neg h1]
      by_cases h2 : b.2 < 0 ∨ x.2 < b.2
      · rw [if_pos h2]
      · rw [if_neg h2, if_neg h1, if_neg (by omega)]
/-- The reference's search, with so much fuel. -/
def srch (ps : List DCut) : Nat → List Int → Bst
  | 0, L => (L, (kst ps L).2.2)
  | f + 1, L => (List.range ps.length).foldl (fun a (k : Nat) => if L.contains (k : Int) = true then a else upd a (srch ps f (L ++ [(k : Int)]))) ([], -1)
/-- .. behind the first q numbers. -/
def srQ (ps : List DCut) (f : Nat) (L : List Int) (q : Nat) : Bst := (List.range q).foldl (fun a (k : Nat) => if L.contains (k : Int) = true then a else upd a (srch ps f (L ++ [(k : Int)]))) ([], -1)
theorem srQ_succ (ps : List DCut) (f : Nat) (L : List Int) (q : Nat) : srQ ps f L (q + 1) = if L.contains (q : Int) = true then srQ ps f L q else upd (srQ ps f L q) (srch ps f (L ++ [(q : Int)])) := by
  unfold srQ
  rw [List.range_succ, List.foldl_append]
  rfl
theorem srch_succ (ps : List DCut) (f : Nat) (L : List Int) : srch ps (f + 1) L = srQ ps f L ps.length := rfl
/-- The program's search, which keeps the best order so far. -/
def imp (ps : List DCut) : Nat → List Int → Bst → Bst
  | 0, L, a => upd a (L, wayOf ps L)
  | f + 1, L, a => (List.range ps.length).foldl (fun a (k : Nat) => if L.contains (k : Int) = true then a else imp ps f (L ++ [(k : Int)]) a) a
def imQ (ps : List DCut) (f : Nat) (L : List Int) (a : Bst) (q : Nat) : Bst := (List.range q).foldl (fun a (k : Nat) => if L.contains (k : Int) = true then a else imp ps f (L ++ [(k : Int)]) a) a
theorem imQ_succ (ps : List DCut) (f : Nat) (L : List Int) (a : Bst) (q : Nat) : imQ ps f L a (q + 1) = if L.contains (q : Int) = true then imQ ps f L a q else imp ps f (L ++ [(q : Int)]) (imQ ps f L a q) := by
  unfold imQ
  rw [List.range_succ, List.foldl_append]
  rfl
theorem imp_succ (ps : List DCut) (f : Nat) (L : List Int) (a : Bst) : imp ps (f + 1) L a = imQ ps f L a ps.length := rfl
/-- What a full order is. -/
def fullO (ps : List DCut) (L : List Int) : Prop := ordOk ps.length L ∧ L.length = ps.length
theorem missing {n : Nat} {L : List Int} (hl : L.length < n) : ∃ k, k < n ∧ L.contains (k : Int) = false := by
  by_cases h : ∃ k, k < n ∧ L.contains (k : Int) = false
  · exact h
  · have := all_in n L (fun i hi => by
      cases e : L.contains (i : Int)
      · exact absurd ⟨i, hi, e⟩ h
      · exact List.contains_iff_mem.1 e)
    omega
/-- The search: an order that extends L, the shortest of all such. -/
structure IsBest (ps : List DCut) (L : List Int) (a : Bst) : Prop where
  full : fullO ps a.1
  way : a.2 = (kst ps a.1).2.2
  pre : ∃ R, a.1 = L ++ R
  least : ∀ R, fullO ps (L ++ R) → a.2 ≤ (kst ps (L ++ R)).2.2
theorem srch_best {ps : List DCut} (hc : cAll ps = true) (f : Nat) : ∀ L, ordOk ps.length L → L.length + f = ps.length → IsBest ps L (srch ps f L) := by
  induction f with
  | zero =>
    intro L hL hl
    refine ⟨⟨hL, by show L.length = _; omega⟩, rfl, ⟨[], by show L = L ++ []; rw [List.append_nil]⟩, fun R hR => ?_⟩
    have h1 := hR.2
    rw [List.length_append] at h1
    have : R = [] := List.length_eq_zero_iff.1 (by omega)
    subst this
    rw [List.append_nil]
    exact Int.le_refl _
  | succ f ih =>
    intro L hL hl
    rw [srch_succ]
    have key : ∀ q, q ≤ ps.length → ((srQ ps f L q = ([], -1) ∧ ∀ k, k < q → L.contains (k : Int) = true) ∨
        (fullO ps (srQ ps f L q).1 ∧ (srQ ps f L q).2 = (kst ps (srQ ps f L q).1).2.2 ∧ (∃ R, (srQ ps f L q).1 = L ++ R) ∧ ∀ k, k < q → L.contains (k : Int) = false → ∀ R, fullO ps (L ++ [(k : Int)] ++ R) → (srQ ps f L q).2 ≤ (kst ps (L ++ [(k : Int)] ++ R)).2.2)) := by
      intro q
      induction q with
      | zero => intro _; exact .inl ⟨rfl, fun k hk => absurd hk (Nat.not_lt_zero k)⟩
      | succ q ihq =>
        intro hq
        have i := ihq (by omega)
        rw [srQ_succ]
        cases hcq : L.contains (q : Int)
        · rw [if_neg (by simp)]
          have hb := ih (L ++ [(q : Int)]) (hL.push (by omega) hcq) (by rw [List.length_append, List.length_singleton]; omega)
          obtain ⟨R0, hR0⟩ := hb.pre
          rcases i with ⟨e, hall⟩ | ⟨i1, i2, i3, i4⟩
          · have hu : upd (srQ ps f L q) (srch ps f (L ++ [(q : Int)])) = srch ps f (L ++ [(q : Int)]) := by rw [e]; exact if_pos (.inl (by show (-1 : Int) < 0; omega))
            rw [hu]
            refine .inr ⟨hb.full, hb.way, ⟨_, by rw [hR0, List.append_assoc]⟩, fun k hk hck R hR => ?_⟩
            by_cases ek : k = q
            · subst ek; exact hb.least R hR
            · rw [hall k (by omega)] at hck; cases hck
          · right
            by_cases hlt : (srQ ps f L q).2 < 0 ∨ (srch ps f (L ++ [(q : Int)])).2 < (srQ ps f L q).2
            · have hu : upd (srQ ps f L q) (srch ps f (L ++ [(q : Int)])) = srch ps f (L ++ [(q : Int)]) := if_pos hlt
              rw [hu]
              refine ⟨hb.full, hb.way, ⟨_, by rw [hR0, List.append_assoc]⟩, fun k hk hck R hR => ?_⟩
              by_cases ek : k = q
              · subst ek; exact hb.least R hR
              · have h5 := i4 k (by omega) hck R hR
                have h6 := (kst_bd hc i1.1).2.1
                rw [← i2] at h6
                omega
            · have hu : upd (srQ ps f L q) (srch ps f (L ++ [(q : Int)])) = srQ ps f L q := if_neg hlt
              rw [hu]
              refine ⟨i1, i2, i3, fun k hk hck R hR => ?_⟩
              by_cases ek : k = q
              · subst ek
                have := hb.least R hR
                omega
              · exact i4 k (by omega) hck R hR
        · rw [if_pos rfl]
          rcases i with ⟨e, hall⟩ | ⟨i1, i2, i3, i4⟩
          · refine .inl ⟨e, fun k hk => ?_⟩
            by_cases ek : k = q
            · subst ek; exact hcq
            · exact hall k (by omega)
          · refine .inr ⟨i1, i2, i3, fun k hk hck R hR => ?_⟩
            by_cases ek : k = q
            · subst ek; rw [hcq] at hck; cases hck
            · exact i4 k (by omega) hck R hR
    rcases key ps.length (Nat.le_refl _) with ⟨_, hall⟩ | ⟨h1, h2, h3, h4⟩
    · exfalso
      obtain ⟨k, hk, hk2⟩ := missing (n := ps.length) (L := L) (by omega)
      rw [hall k hk] at hk2; cases hk2
    · refine ⟨h1, h2, h3, fun R hR => ?_⟩
      cases R with
      | nil =>
        have := hR.2
        rw [List.append_nil] at this
        omega
      | cons x R =>
        have hx := hR.1.at (m := L.length) (by rw [List.length_append, List.length_cons]; omega)
        have e1 : (L ++ x :: R).getD L.length 0 = x := by simp [List.getD]
        rw [e1, List.take_left] at hx
        have e2 : x = ((x.toNat : Nat) : Int) := by omega
        have e3 : L ++ x :: R = L ++ [((x.toNat : Nat) : Int)] ++ R := by rw [← e2]; simp
        rw [e3] at hR ⊢
        exact h4 x.toNat (by omega) (by rw [← e2]; exact hx.2.2) R hR
theorem srch_pos {ps : List DCut} (hc : cAll ps = true) {f : Nat} {L : List Int} (hL : ordOk ps.length L) (hl : L.length + f = ps.length) : 0 ≤ (srch ps f L).2 ∧ (srch ps f L).2 ≤ 300 * ps.length := by
  have hb := srch_best hc f L hL hl
  have h2 := kst_bd hc hb.full.1
  rw [hb.way]
  have := hb.full.2
  omega
theorem srQ_bd {ps : List DCut} (hc : cAll ps = true) {f : Nat} {L : List Int} (hL : ordOk ps.length L) (hl : L.length + (f + 1) = ps.length) (q : Nat) (hq : q ≤ ps.length) : -1 ≤ (srQ ps f L q).2 ∧ (srQ ps f L q).2 ≤ 300 * ps.length ∧ ((srQ ps f L q).2 < 0 → srQ ps f L q = ([], -1)) := by
  induction q with
  | zero => exact ⟨Int.le_refl _, by show (-1 : Int) ≤ _; omega, fun _ => rfl⟩
  | succ q ih =>
    have i := ih (by omega)
    rw [srQ_succ]
    cases hcq : L.contains (q : Int)
    · rw [if_neg (by simp)]
      have hp := srch_pos hc (hL.push (k := q) (by omega) hcq) (f := f) (by rw [List.length_append, List.length_singleton]; omega)
      unfold upd
      split
      · exact ⟨by omega, by omega, fun h => by omega⟩
      · exact i
    · rw [if_pos rfl]; exact i
/-- The program's search finds the reference's order. -/
theorem imp_srch {ps : List DCut} (hc : cAll ps = true) (h8 : ps.length ≤ 8) (f : Nat) : ∀ L a, ordOk ps.length L → L.length + f = ps.length → imp ps f L a = upd a (srch ps f L) := by
  induction f with
  | zero =>
    intro L a hL hl
    show upd a (L, wayOf ps L) = upd a (L, (kst ps L).2.2)
    rw [wayOf_full hc h8 hL (by omega)]
  | succ f ih =>
    intro L a hL hl
    have key : ∀ q, q ≤ ps.length → imQ ps f L a q = if (srQ ps f L q).2 < 0 then a else upd a (srQ ps f L q) := by
      intro q
      induction q with
      | zero => intro _; show a = _; exact (if_pos (by show (-1 : Int) < 0; omega)).symm
      | succ q ihq =>
        intro hq
        have i := ihq (by omega)
        rw [imQ_succ, srQ_succ]
        cases hcq : L.contains (q : Int)
        · have ff : ¬ (false = true) := by simp
          rw [if_neg ff, if_neg ff]
          have hL' := hL.push (k := q) (by omega) hcq
          have hl' : (L ++ [(q : Int)]).length + f = ps.length := by rw [List.length_append, List.length_singleton]; omega
          have hp := srch_pos hc hL' hl'
          rw [ih _ _ hL' hl', i, upd_assoc a (srQ ps f L q) _ (srQ_bd hc hL hl q (by omega)).2.2 hp.1]
          have : ¬ (upd (srQ ps f L q) (srch ps f (L ++ [(q : Int)]))).2 < 0 := by
            unfold upd
            split
            · omega
            · omega
          rw [if_neg this]
        · rw [if_pos rfl, if_pos rfl]; exact i
    rw [imp_succ, srch_succ, key ps.length (Nat.le_refl _)]
    have hp := srch_pos hc (f := f + 1) hL hl
    rw [srch_succ] at hp
    rw [if_neg (by omega)]
/-- The result of both. -/
def shR (ps : List DCut) : List Int := if cAll ps = true ∧ ps.length ≤ 6 then (srch ps ps.length []).1 else []
theorem shR_yes {ps : List DCut} (h : cAll ps = true) (h' : ps.length ≤ 6) : shR ps = (srch ps ps.length []).1 := by unfold shR; rw [if_pos ⟨h, h'⟩]
theorem shR_no {ps : List DCut} (h : cAll ps = false ∨ 6 < ps.length) : shR ps = [] := by
  unfold shR
  rw [if_neg]
  rintro ⟨a, b⟩
  rcases h with h | h
  · rw [a] at h; cases h
  · omega
theorem sh_best {ps : List DCut} (h : cAll ps = true) : IsBest ps [] (srch ps ps.length []) := srch_best h ps.length [] (ordOk.nil _) (by simp)
theorem shR_len (ps : List DCut) : (shR ps).length ≤ 6 := by
  unfold shR; split
  · rename_i h
    rw [(sh_best h.1).full.2]
    exact h.2
  · exact Nat.zero_le _
theorem imp_all {ps : List DCut} (hc : cAll ps = true) (h8 : ps.length ≤ 6) : (imp ps ps.length [] ([], -1)).1 = shR ps := by
  rw [imp_srch hc (by omega) ps.length [] _ (ordOk.nil _) (by simp), shR_yes hc h8]
  have : upd ([], -1) (srch ps ps.length []) = srch ps ps.length [] := if_pos (.inl (by show (-1 : Int) < 0; omega))
  rw [this]
end Go.Proofs.Ytlplfpoggifadaa
