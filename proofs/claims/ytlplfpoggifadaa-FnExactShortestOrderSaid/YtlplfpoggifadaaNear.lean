/-
  The nearest order of cuts: the plain words. No program in sight but for cuts as data.
  By an AI agent.
-/
import Derived.Test.YtlplfpoggifadaaWayOf
namespace Go.Proofs.Ytlplfpoggifadaa
open Go.ChangeShapes Go.WideShapes Go.ChangeAt Go.RowKit Go.Joins Go.Deep
set_option maxRecDepth 100000
set_option linter.unusedVariables false

theorem all_in (n : Nat) : ∀ L : List Int, (∀ i : Nat, i < n → (i : Int) ∈ L) → n ≤ L.length := by
  induction n with
  | zero => intro L _; exact Nat.zero_le _
  | succ n ih =>
    intro L h
    have hn := h n (by omega)
    have h1 := ih (L.erase (n : Int)) (fun i hi => (List.mem_erase_of_ne (by omega)).2 (h i (by omega)))
    rw [List.length_erase_of_mem hn] at h1
    have : 0 < L.length := List.length_pos_of_mem hn
    omega
/-- The least cut among the first i that are not in L: its number (-1: none), and its way. -/
def nb (r p : Int) (ps : List DCut) (L : List Int) : Nat → Int × Int
  | 0 => (-1, 0)
  | i + 1 => if L.contains (i : Int) = false ∧ ((nb r p ps L i).1 < 0 ∨ goM r p (ps.getD i default) < (nb r p ps L i).2) then ((i : Int), goM r p (ps.getD i default)) else nb r p ps L i
theorem nb_take {r p : Int} {ps : List DCut} {L : List Int} {i : Nat} (h : L.contains (i : Int) = false) (h' : (nb r p ps L i).1 < 0 ∨ goM r p (ps.getD i default) < (nb r p ps L i).2) : nb r p ps L (i + 1) = ((i : Int), goM r p (ps.getD i default)) := by
  show (if _ then _ else _) = _; rw [if_pos ⟨h, h'⟩]
theorem nb_in {r p : Int} {ps : List DCut} {L : List Int} {i : Nat} (h : L.contains (i : Int) = true) : nb r p ps L (i + 1) = nb r p ps L i := by
  show (if _ then _ else _) = _; rw [if_neg (by rw [h]; simp)]
theorem nb_leave {r p : Int} {ps : List DCut} {L : List Int} {i : Nat} (h : 0 ≤ (nb r p ps L i).1) (h' : (nb r p ps L i).2 ≤ goM r p (ps.getD i default)) : nb r p ps L (i + 1) = nb r p ps L i := by
  show (if _ then _ else _) = _; rw [if_neg (by omega)]
theorem nb_bd {r p : Int} {ps : List DCut} {L : List Int} (h : At r p) (hc : cAll ps = true) (i : Nat) (hi : i ≤ ps.length) :
    (((nb r p ps L i).1 = -1 ∧ ∀ j : Nat, j < i → (j : Int) ∈ L) ∨ (0 ≤ (nb r p ps L i).1 ∧ (nb r p ps L i).1 < i)) ∧ 0 ≤ (nb r p ps L i).2 ∧ (nb r p ps L i).2 ≤ 200 := by
  induction i with
  | zero => exact ⟨.inl ⟨rfl, fun j hj => absurd hj (Nat.not_lt_zero j)⟩, Int.le_refl _, by show (0 : Int) ≤ 200; omega⟩
  | succ i ih =>
    obtain ⟨h1, h2, h3⟩ := ih (by omega)
    have hg := goM_bd h (cAll_at hc (k := i) (by omega))
    by_cases hL : L.contains (i : Int) = true
    · rw [nb_in hL]
      refine ⟨?_, h2, h3⟩
      rcases h1 with ⟨a, b⟩ | ⟨a, b⟩
      · refine .inl ⟨a, fun j hj => ?_⟩
        by_cases e : j = i
        · subst e; simpa using hL
        · exact b j (by omega)
      · exact .inr ⟨a, by push_cast; omega⟩
    · have hL' : L.contains (i : Int) = false := by simpa using hL
      by_cases ht : (nb r p ps L i).1 < 0 ∨ goM r p (ps.getD i default) < (nb r p ps L i).2
      · rw [nb_take hL' ht]
        exact ⟨.inr ⟨by show (0 : Int) ≤ (i : Int); omega, by show (i : Int) < ((i + 1 : Nat) : Int); omega⟩, hg.2.2.2.2.1, hg.2.2.2.2.2⟩
      · rw [nb_leave (by omega) (by omega)]
        refine ⟨.inr ?_, h2, h3⟩
        rcases h1 with ⟨a, b⟩ | ⟨a, b⟩
        · omega
        · exact ⟨a, by push_cast; omega⟩
theorem nb_found {r p : Int} {ps : List DCut} {L : List Int} (h : At r p) (hc : cAll ps = true) (hl : L.length < ps.length) : 0 ≤ (nb r p ps L ps.length).1 ∧ (nb r p ps L ps.length).1 < ps.length := by
  rcases (nb_bd (L := L) h hc ps.length (Nat.le_refl _)).1 with ⟨_, b⟩ | h
  · have := all_in ps.length L b; omega
  · exact h
/-- The order so far, and the knife's row and place. -/
def nst (ps : List DCut) : Nat → List Int × Int × Int
  | 0 => ([], 0, 0)
  | k + 1 => ((nst ps k).1 ++ [(nb (nst ps k).2.1 (nst ps k).2.2 ps (nst ps k).1 ps.length).1],
      (ps.getD (nb (nst ps k).2.1 (nst ps k).2.2 ps (nst ps k).1 ps.length).1.toNat default).k,
      goP (nst ps k).2.1 (nst ps k).2.2 (ps.getD (nb (nst ps k).2.1 (nst ps k).2.2 ps (nst ps k).1 ps.length).1.toNat default))
theorem nst_len (ps : List DCut) (k : Nat) : (nst ps k).1.length = k := by
  induction k with
  | zero => rfl
  | succ k ih => show (_ ++ [_]).length = _; rw [List.length_append, ih]; rfl
theorem nst_at {ps : List DCut} (hc : cAll ps = true) (k : Nat) (hk : k ≤ ps.length) : At (nst ps k).2.1 (nst ps k).2.2 := by
  induction k with
  | zero => exact ⟨Int.le_refl _, by show (0 : Int) ≤ 100; omega, Int.le_refl _, by show (0 : Int) ≤ 100; omega⟩
  | succ k ih =>
    have h := nb_found (L := (nst ps k).1) (ih (by omega)) hc (by rw [nst_len]; omega)
    exact goP_at (cAll_at hc (by omega))
def nearR (ps : List DCut) : List Int := if cAll ps = true ∧ ps.length ≤ 8 then (nst ps ps.length).1 else []
theorem nearR_yes {ps : List DCut} (h : cAll ps = true) (h' : ps.length ≤ 8) : nearR ps = (nst ps ps.length).1 := by unfold nearR; rw [if_pos ⟨h, h'⟩]
theorem nearR_no {ps : List DCut} (h : cAll ps = false ∨ 8 < ps.length) : nearR ps = [] := by
  unfold nearR
  rw [if_neg]
  rintro ⟨a, b⟩
  rcases h with h | h
  · rw [a] at h; cases h
  · omega
theorem nearR_len (ps : List DCut) : (nearR ps).length ≤ 8 := by
  unfold nearR; split
  · rename_i h; rw [nst_len]; exact h.2
  · exact Nat.zero_le _
/-- The marks of a list. -/
def mk (L : List Int) (i : Nat) : Value := .bool (L.contains (i : Int))
theorem mk_set {w : World} {g n i : Nat} {L : List Int} (h : Row w g n (mk L)) : Row (w.setCell ⟨g, i, none⟩ (.bool true)) g n (mk (L ++ [(i : Int)])) := by
  refine (h.set i (.bool true)).congr fun q _ => ?_
  unfold mk
  rw [List.contains_append]
  by_cases e : q = i
  · subst e; simp
  · rw [if_neg e]
    have : ¬ (q : Int) = (i : Int) := by omega
    simp [this]
end Go.Proofs.Ytlplfpoggifadaa
