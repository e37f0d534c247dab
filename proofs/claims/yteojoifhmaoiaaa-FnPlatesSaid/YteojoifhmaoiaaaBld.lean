/-
  A list of lists of numbers that a call builds by append, one list at a time. Plain facts on worlds; no program in sight but for the element's type.
  By an AI agent.
-/
import Derived.Test.YteojoifhmaoiaaaIntSS
import Derived.Test.YteojoifhmaoiaaaOwn
namespace Go.Proofs.Yteojoifhmaoiaaa
open Go.ChangeShapes Go.WideShapes Go.ChangeAt Go.RowKit
set_option maxRecDepth 100000
set_option linter.unusedVariables false

theorem infoRowB : (Try.prog.info? 28).map (fun i => (i.zero, i.size, i.bytes)) = some (some (.slice none 0 0), 1, 24) := by kernel_rfl
def hdv (A : Nat → Nat) (L : Rows) : List Value := (List.range L.length).map (crow A L)
theorem rowN_app {L : Rows} {r : List Int} {i : Nat} (h : i < L.length) : rowN (L ++ [r]) i = rowN L i := by
  unfold rowN
  simp [List.getD, List.getElem?_append, h]
theorem rowN_last {L : Rows} {r : List Int} : rowN (L ++ [r]) L.length = r := by
  unfold rowN
  simp [List.getD]
theorem hdv_app (A : Nat → Nat) (L : Rows) (r : List Int) (x : Nat) : hdv (fun i => if i = L.length then x else A i) (L ++ [r]) = hdv A L ++ [.slice (some ⟨x, 0, none⟩) r.length r.length] := by
  unfold hdv
  rw [List.length_append, List.length_singleton, List.range_succ, List.map_append]
  congr 1
  · refine List.map_congr_left fun i hi => ?_
    have hi' := List.mem_range.1 hi
    unfold crow lenN
    rw [rowN_app hi']
    simp only [if_neg (Nat.ne_of_lt hi')]
  · simp [crow, lenN, rowN_last]
structure Bld (w : World) (lo g cp : Nat) (L : Rows) (A : Nat → Nat) : Prop where
  own : Own1 w lo 28 g L.length cp (hdv A L)
  rows : ∀ i, i < L.length → (lo ≤ A i ∧ A i < w.heap.size ∧ A i ≠ g ∧ ∀ j, j < i → A j ≠ A i) ∧ Row w (A i) (lenN L i) (ic (rowN L i))
section
variable {w w' : World} {lo g cp : Nat} {L : Rows} {A : Nat → Nat}
theorem Bld.start (w : World) : Bld (w.alloc (.cells #[] 28 (0, 0))) w.heap.size w.heap.size 0 [] (fun _ => 0) := ⟨Own1.empty w 28, fun i hi => absurd hi (Nat.not_lt_zero i)⟩
theorem Bld.below (h : Bld w lo g cp L A) (hb : Below w.heap.size w w') : Bld w' lo g cp L A := ⟨h.own.below hb, fun i hi => by
  obtain ⟨⟨h1, h2, h3, h4⟩, h5⟩ := h.rows i hi
  exact ⟨⟨h1, Nat.lt_of_lt_of_le h2 hb.size, h3, h4⟩, h5.below hb h5.lt⟩⟩
theorem Bld.heap (h : Bld w lo g cp L A) (hh : w'.heap = w.heap) : Bld w' lo g cp L A := ⟨h.own.heap (by rw [hh]), fun i hi => by
  obtain ⟨⟨h1, h2, h3, h4⟩, h5⟩ := h.rows i hi
  exact ⟨⟨h1, by rw [hh]; exact h2, h3, h4⟩, h5.of_heap (by rw [hh])⟩⟩
/-- A list in a new block x is appended. -/
theorem Bld.push {w2 w3 : World} {x g' cp' : Nat} {r : List Int} (h : Bld w lo g cp L A) (hb : Below w.heap.size w w2) (hx1 : w.heap.size ≤ x) (hx : Row w2 x r.length (ic r)) (hlo : lo ≤ w.heap.size)
    (ho : Own1 w3 lo 28 g' (L.length + 1) cp' (hdv A L ++ [.slice (some ⟨x, 0, none⟩) r.length r.length])) (ob : OnlyB g w2 w3) (hg : g' = g ∨ g' = w2.heap.size) :
    Bld w3 lo g' cp' (L ++ [r]) (fun i => if i = L.length then x else A i) := by
  have hgl := h.own.lt
  have hxl := hx.lt
  have hs := hb.size
  refine ⟨by rw [hdv_app, List.length_append]; exact ho, fun i hi => ?_⟩
  rw [List.length_append, List.length_singleton] at hi
  by_cases e : i = L.length
  · subst e
    simp only [if_true]
    refine ⟨⟨by omega, Nat.lt_of_lt_of_le hxl ob.size, ?_, fun j hj => ?_⟩, ?_⟩
    · rcases hg with hg | hg <;> omega
    · rw [if_neg (by omega)]
      have := (h.rows j hj).1
      omega
    · unfold lenN
      rw [rowN_last]
      exact ob.row hx (by omega)
  · obtain ⟨⟨h1, h2, h3, h4⟩, h5⟩ := h.rows i (by omega)
    simp only [if_neg e]
    refine ⟨⟨h1, Nat.lt_of_lt_of_le h2 (Nat.le_trans hs ob.size), ?_, fun j hj => ?_⟩, ?_⟩
    · rcases hg with hg | hg <;> omega
    · rw [if_neg (by omega)]
      exact h4 j hj
    · unfold lenN
      rw [rowN_app (by omega)]
      exact ob.row (h5.below hb h5.lt) h3
theorem Bld.ost (h : Bld w lo g cp L A) : OSt w lo w.heap.size g L.length L := by
  refine ⟨h.own.lt, A, ?_, fun i hi => h.rows i hi⟩
  exact h.own.row.congr fun i hi => by unfold hdv; simp [List.getD, hi]
end
/-- A list of lists of the call's own, as the walks hand it back. -/
def GetR (L : Rows) (w : World) (e : Ending) (w' : World) : Prop := ∃ a c, e = .returned (.slice a L.length c) ∧ (L = [] ∨ ∃ g, a = some ⟨g, 0, none⟩ ∧ OSt w' w.heap.size w'.heap.size g L.length L) ∧ Below w.heap.size w w'
theorem GetR.nil {L : Rows} {w w' : World} (h : L = []) (hb : Below w.heap.size w w') (a : Option Addr) (c : Nat) : GetR L w (.returned (.slice a 0 c)) w' := by
  subst h; exact ⟨a, c, rfl, .inl rfl, hb⟩
theorem OSt.mono {w : World} {lo lo' hi g n : Nat} {L : Rows} (h : OSt w lo hi g n L) (hl : lo' ≤ lo) : OSt w lo' hi g n L := by
  obtain ⟨⟨h1, h2⟩, A, h3, h4⟩ := h
  exact ⟨⟨by omega, h2⟩, A, h3, fun i hi => by obtain ⟨⟨a, b, c, d⟩, e⟩ := h4 i hi; exact ⟨⟨by omega, b, c, d⟩, e⟩⟩
end Go.Proofs.Yteojoifhmaoiaaa
