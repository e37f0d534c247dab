/-
  Rows of memory that a call made itself: a block known whole, its cells as a function of their number. Plain facts on worlds; no program in sight.
  By an AI agent.
-/
import Derived.Test.YtjkcmjnejbobeaaBase
import Derived.OwnWalk
import Derived.Lib.Hide
import Derived.Deep.QuietTactic
import Derived.BigQuiet
import Derived.Outline
namespace Go.Proofs.Ytjkcmjnejbobeaa
open Go.ChangeShapes Go.WideShapes Go.ChangeAt Go.RowKit
set_option maxRecDepth 100000

/-- Block g holds at least N cells, none of them frozen; cell i holds 'c i' (i < N). -/
def Row (w : World) (g N : Nat) (c : Nat → Value) : Prop := ∃ (cs : Array Value) (e : TypeId), w.heap[g]? = some (.cells cs e (0, 0)) ∧ N ≤ cs.size ∧ ∀ i, i < N → cs[i]? = some (c i)

theorem getD_at {α : Type} (l : List α) (d : α) {k : Nat} (h : k < l.length) : l.getD k d = l[k] := by simp [List.getD, h]
theorem add_at (b off n : Nat) : (⟨b, off, none⟩ : Addr).add n = ⟨b, off + n, none⟩ := by
  by_cases h : n = 0
  · subst h; simp [Addr.add]
  · simp [Addr.add, h]

theorem made_at (z : Array Value) (n i : Nat) (hi : i < n) : (madeCells z n).toList.getD i undef = z[i % z.size]! := by
  simp [madeCells, hi]

section
variable {w w' : World} {g N B : Nat} {c : Nat → Value}
theorem Row.lt (h : Row w g N c) : g < w.heap.size := by
  obtain ⟨cs, e, hh, _, _⟩ := h
  rcases Nat.lt_or_ge g w.heap.size with h' | h'
  · exact h'
  · simp [Array.getElem?_eq_none h'] at hh
theorem Row.cell (h : Row w g N c) {i : Nat} (hi : i < N) : w.cell? ⟨g, i, none⟩ = some (c i) := by
  obtain ⟨cs, e, hh, hs, hc⟩ := h
  simp [World.cell?, hh, hc i hi]
theorem Row.frozen (h : Row w g N c) (i : Nat) : w.frozen? ⟨g, i, none⟩ = false := by
  obtain ⟨cs, e, hh, hs, hc⟩ := h
  simp [World.frozen?, hh]
theorem Row.below (h : Row w g N c) (hb : Below B w w') (hg : g < B) : Row w' g N c := by
  obtain ⟨cs, e, hh, hs, hc⟩ := h
  exact ⟨cs, e, by rw [hb.block g hg]; exact hh, hs, hc⟩
theorem Row.congr (h : Row w g N c) {d : Nat → Value} (hd : ∀ i, i < N → c i = d i) : Row w g N d := by
  obtain ⟨cs, e, hh, hs, hc⟩ := h
  exact ⟨cs, e, hh, hs, fun i hi => by rw [hc i hi, hd i hi]⟩
theorem Row.of_heap (h : Row w g N c) (hh : w'.heap[g]? = w.heap[g]?) : Row w' g N c := by
  obtain ⟨cs, e, h1, hs, hc⟩ := h
  exact ⟨cs, e, by rw [hh]; exact h1, hs, hc⟩
theorem Row.drew (h : Row w g N c) : Row w.drew g N c := h.of_heap rfl
theorem Row.alloc (h : Row w g N c) (o : Obj) : Row (w.alloc o) g N c := h.of_heap (Below.heap_alloc w o g h.lt)
theorem Row.set_other (h : Row w g N c) {p : Addr} (hp : g ≠ p.block) (v : Value) : Row (w.setCell p v) g N c := h.of_heap (Below.heap_setCell w p v g hp)
theorem Row.set (h : Row w g N c) (i : Nat) (v : Value) : Row (w.setCell ⟨g, i, none⟩ v) g N (fun j => if j = i then v else c j) := by
  have hlt := h.lt
  obtain ⟨cs, e, hh, hs, hc⟩ := h
  refine ⟨cs.setIfInBounds i v, e, ?_, by simpa using hs, fun j hj => ?_⟩
  · have h' : w.heap[g] = .cells cs e (0, 0) := by simpa [Array.getElem?_eq_getElem hlt] using hh
    show (w.heap.modify g _)[g]? = _
    rw [Array.getElem?_eq_getElem (by simpa using hlt), Array.getElem_modify_self, h']
    rfl
  · show _ = some (if j = i then v else c j)
    rw [Array.getElem?_setIfInBounds]
    by_cases hij : i = j
    · subst hij; simp; omega
    · rw [if_neg hij, if_neg (fun h => hij h.symm)]; exact hc j hj
theorem Row.of_new (w : World) (cs : Array Value) (e : TypeId) : Row (w.alloc (.cells cs e (0, 0))) w.heap.size cs.size (fun i => cs.getD i undef) :=
  ⟨cs, e, (MapKept.heap_alloc w _).1, Nat.le_refl _, fun i hi => by simp [hi]⟩
theorem Row.of_owns {base n cap size : Nat} {e : TypeId} {xs : List Value} (h : w.ownsRow base e size (.slice (some ⟨g, 0, none⟩) n cap) n xs) : Row w g (n * size) (fun i => xs.getD i undef) := by
  obtain ⟨hl, h⟩ := h
  rcases h with ⟨h, _⟩ | ⟨g', cap, cur, hv, hb, hh, h1, h2, h3, h4⟩
  · simp at h
  · simp only [Value.slice.injEq, Option.some.injEq, Addr.mk.injEq] at hv
    obtain ⟨⟨rfl, _, _⟩, _, rfl⟩ := hv
    have hsz : n * size ≤ cur.size := by rw [h3]; exact Nat.mul_le_mul_right _ h1
    refine ⟨cur, e, hh, hsz, fun i hi => ?_⟩
    subst h4
    have hi' : i < cur.size := by omega
    simp [hi', List.getD, hi]
theorem Row.mono (h : Row w g N c) {M : Nat} (hM : M ≤ N) : Row w g M c := by
  obtain ⟨cs, e, hh, hs, hc⟩ := h
  exact ⟨cs, e, hh, by omega, fun i hi => hc i (by omega)⟩
theorem owns_row {base n size : Nat} {e : TypeId} {v : Value} {xs : List Value} (h : w.ownsRow base e size v n xs) (hv : v ≠ .slice none 0 0) :
    ∃ g cap, v = .slice (some ⟨g, 0, none⟩) n cap ∧ base ≤ g ∧ xs.length = n * size ∧ Row w g (n * size) (fun i => xs.getD i undef) := by
  have h' := h
  obtain ⟨hl, h⟩ := h
  rcases h with ⟨h, _⟩ | ⟨g', cap, cur, rfl, hb, hh, h1, h2, h3, h4⟩
  · exact absurd h hv
  · exact ⟨g', cap, rfl, hb, hl, Row.of_owns h'⟩
/-- The first N cells as a list. -/
def rowL (c : Nat → Value) (N : Nat) : List Value := (List.range N).map c
theorem rowL_length (c : Nat → Value) (N : Nat) : (rowL c N).length = N := by simp [rowL]
theorem rowL_getD (c : Nat → Value) (N i : Nat) (h : i < N) : (rowL c N).getD i undef = c i := by simp [rowL, List.getD, h]
theorem rowL_news (h : Row w g N c) : ∀ j u, (rowL c N)[j]? = some u → w.cell? ((⟨g, 0, none⟩ : Addr).add j) = some u := by
  intro j u hj
  have hlt : j < N := by
    have := (List.getElem?_eq_some_iff.1 hj).1
    simpa [rowL] using this
  rw [add_at, Nat.zero_add, h.cell hlt]
  have := rowL_getD c N j hlt
  rw [List.getD, hj] at this
  simp at this
  rw [this]
theorem rowL_one (h : ∀ i, i < N → (c i).oneCell' = true) : ∀ u ∈ rowL c N, u.oneCell' = true := by
  intro u hu
  simp only [rowL, List.mem_map, List.mem_range] at hu
  obtain ⟨i, hi, rfl⟩ := hu
  exact h i hi
theorem owns_empty (w : World) (e : TypeId) (size : Nat) : (w.alloc (.cells #[] e (0, 0))).ownsRow w.heap.size e size (.slice (some ⟨w.heap.size, 0, none⟩) 0 0) 0 [] :=
  ⟨by simp, .inr ⟨w.heap.size, 0, #[], rfl, Nat.le_refl _, (MapKept.heap_alloc w _).1, Nat.le_refl _, Nat.zero_le _, by simp, by simp⟩⟩
end

/-- w' is w but for block g. -/
structure Only (g : Nat) (w w' : World) : Prop where
  os : w'.os = w.os
  tape : w'.tape = w.tape
  output : w'.output = w.output
  size : w'.heap.size = w.heap.size
  block : ∀ k, k ≠ g → w'.heap[k]? = w.heap[k]?
theorem Only.refl (g : Nat) (w : World) : Only g w w := ⟨rfl, rfl, rfl, rfl, fun _ _ => rfl⟩
theorem Only.trans {g : Nat} {a b c : World} (h : Only g a b) (k : Only g b c) : Only g a c := ⟨k.os.trans h.os, k.tape.trans h.tape, k.output.trans h.output, k.size.trans h.size, fun i hi => (k.block i hi).trans (h.block i hi)⟩
theorem Only.set {g : Nat} {a b : World} (h : Only g a b) (i : Nat) (v : Value) : Only g a (b.setCell ⟨g, i, none⟩ v) :=
  h.trans ⟨rfl, rfl, rfl, by simp, fun k hk => Below.heap_setCell b ⟨g, i, none⟩ v k hk⟩
theorem Only.below {g B : Nat} {w w' : World} (h : Only g w w') (hB : B ≤ g) : Below B w w' := ⟨h.os, h.tape, h.output, Nat.le_of_eq h.size.symm, fun k hk => h.block k (by omega)⟩
theorem Only.row {g f N : Nat} {c : Nat → Value} {w w' : World} (h : Only g w w') (hr : Row w f N c) (hf : f ≠ g) : Row w' f N c := hr.of_heap (h.block f hf)
theorem IsRow.cells {k : IntKind} {w : World} {a : Option Addr} {len cap : Nat} {zs : List Int} (h : IsRow k w a len cap zs) : len ≤ maxLen ∧ (0 < len → ∃ b off, a = some ⟨b, off, none⟩ ∧ ∀ i, i < len → w.cell? ⟨b, off + i, none⟩ = some (.int k (zs.getD i 0))) := by
  rcases h with ⟨_, h, _, _⟩ | ⟨x, ha, hl, hm, hz, hc, _⟩
  · exact ⟨by omega, fun h0 => by omega⟩
  · refine ⟨Nat.le_trans hl hm, fun h0 => ?_⟩
    obtain ⟨b, off, sp⟩ := x
    have hsp : sp = none := by
      have := hc 0 (by omega)
      by_cases hs : sp.isSome
      · exfalso
        simp only [World.cell?, Addr.add] at this
        split at this
        · simp [hs] at this
        · simp at this
      · simpa using hs
    subst hsp
    exact ⟨b, off, ha, fun i hi => by have := hc i (by omega); rwa [add_at] at this⟩
theorem quiet_eq {P : Program} {f : FuncId} {args : Array Value} {w : World} {n : Nat} {v : Value}
    (h : Calls P f args (w.drewN n) fun e w' => e = .returned v ∧ w.drewN n = w') : Calls P f args (w.drewN n) fun e w'' => e = .returned v ∧ ∃ m, w'' = w.drewN m :=
  h.mono fun _ _ ⟨he, hm⟩ => ⟨he, n, hm.symm⟩
end Go.Proofs.Ytjkcmjnejbobeaa
