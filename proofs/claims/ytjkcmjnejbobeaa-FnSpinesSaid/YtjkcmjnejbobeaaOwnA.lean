/-
  Slices of the call's own that may be nil still: append of one cell.
  By an AI agent.
-/
import Derived.Test.YtjkcmjnejbobeaaOwn
import Derived.Test.YtjkcmjnejbobeaaCurN
namespace Go.Proofs.Ytjkcmjnejbobeaa
open Go.ChangeShapes Go.WideShapes Go.ChangeAt Go.RowKit
set_option maxRecDepth 100000
set_option linter.unusedVariables false

/-- A slice of the call's own, from block B on, that may be nil: n elements of one cell each, 'xs'. -/
def OwnA (w : World) (B : Nat) (e : TypeId) (a : Option Addr) (n c : Nat) (xs : List Value) : Prop := w.ownsRow B e 1 (.slice a n c) n xs
theorem OwnA.nil (w : World) (B : Nat) (e : TypeId) : OwnA w B e none 0 0 [] := World.ownsRow_nil _ _ _ _
section
variable {w w' : World} {B n c : Nat} {e : TypeId} {a : Option Addr} {xs : List Value}
theorem OwnA.len (h : OwnA w B e a n c xs) : xs.length = n := by have := h.1; omega
theorem OwnA.cases (h : OwnA w B e a n c xs) : n = 0 ∨ ∃ g, a = some ⟨g, 0, none⟩ ∧ Own1 w B e g n c xs := by
  rcases h.2 with hn | ⟨f, cap, cur, hv, rest⟩
  · simp only [Value.slice.injEq] at hn
    exact .inl hn.1.2.1
  · simp only [Value.slice.injEq] at hv
    obtain ⟨rfl, _, rfl⟩ := hv
    exact .inr ⟨f, rfl, h⟩
theorem OwnA.keep {b : Nat} (h : OwnA w B e a n c xs) (ho : OnlyB b w w') (hb : b < B) : OwnA w' B e a n c xs := by
  refine ⟨h.1, ?_⟩
  rcases h.2 with hn | ⟨f, cap, cur, hv, hB, hgg, rest⟩
  · exact .inl hn
  · refine .inr ⟨f, cap, cur, hv, hB, (ho.block f ?_ (by omega)).trans hgg, rest⟩
    exact (Array.getElem?_eq_some_iff.1 hgg).1
theorem OwnA.below (h : OwnA w B e a n c xs) (ho : Below w.heap.size w w') : OwnA w' B e a n c xs := by
  refine ⟨h.1, ?_⟩
  rcases h.2 with hn | ⟨f, cap, cur, hv, hB, hgg, rest⟩
  · exact .inl hn
  · exact .inr ⟨f, cap, cur, hv, hB, (ho.block f (Array.getElem?_eq_some_iff.1 hgg).1).trans hgg, rest⟩
theorem OwnA.set_other (h : OwnA w B e a n c xs) {p : Addr} (hp : p.block < B) (u : Value) : OwnA (w.setCell p u) B e a n c xs := by
  refine ⟨h.1, ?_⟩
  rcases h.2 with hn | ⟨f, cap, cur, hv, hB, hgg, rest⟩
  · exact .inl hn
  · exact .inr ⟨f, cap, cur, hv, hB, (Below.heap_setCell w p u f (by omega)).trans hgg, rest⟩
theorem OwnA.row (h : OwnA w B e a n c xs) : SlR w a n (fun i => xs.getD i undef) := by
  rcases h.cases with h0 | ⟨g, rfl, h1⟩
  · exact .inl h0
  · exact .of_row h1.row
theorem OwnA.fresh (h : OwnA w B e a n c xs) (B' : Nat) (hB : B' ≤ B) : Fresh B' a n := by
  rcases h.cases with h0 | ⟨g, rfl, h1⟩
  · exact .inl h0
  · exact .of (Nat.le_trans hB h1.lt.1)
end
theorem below_grown {w w' : World} {B n c : Nat} {e : TypeId} {a : Option Addr} {xs : List Value} (h : OwnA w B e a n c xs) (hb : B ≤ w.heap.size) (hg : w.grownBy w' (Value.slice a n c).ownBlock) : Below B w w' := by
  refine ⟨hg.os, hg.tape, hg.output, hg.size, fun i hi => hg.block i (by omega) (fun e => ?_)⟩
  rcases h.2 with hn | ⟨f, cap, cur, hv, hB, hgg, rest⟩
  · rw [hn.1] at e; simp [Value.ownBlock] at e
  · rw [hv] at e; simp [Value.ownBlock] at e; omega
/-- 'append(xs, u)' at a slice of the call's own that may be nil, in a region that draws its order: u's cell lies in block b. -/
theorem step_append_a {P : Program} {ops : Array Oper} {o : Oper} {a : Act} {K : Act → World → Prop} {Q : Exit → Act → World → Prop} {E : Prop} {w : World} (hgd : o.guard = none) (s x : Operand) (t : TypeId)
    (ho : o.op = .call { callee := .builtin .append, args := #[s, x], argTypes := #[t, t] })
    {B : Nat} {e : TypeId} {z : Value} {bytes : Nat} (ht : P.underlying t = some (.slice e)) (hi : (P.info? e).map (fun i => (i.zero, i.size, i.bytes)) = some (some z, 1, bytes)) (hzs : z.cells.size = 1) (hby : bytes ≤ 64)
    {aS : Option Addr} {n c : Nat} {xs : List Value} (hs : a.eval s = .slice aS n c) (hown : OwnA w B e aS n c xs) (hB : B ≤ w.heap.size) (hn : n ≤ 1048576)
    {b : Nat} {u : Value} (hx : a.eval x = .slice (some ⟨b, 0, none⟩) 1 1) (hc : w.cell? ⟨b, 0, none⟩ = some u) (h1 : u.oneCell' = true)
    (h : ∀ g' c' w', Own1 w' B e g' (n + 1) c' (xs ++ [u]) → Below B w w' → K (a.put o.dst (.slice (some ⟨g', 0, none⟩) (n + 1) c')) w') :
    if Region.wanted o (yielded ops a.tmps) = true then Oper.wp P o a w K Q else E := by
  obtain ⟨i, hi0, hz0, hz1, hz2⟩ := info_parts hi
  refine step_append_lies w hgd s x t ho B e i z 1 bytes ht hi0 hz0 hz1 hz2 hzs (by omega) _ n xs hs hown ⟨b, 0, none⟩ 1 1 [u] hx rfl ?_ ?_ (by omega) (by unfold maxLen; omega) (Nat.le_trans (Nat.mul_le_mul_left (n + 1) hby) (by omega)) hB w.heap.size rfl ?_
  · intro j v hj
    have hj0 : j = 0 := by
      have := (List.getElem?_eq_some_iff.1 hj).1
      simp at this; exact this
    subst hj0
    simp at hj
    subst hj
    rw [add_at]
    exact hc
  · intro v hv
    have := List.mem_singleton.1 hv
    subst this
    exact h1
  · intro g' c' w' o1 g1 l1 _
    exact h g' c' w' o1 (below_grown hown hB g1)
/-- The same behind a known order. -/
theorem append_a {P : Program} {ops : Array Oper} {rest : List Oper} {o : Oper} {a : Act} {Q : Exit → Act → World → Prop} {w : World} (hgd : o.guard = none) (s x : Operand) (t : TypeId)
    (ho : o.op = .call { callee := .builtin .append, args := #[s, x], argTypes := #[t, t] })
    {B : Nat} {e : TypeId} {z : Value} {bytes : Nat} (ht : P.underlying t = some (.slice e)) (hi : (P.info? e).map (fun i => (i.zero, i.size, i.bytes)) = some (some z, 1, bytes)) (hzs : z.cells.size = 1) (hby : bytes ≤ 64)
    {aS : Option Addr} {n c : Nat} {xs : List Value} (hs : a.eval s = .slice aS n c) (hown : OwnA w B e aS n c xs) (hB : B ≤ w.heap.size) (hn : n ≤ 1048576)
    {b : Nat} {u : Value} (hx : a.eval x = .slice (some ⟨b, 0, none⟩) 1 1) (hc : w.cell? ⟨b, 0, none⟩ = some u) (h1 : u.oneCell' = true)
    (h : ∀ g' c' w', Own1 w' B e g' (n + 1) c' (xs ++ [u]) → Below B w w' → wpList P ops Q rest (a.put o.dst (.slice (some ⟨g', 0, none⟩) (n + 1) c')) w') : wpList P ops Q (o :: rest) a w := by
  obtain ⟨i, hi0, hz0, hz1, hz2⟩ := info_parts hi
  refine wpList_append_lies w hgd s x t ho B e i z 1 bytes ht hi0 hz0 hz1 hz2 hzs (by omega) _ n xs hs hown ⟨b, 0, none⟩ 1 1 [u] hx rfl ?_ ?_ (by omega) (by unfold maxLen; omega) (Nat.le_trans (Nat.mul_le_mul_left (n + 1) hby) (by omega)) hB w.heap.size rfl ?_
  · intro j v hj
    have hj0 : j = 0 := by
      have := (List.getElem?_eq_some_iff.1 hj).1
      simp at this; exact this
    subst hj0
    simp at hj
    subst hj
    rw [add_at]
    exact hc
  · intro v hv
    have := List.mem_singleton.1 hv
    subst this
    exact h1
  · intro g' c' w' o1 g1 l1 _
    exact h g' c' w' o1 (below_grown hown hB g1)
/-- A cursor's readiness at a later world. -/
theorem Dr.keep {w w' : World} {b l c : Nat} {a : Option Addr} (h : Dr w b a l c) (ho : OnlyB b w w') (hc : Cur w' b a l c) : Dr w' b a l c := ⟨h.room, h.bytes.only ho h.ne, h.ne, hc⟩
theorem Cur.belowB {w w' : World} {B b l c : Nat} {a : Option Addr} (h : Cur w b a l c) (hb : Below B w w') (hB : b < B) : Cur w' b a l c := by
  obtain ⟨i, x, hi, hr⟩ := h
  exact ⟨i, x, hi, hr.of_heap (hb.block b hB)⟩
theorem OnlyB.belowB {w w' w2 : World} {B b : Nat} (h : OnlyB b w w') (hb : Below B w' w2) (hB : w.heap.size ≤ B) : OnlyB b w w2 :=
  ⟨hb.os.trans h.os, hb.tape.trans h.tape, hb.output.trans h.output, Nat.le_trans h.size hb.size, fun k hk hn => (hb.block k (by omega)).trans (h.block k hk hn)⟩
theorem OnlyB.setNew {w w' : World} {b : Nat} {p : Addr} (h : OnlyB b w w') (hp : w.heap.size ≤ p.block) (v : Value) : OnlyB b w (w'.setCell p v) :=
  ⟨h.os, h.tape, h.output, by rw [show (w'.setCell p v).heap.size = w'.heap.size by simp]; exact h.size, fun k hk hn => (Below.heap_setCell w' p v k (by omega)).trans (h.block k hk hn)⟩
theorem Cur.set_other {w : World} {b l c : Nat} {a : Option Addr} (h : Cur w b a l c) {p : Addr} (hp : b ≠ p.block) (v : Value) : Cur (w.setCell p v) b a l c := by
  obtain ⟨i, x, hi, hr⟩ := h
  exact ⟨i, x, hi, hr.set_other hp v⟩
theorem tri_set (x y z v : Value) {j : Nat} (hj : j < 3) : (if j = 2 then v else tri x y z j) = tri x y v j := by
  have : j = 0 ∨ j = 1 ∨ j = 2 := by omega
  rcases this with rfl | rfl | rfl <;> rfl
theorem tri_set1 (x y z v : Value) {j : Nat} (hj : j < 3) : (if j = 1 then v else tri x y z j) = tri x v z j := by
  have : j = 0 ∨ j = 1 ∨ j = 2 := by omega
  rcases this with rfl | rfl | rfl <;> rfl
/-- What a world holds while a struct is drawn at block o, beside an empty result at block r: w is the world at the start. -/
structure Box3 (w : World) (b : Nat) (a : Option Addr) (l c r o : Nat) (t : Nat → Value) (N f v : Value) (wx : World) : Prop where
  dr : Dr w b a l c
  rlo : w.heap.size ≤ r
  ro : r < o
  only : OnlyB b w wx
  cur : Cur wx b a l c
  res : Row wx r 3 t
  box : Row wx o 3 (tri N f v)
section
variable {w wx wy : World} {b l c r o : Nat} {a : Option Addr} {t : Nat → Value} {N f v : Value}
theorem Box3.ready (h : Box3 w b a l c r o t N f v wx) : Dr wx b a l c := h.dr.keep h.only h.cur
theorem Box3.lt (h : Box3 w b a l c r o t N f v wx) : b < w.heap.size := h.dr.lt
theorem Box3.draw (h : Box3 w b a l c r o t N f v wx) (hO : OnlyB b wx wy) (hD : Dr wy b a l c) : Box3 w b a l c r o t N f v wy := by
  have h1 := h.lt
  have h2 := h.rlo
  have h3 := h.ro
  exact ⟨h.dr, h.rlo, h.ro, h.only.then hO, hD.cur, hO.row h.res (by omega), hO.row h.box (by omega)⟩
theorem Box3.belowB (h : Box3 w b a l c r o t N f v wx) (hb : Below (o + 1) wx wy) : Box3 w b a l c r o t N f v wy := by
  have h1 := h.lt
  have h2 := h.rlo
  have h3 := h.ro
  exact ⟨h.dr, h.rlo, h.ro, h.only.belowB hb (by omega), h.cur.belowB hb (by omega), h.res.of_heap (hb.block r (by omega)), h.box.of_heap (hb.block o (by omega))⟩
theorem Box3.below (h : Box3 w b a l c r o t N f v wx) (hb : Below wx.heap.size wx wy) : Box3 w b a l c r o t N f v wy :=
  h.belowB (hb.mono (by have := h.box.lt; omega))
theorem Box3.put (h : Box3 w b a l c r o t N f v wx) (u : Value) : Box3 w b a l c r o t N f u (wx.setCell ⟨o, 2, none⟩ u) := by
  have h1 := h.lt
  have h2 := h.rlo
  have h3 := h.ro
  exact ⟨h.dr, h.rlo, h.ro, h.only.setNew (p := ⟨o, 2, none⟩) (by show w.heap.size ≤ o; omega) u, h.cur.set_other (p := ⟨o, 2, none⟩) (by show b ≠ o; omega) u, h.res.set_other (p := ⟨o, 2, none⟩) (by show r ≠ o; omega) u, (h.box.set 2 u).congr fun j hj => tri_set _ _ _ _ hj⟩
theorem Box3.of_heap (h : Box3 w b a l c r o t N f v wx) (h1 : wy.os = wx.os) (h2 : wy.tape = wx.tape) (h3 : wy.output = wx.output) (h4 : wy.heap = wx.heap) : Box3 w b a l c r o t N f v wy :=
  h.belowB ⟨h1, h2, h3, by rw [h4]; exact Nat.le_refl _, fun i hi => by rw [h4]⟩
theorem Box3.drew (h : Box3 w b a l c r o t N f v wx) : Box3 w b a l c r o t N f v wx.drew := h.of_heap rfl rfl rfl rfl
theorem Box3.cells (h : Box3 w b a l c r o t N f v wx) : (wx.cell? ⟨o, 0, none⟩ = some N ∧ wx.cell? ⟨o, 1, none⟩ = some f ∧ wx.cell? ⟨o, 2, none⟩ = some v) ∧ wx.frozen? ⟨o, 2, none⟩ = false :=
  ⟨⟨h.box.cell (i := 0) (by omega), h.box.cell (i := 1) (by omega), h.box.cell (i := 2) (by omega)⟩, h.box.frozen 2⟩
theorem Box3.fin (h : Box3 w b a l c r o t N f v wx) (x y z : Value) : Dr (((wx.setCell ⟨r, 0, none⟩ x).setCell ⟨r, 1, none⟩ y).setCell ⟨r, 2, none⟩ z) b a l c ∧ OnlyB b w (((wx.setCell ⟨r, 0, none⟩ x).setCell ⟨r, 1, none⟩ y).setCell ⟨r, 2, none⟩ z) := by
  have h1 := h.lt
  have h2 := h.rlo
  have hb : b ≠ r := by omega
  have ho := ((h.only.setNew (p := ⟨r, 0, none⟩) h2 x).setNew (p := ⟨r, 1, none⟩) h2 y).setNew (p := ⟨r, 2, none⟩) h2 z
  exact ⟨h.dr.keep ho (((h.cur.set_other (p := ⟨r, 0, none⟩) hb x).set_other (p := ⟨r, 1, none⟩) hb y).set_other (p := ⟨r, 2, none⟩) hb z), ho⟩
end
theorem OwnA.of1 {w : World} {B g n c : Nat} {e : TypeId} {xs : List Value} (h : Own1 w B e g n c xs) : OwnA w B e (some ⟨g, 0, none⟩) n c xs := h
end Go.Proofs.Ytjkcmjnejbobeaa
