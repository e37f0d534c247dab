/-
  What the walk of the law of papers holds.
  By an AI agent.
-/
import Derived.Test.YtoflcjgimkbgpaaPaperL
import Derived.Test.YtoflcjgimkbgpaaDrawP
import Derived.Test.YtoflcjgimkbgpaaSheetM
import Derived.Test.YtoflcjgimkbgpaaTile
namespace Go.Proofs.Ytoflcjgimkbgpaa
open Go.ChangeShapes Go.WideShapes Go.ChangeAt Go.RowKit
set_option maxRecDepth 100000
set_option linter.unusedVariables false

structure PpS (w : World) (g gU n : Nat) (ps us : List DPaper) (wx : World) : Prop where
  s : Row wx g (n * 3) (pc ps)
  u : Row wx gU (n * 3) (pc us)
  b : Below w.heap.size w wx
theorem PpS.below {w wx wy : World} {g gU n : Nat} {ps us : List DPaper} (h : PpS w g gU n ps us wx) (hb : Below wx.heap.size wx wy) : PpS w g gU n ps us wy := ⟨h.s.below hb h.s.lt, h.u.below hb h.u.lt, h.b.trans (hb.mono h.b.size)⟩
theorem row_pap {w : World} {g n k : Nat} {ps : List DPaper} (h : Row w g (n * 3) (pc ps)) (hk : k < n) :
    w.cell? ⟨g, k * 3, none⟩ = some (.int .i64 (ps.getD k default).k) ∧ w.cell? ⟨g, k * 3 + 1, none⟩ = some (.int .i64 (ps.getD k default).g) ∧ w.cell? ⟨g, k * 3 + 2, none⟩ = some (.int .i64 (ps.getD k default).s) := by
  refine ⟨?_, ?_, ?_⟩
  · rw [h.cell (i := k * 3) (by omega), pc0]
  · rw [h.cell (i := k * 3 + 1) (by omega), pc1]
  · rw [h.cell (i := k * 3 + 2) (by omega), pc2]
/-- What the first loop's drawn region holds: a paper before and behind use. -/
def PP6 (w : World) (g gU n k : Nat) (ps us : List DPaper) (x0 x1 x2 y0 y1 y2 : Int) (wx : World) : Prop :=
  (wx.cell? ⟨g, k * 3, none⟩ = some (.int .i64 x0) ∧ wx.cell? ⟨g, k * 3 + 1, none⟩ = some (.int .i64 x1) ∧ wx.cell? ⟨g, k * 3 + 2, none⟩ = some (.int .i64 x2) ∧ wx.cell? ⟨gU, k * 3, none⟩ = some (.int .i64 y0) ∧ wx.cell? ⟨gU, k * 3 + 1, none⟩ = some (.int .i64 y1) ∧ wx.cell? ⟨gU, k * 3 + 2, none⟩ = some (.int .i64 y2)) ∧ Hid (PpS w g gU n ps us wx)
theorem PP6.of {w wx : World} {g gU n k : Nat} {ps us : List DPaper} {x0 x1 x2 y0 y1 y2 : Int} (hk : k < n) (hx : ps.getD k default = ⟨x0, x1, x2⟩) (hy : us.getD k default = ⟨y0, y1, y2⟩) (h : PpS w g gU n ps us wx) : PP6 w g gU n k ps us x0 x1 x2 y0 y1 y2 wx := by
  obtain ⟨a, b, c⟩ := row_pap h.s hk
  obtain ⟨a', b', c'⟩ := row_pap h.u hk
  rw [hx] at a b c
  rw [hy] at a' b' c'
  exact ⟨⟨a, b, c, a', b', c'⟩, Lib.hid h⟩
theorem PP6.next {w wx wy : World} {g gU n k : Nat} {ps us : List DPaper} {x0 x1 x2 y0 y1 y2 : Int} (hk : k < n) (hx : ps.getD k default = ⟨x0, x1, x2⟩) (hy : us.getD k default = ⟨y0, y1, y2⟩) (h : PP6 w g gU n k ps us x0 x1 x2 y0 y1 y2 wx) (hb : Below wx.heap.size wx wy) : PP6 w g gU n k ps us x0 x1 x2 y0 y1 y2 wy := .of hk hx hy (h.2.out.below hb)
/-- What the last drawn region holds: a card and a paper in boxes. -/
def PQ6 (w : World) (g gU n : Nat) (ps us : List DPaper) (P Q d f m cS : Nat) (aS : Option Addr) (ss : List ByteArray) (G : Int) (wx : World) : Prop :=
  (wx.cell? ⟨P, 0, none⟩ = some (.int .i64 d) ∧ wx.cell? ⟨P, 1, none⟩ = some (.int .i64 f) ∧ wx.cell? ⟨P, 2, none⟩ = some (.slice aS m cS) ∧ wx.cell? ⟨Q, 0, none⟩ = some (.int .i64 1) ∧ wx.cell? ⟨Q, 1, none⟩ = some (.int .i64 G) ∧ wx.cell? ⟨Q, 2, none⟩ = some (.int .i64 3)) ∧ Hid (PpS w g gU n ps us wx ∧ Row wx P 3 (tri (.int .i64 d) (.int .i64 f) (.slice aS m cS)) ∧ DCd w.heap.size d f m aS ss wx ∧ Row wx Q 3 (tri (.int .i64 1) (.int .i64 G) (.int .i64 3)))
theorem PQ6.of {w wx : World} {g gU n : Nat} {ps us : List DPaper} {P Q d f m cS : Nat} {aS : Option Addr} {ss : List ByteArray} {G : Int} (h : PpS w g gU n ps us wx) (hp : Row wx P 3 (tri (.int .i64 d) (.int .i64 f) (.slice aS m cS))) (hc : DCd w.heap.size d f m aS ss wx) (hq : Row wx Q 3 (tri (.int .i64 1) (.int .i64 G) (.int .i64 3))) : PQ6 w g gU n ps us P Q d f m cS aS ss G wx :=
  ⟨⟨hp.cell (i := 0) (by omega), hp.cell (i := 1) (by omega), hp.cell (i := 2) (by omega), hq.cell (i := 0) (by omega), hq.cell (i := 1) (by omega), hq.cell (i := 2) (by omega)⟩, Lib.hid ⟨h, hp, hc, hq⟩⟩
theorem PQ6.next {w wx wy : World} {g gU n : Nat} {ps us : List DPaper} {P Q d f m cS : Nat} {aS : Option Addr} {ss : List ByteArray} {G : Int} (h : PQ6 w g gU n ps us P Q d f m cS aS ss G wx) (hb : Below wx.heap.size wx wy) : PQ6 w g gU n ps us P Q d f m cS aS ss G wy := by
  obtain ⟨h1, h2, h3, h4⟩ := h.2.out
  exact .of (h1.below hb) (h2.below hb h2.lt) (h3.below hb) (h4.below hb h4.lt)
end Go.Proofs.Ytoflcjgimkbgpaa
