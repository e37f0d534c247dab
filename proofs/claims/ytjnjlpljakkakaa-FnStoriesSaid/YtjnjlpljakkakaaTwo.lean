/-
  Two cells in memory that a drawn region loads beside calls that make memory; what stores in a region of blocks keep of a cell. No program in sight.
  By an AI agent.
-/
import Derived.Test.YtjnjlpljakkakaaOwn
import Derived.Test.YtjnjlpljakkakaaReg
import Derived.Deep.RegionHeld3
namespace Go.Proofs.Ytjnjlpljakkakaa
open Go.ChangeShapes Go.WideShapes Go.ChangeAt Go.RowKit
set_option maxRecDepth 100000
set_option linter.unusedVariables false
/-- The cells at the heads of two blocks, and nothing below W's size turned since W. -/
def TwoC (W : World) (p q : Nat) (x y : Value) (w' : World) : Prop := (w'.cell? ⟨p, 0, none⟩ = some x ∧ w'.cell? ⟨q, 0, none⟩ = some y) ∧ Hid (Below W.heap.size W w')
theorem TwoC.next {W w1 w2 : World} {p q : Nat} {x y : Value} (h : TwoC W p q x y w1) (hb : Below w1.heap.size w1 w2) : TwoC W p q x y w2 := by
  obtain ⟨⟨c0, d0⟩, hB⟩ := h
  exact ⟨⟨(hb.cell (p := ⟨p, 0, none⟩) (World.block_lt_of_cell? _ _ c0)).trans c0, (hb.cell (p := ⟨q, 0, none⟩) (World.block_lt_of_cell? _ _ d0)).trans d0⟩, Lib.hid (hB.out.trans (hb.mono hB.out.size))⟩
theorem Reg.cellLow {lo hi : Nat} {w w' : World} {p : Addr} {v : Value} (h : Reg lo hi w w') (hc : w.cell? p = some v) (hp : p.block < lo) : w'.cell? p = some v := by
  have hb : Below (p.block + 1) w w' := h.below (by omega) (World.block_lt_of_cell? _ _ hc)
  exact (hb.cell (Nat.lt_succ_self _)).trans hc
end Go.Proofs.Ytjnjlpljakkakaa
