/-
  What a drawn region holds that loads structs of three cells beside what makes memory: their cells, and nothing below W's size turned since W. Written by a program of mine. Plain facts on worlds.
  By an AI agent.
-/
import Derived.Test.YtlplfpoggifadaaSl
namespace Go.Proofs.Ytlplfpoggifadaa
open Go.ChangeShapes Go.WideShapes Go.ChangeAt Go.RowKit
set_option maxRecDepth 100000

def SB1 (W : World) (p0 : Nat) (x0_0 x0_1 x0_2 : Value) (w' : World) : Prop :=
  (w'.cell? ⟨p0, 0, none⟩ = some x0_0 ∧ w'.cell? ⟨p0, 1, none⟩ = some x0_1 ∧ w'.cell? ⟨p0, 2, none⟩ = some x0_2) ∧ Hid (Below W.heap.size W w')
theorem SB1.mk {W w1 : World} {p0 : Nat} {x0_0 x0_1 x0_2 : Value} (r0 : SlR W (some ⟨p0, 0, none⟩) 3 (tri x0_0 x0_1 x0_2)) (h : Below W.heap.size W w1) : SB1 W p0 x0_0 x0_1 x0_2 w1 := by
  obtain ⟨u0_0, u0_1, u0_2⟩ := (r0.below h).tri
  exact ⟨⟨u0_0, u0_1, u0_2⟩, Lib.hid h⟩
theorem SB1.next {W w1 w2 : World} {p0 : Nat} {x0_0 x0_1 x0_2 : Value} (r0 : SlR W (some ⟨p0, 0, none⟩) 3 (tri x0_0 x0_1 x0_2)) (h : SB1 W p0 x0_0 x0_1 x0_2 w1) (hb : Below w1.heap.size w1 w2) : SB1 W p0 x0_0 x0_1 x0_2 w2 :=
  .mk r0 (h.2.out.trans (hb.mono h.2.out.size))
def SB2 (W : World) (p0 : Nat) (x0_0 x0_1 x0_2 : Value) (p1 : Nat) (x1_0 x1_1 x1_2 : Value) (w' : World) : Prop :=
  (w'.cell? ⟨p0, 0, none⟩ = some x0_0 ∧ w'.cell? ⟨p0, 1, none⟩ = some x0_1 ∧ w'.cell? ⟨p0, 2, none⟩ = some x0_2 ∧ w'.cell? ⟨p1, 0, none⟩ = some x1_0 ∧ w'.cell? ⟨p1, 1, none⟩ = some x1_1 ∧ w'.cell? ⟨p1, 2, none⟩ = some x1_2) ∧ Hid (Below W.heap.size W w')
theorem SB2.mk {W w1 : World} {p0 : Nat} {x0_0 x0_1 x0_2 : Value} {p1 : Nat} {x1_0 x1_1 x1_2 : Value} (r0 : SlR W (some ⟨p0, 0, none⟩) 3 (tri x0_0 x0_1 x0_2)) (r1 : SlR W (some ⟨p1, 0, none⟩) 3 (tri x1_0 x1_1 x1_2)) (h : Below W.heap.size W w1) : SB2 W p0 x0_0 x0_1 x0_2 p1 x1_0 x1_1 x1_2 w1 := by
  obtain ⟨u0_0, u0_1, u0_2⟩ := (r0.below h).tri
  obtain ⟨u1_0, u1_1, u1_2⟩ := (r1.below h).tri
  exact ⟨⟨u0_0, u0_1, u0_2, u1_0, u1_1, u1_2⟩, Lib.hid h⟩
theorem SB2.next {W w1 w2 : World} {p0 : Nat} {x0_0 x0_1 x0_2 : Value} {p1 : Nat} {x1_0 x1_1 x1_2 : Value} (r0 : SlR W (some ⟨p0, 0, none⟩) 3 (tri x0_0 x0_1 x0_2)) (r1 : SlR W (some ⟨p1, 0, none⟩) 3 (tri x1_0 x1_1 x1_2)) (h : SB2 W p0 x0_0 x0_1 x0_2 p1 x1_0 x1_1 x1_2 w1) (hb : Below w1.heap.size w1 w2) : SB2 W p0 x0_0 x0_1 x0_2 p1 x1_0 x1_1 x1_2 w2 :=
  .mk r0 r1 (h.2.out.trans (hb.mono h.2.out.size))
def SB3 (W : World) (p0 : Nat) (x0_0 x0_1 x0_2 : Value) (p1 : Nat) (x1_0 x1_1 x1_2 : Value) (p2 : Nat) (x2_0 x2_1 x2_2 : Value) (w' : World) : Prop :=
  (w'.cell? ⟨p0, 0, none⟩ = some x0_0 ∧ w'.cell? ⟨p0, 1, none⟩ = some x0_1 ∧ w'.cell? ⟨p0, 2, none⟩ = some x0_2 ∧ w'.cell? ⟨p1, 0, none⟩ = some x1_0 ∧ w'.cell? ⟨p1, 1, none⟩ = some x1_1 ∧ w'.cell? ⟨p1, 2, none⟩ = some x1_2 ∧ w'.cell? ⟨p2, 0, none⟩ = some x2_0 ∧ w'.cell? ⟨p2, 1, none⟩ = some x2_1 ∧ w'.cell? ⟨p2, 2, none⟩ = some x2_2) ∧ Hid (Below W.heap.size W w')
theorem SB3.mk {W w1 : World} {p0 : Nat} {x0_0 x0_1 x0_2 : Value} {p1 : Nat} {x1_0 x1_1 x1_2 : Value} {p2 : Nat} {x2_0 x2_1 x2_2 : Value} (r0 : SlR W (some ⟨p0, 0, none⟩) 3 (tri x0_0 x0_1 x0_2)) (r1 : SlR W (some ⟨p1, 0, none⟩) 3 (tri x1_0 x1_1 x1_2)) (r2 : SlR W (some ⟨p2, 0, none⟩) 3 (tri x2_0 x2_1 x2_2)) (h : Below W.heap.size W w1) : SB3 W p0 x0_0 x0_1 x0_2 p1 x1_0 x1_1 x1_2 p2 x2_0 x2_1 x2_2 w1 := by
  obtain ⟨u0_0, u0_1, u0_2⟩ := (r0.below h).tri
  obtain ⟨u1_0, u1_1, u1_2⟩ := (r1.below h).tri
  obtain ⟨u2_0, u2_1, u2_2⟩ := (r2.below h).tri
  exact ⟨⟨u0_0, u0_1, u0_2, u1_0, u1_1, u1_2, u2_0, u2_1, u2_2⟩, Lib.hid h⟩
theorem SB3.next {W w1 w2 : World} {p0 : Nat} {x0_0 x0_1 x0_2 : Value} {p1 : Nat} {x1_0 x1_1 x1_2 : Value} {p2 : Nat} {x2_0 x2_1 x2_2 : Value} (r0 : SlR W (some ⟨p0, 0, none⟩) 3 (tri x0_0 x0_1 x0_2)) (r1 : SlR W (some ⟨p1, 0, none⟩) 3 (tri x1_0 x1_1 x1_2)) (r2 : SlR W (some ⟨p2, 0, none⟩) 3 (tri x2_0 x2_1 x2_2)) (h : SB3 W p0 x0_0 x0_1 x0_2 p1 x1_0 x1_1 x1_2 p2 x2_0 x2_1 x2_2 w1) (hb : Below w1.heap.size w1 w2) : SB3 W p0 x0_0 x0_1 x0_2 p1 x1_0 x1_1 x1_2 p2 x2_0 x2_1 x2_2 w2 :=
  .mk r0 r1 r2 (h.2.out.trans (hb.mono h.2.out.size))
end Go.Proofs.Ytlplfpoggifadaa
