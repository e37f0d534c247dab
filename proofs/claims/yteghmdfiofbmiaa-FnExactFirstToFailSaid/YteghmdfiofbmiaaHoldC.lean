/-
  What a drawn region holds that loads structs of seven cells beside what makes memory: their cells, and nothing below W's size turned since W. Written by a program of mine. Plain facts on worlds.
  By an AI agent.
-/
import Derived.Test.YteghmdfiofbmiaaHeldC
namespace Go.Proofs.Yteghmdfiofbmiaa
open Go.ChangeShapes Go.WideShapes Go.ChangeAt Go.RowKit
set_option maxRecDepth 100000

def ST1 (W : World) (p0 : Nat) (x0_0 x0_1 x0_2 x0_3 x0_4 x0_5 x0_6 : Value) (w' : World) : Prop :=
  (w'.cell? ⟨p0, 0, none⟩ = some x0_0 ∧ w'.cell? ⟨p0, 1, none⟩ = some x0_1 ∧ w'.cell? ⟨p0, 2, none⟩ = some x0_2 ∧ w'.cell? ⟨p0, 3, none⟩ = some x0_3 ∧ w'.cell? ⟨p0, 4, none⟩ = some x0_4 ∧ w'.cell? ⟨p0, 5, none⟩ = some x0_5 ∧ w'.cell? ⟨p0, 6, none⟩ = some x0_6) ∧ Hid (Below W.heap.size W w')
theorem ST1.mk {W w1 : World} {p0 : Nat} {x0_0 x0_1 x0_2 x0_3 x0_4 x0_5 x0_6 : Value} (r0 : SlR W (some ⟨p0, 0, none⟩) 7 (sept x0_0 x0_1 x0_2 x0_3 x0_4 x0_5 x0_6)) (h : Below W.heap.size W w1) : ST1 W p0 x0_0 x0_1 x0_2 x0_3 x0_4 x0_5 x0_6 w1 := by
  obtain ⟨u0_0, u0_1, u0_2, u0_3, u0_4, u0_5, u0_6⟩ := (r0.below h).sept
  exact ⟨⟨u0_0, u0_1, u0_2, u0_3, u0_4, u0_5, u0_6⟩, Lib.hid h⟩
theorem ST1.next {W w1 w2 : World} {p0 : Nat} {x0_0 x0_1 x0_2 x0_3 x0_4 x0_5 x0_6 : Value} (r0 : SlR W (some ⟨p0, 0, none⟩) 7 (sept x0_0 x0_1 x0_2 x0_3 x0_4 x0_5 x0_6)) (h : ST1 W p0 x0_0 x0_1 x0_2 x0_3 x0_4 x0_5 x0_6 w1) (hb : Below w1.heap.size w1 w2) : ST1 W p0 x0_0 x0_1 x0_2 x0_3 x0_4 x0_5 x0_6 w2 :=
  .mk r0 (h.2.out.trans (hb.mono h.2.out.size))
def ST2 (W : World) (p0 : Nat) (x0_0 x0_1 x0_2 x0_3 x0_4 x0_5 x0_6 : Value) (p1 : Nat) (x1_0 x1_1 x1_2 x1_3 x1_4 x1_5 x1_6 : Value) (w' : World) : Prop :=
  (w'.cell? ⟨p0, 0, none⟩ = some x0_0 ∧ w'.cell? ⟨p0, 1, none⟩ = some x0_1 ∧ w'.cell? ⟨p0, 2, none⟩ = some x0_2 ∧ w'.cell? ⟨p0, 3, none⟩ = some x0_3 ∧ w'.cell? ⟨p0, 4, none⟩ = some x0_4 ∧ w'.cell? ⟨p0, 5, none⟩ = some x0_5 ∧ w'.cell? ⟨p0, 6, none⟩ = some x0_6 ∧ w'.cell? ⟨p1, 0, none⟩ = some x1_0 ∧ w'.cell? ⟨p1, 1, none⟩ = some x1_1 ∧ w'.cell? ⟨p1, 2, none⟩ = some x1_2 ∧ w'.cell? ⟨p1, 3, none⟩ = some x1_3 ∧ w'.cell? ⟨p1, 4, none⟩ = some x1_4 ∧ w'.cell? ⟨p1, 5, none⟩ = some x1_5 ∧ w'.cell? ⟨p1, 6, none⟩ = some x1_6) ∧ Hid (Below W.heap.size W w')
theorem ST2.mk {W w1 : World} {p0 : Nat} {x0_0 x0_1 x0_2 x0_3 x0_4 x0_5 x0_6 : Value} {p1 : Nat} {x1_0 x1_1 x1_2 x1_3 x1_4 x1_5 x1_6 : Value} (r0 : SlR W (some ⟨p0, 0, none⟩) 7 (sept x0_0 x0_1 x0_2 x0_3 x0_4 x0_5 x0_6)) (r1 : SlR W (some ⟨p1, 0, none⟩) 7 (sept x1_0 x1_1 x1_2 x1_3 x1_4 x1_5 x1_6)) (h : Below W.heap.size W w1) : ST2 W p0 x0_0 x0_1 x0_2 x0_3 x0_4 x0_5 x0_6 p1 x1_0 x1_1 x1_2 x1_3 x1_4 x1_5 x1_6 w1 := by
  obtain ⟨u0_0, u0_1, u0_2, u0_3, u0_4, u0_5, u0_6⟩ := (r0.below h).sept
  obtain ⟨u1_0, u1_1, u1_2, u1_3, u1_4, u1_5, u1_6⟩ := (r1.below h).sept
  exact ⟨⟨u0_0, u0_1, u0_2, u0_3, u0_4, u0_5, u0_6, u1_0, u1_1, u1_2, u1_3, u1_4, u1_5, u1_6⟩, Lib.hid h⟩
theorem ST2.next {W w1 w2 : World} {p0 : Nat} {x0_0 x0_1 x0_2 x0_3 x0_4 x0_5 x0_6 : Value} {p1 : Nat} {x1_0 x1_1 x1_2 x1_3 x1_4 x1_5 x1_6 : Value} (r0 : SlR W (some ⟨p0, 0, none⟩) 7 (sept x0_0 x0_1 x0_2 x0_3 x0_4 x0_5 x0_6)) (r1 : SlR W (some ⟨p1, 0, none⟩) 7 (sept x1_0 x1_1 x1_2 x1_3 x1_4 x1_5 x1_6)) (h : ST2 W p0 x0_0 x0_1 x0_2 x0_3 x0_4 x0_5 x0_6 p1 x1_0 x1_1 x1_2 x1_3 x1_4 x1_5 x1_6 w1) (hb : Below w1.heap.size w1 w2) : ST2 W p0 x0_0 x0_1 x0_2 x0_3 x0_4 x0_5 x0_6 p1 x1_0 x1_1 x1_2 x1_3 x1_4 x1_5 x1_6 w2 :=
  .mk r0 r1 (h.2.out.trans (hb.mono h.2.out.size))
end Go.Proofs.Yteghmdfiofbmiaa
