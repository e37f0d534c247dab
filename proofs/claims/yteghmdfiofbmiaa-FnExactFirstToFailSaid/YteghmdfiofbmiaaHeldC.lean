/-
  As Held, for structs of seven cells (copies). Written by a program of mine. Plain facts on worlds.
  By an AI agent.
-/
import Derived.Test.YteghmdfiofbmiaaSl
namespace Go.Proofs.Yteghmdfiofbmiaa
open Go.ChangeShapes Go.WideShapes Go.ChangeAt Go.RowKit
set_option maxRecDepth 100000

/-- Seven cells. -/
def sept (x0 x1 x2 x3 x4 x5 x6 : Value) (i : Nat) : Value := #[x0, x1, x2, x3, x4, x5, x6].getD i undef
theorem SlR.sept {w : World} {b : Nat} {x0 x1 x2 x3 x4 x5 x6 : Value} (h : SlR w (some ⟨b, 0, none⟩) 7 (sept x0 x1 x2 x3 x4 x5 x6)) :
    w.cell? ⟨b, 0, none⟩ = some x0 ∧ w.cell? ⟨b, 1, none⟩ = some x1 ∧ w.cell? ⟨b, 2, none⟩ = some x2 ∧ w.cell? ⟨b, 3, none⟩ = some x3 ∧ w.cell? ⟨b, 4, none⟩ = some x4 ∧ w.cell? ⟨b, 5, none⟩ = some x5 ∧ w.cell? ⟨b, 6, none⟩ = some x6 := by
  obtain ⟨g, hg, r⟩ := h.row (by omega)
  simp only [Option.some.injEq, Addr.mk.injEq] at hg
  obtain ⟨rfl, _, _⟩ := hg
  exact ⟨r.cell (i := 0) (by omega), r.cell (i := 1) (by omega), r.cell (i := 2) (by omega), r.cell (i := 3) (by omega), r.cell (i := 4) (by omega), r.cell (i := 5) (by omega), r.cell (i := 6) (by omega)⟩
theorem SlR.box7 (w : World) (x0 x1 x2 x3 x4 x5 x6 : Value) (e : TypeId) : SlR (w.alloc (.cells #[x0, x1, x2, x3, x4, x5, x6] e (0, 0))) (some ⟨w.heap.size, 0, none⟩) 7 (Go.Proofs.Yteghmdfiofbmiaa.sept x0 x1 x2 x3 x4 x5 x6) :=
  .of_row (Row.of_new w #[x0, x1, x2, x3, x4, x5, x6] e)
def HT10 (W : World) (p0 : Nat) (x00 x01 x02 x03 x04 x05 x06 : Value)  (w' : World) : Prop :=
  (w'.cell? ⟨p0, 0, none⟩ = some x00 ∧ w'.cell? ⟨p0, 1, none⟩ = some x01 ∧ w'.cell? ⟨p0, 2, none⟩ = some x02 ∧ w'.cell? ⟨p0, 3, none⟩ = some x03 ∧ w'.cell? ⟨p0, 4, none⟩ = some x04 ∧ w'.cell? ⟨p0, 5, none⟩ = some x05 ∧ w'.cell? ⟨p0, 6, none⟩ = some x06) ∧ Hid (Below W.heap.size W w' ∧ SlR w' (some ⟨p0, 0, none⟩) 7 (sept x00 x01 x02 x03 x04 x05 x06))
theorem HT10.mk {W w1 : World} {p0 : Nat} {x00 x01 x02 x03 x04 x05 x06 : Value}  (hB : Below W.heap.size W w1) (hb0 : SlR w1 (some ⟨p0, 0, none⟩) 7 (sept x00 x01 x02 x03 x04 x05 x06))  : HT10 W p0 x00 x01 x02 x03 x04 x05 x06  w1 := by
  obtain ⟨u00, u01, u02, u03, u04, u05, u06⟩ := hb0.sept
  exact ⟨⟨u00, u01, u02, u03, u04, u05, u06⟩, Lib.hid ⟨hB, hb0⟩⟩
theorem HT10.next {W w1 w2 : World} {p0 : Nat} {x00 x01 x02 x03 x04 x05 x06 : Value}  (h : HT10 W p0 x00 x01 x02 x03 x04 x05 x06  w1) (hb : Below w1.heap.size w1 w2) : HT10 W p0 x00 x01 x02 x03 x04 x05 x06  w2 := by
  obtain ⟨_, h⟩ := h
  obtain ⟨hB, k0⟩ := h.out
  exact .mk (hB.trans (hb.mono hB.size)) (k0.below hb)
def HT11 (W : World) (p0 : Nat) (x00 x01 x02 x03 x04 x05 x06 : Value) (a0 : Option Addr) (N0 : Nat) (c0 : Nat → Value) (w' : World) : Prop :=
  (w'.cell? ⟨p0, 0, none⟩ = some x00 ∧ w'.cell? ⟨p0, 1, none⟩ = some x01 ∧ w'.cell? ⟨p0, 2, none⟩ = some x02 ∧ w'.cell? ⟨p0, 3, none⟩ = some x03 ∧ w'.cell? ⟨p0, 4, none⟩ = some x04 ∧ w'.cell? ⟨p0, 5, none⟩ = some x05 ∧ w'.cell? ⟨p0, 6, none⟩ = some x06) ∧ Hid (Below W.heap.size W w' ∧ SlR w' (some ⟨p0, 0, none⟩) 7 (sept x00 x01 x02 x03 x04 x05 x06) ∧ SlR w' a0 N0 c0)
theorem HT11.mk {W w1 : World} {p0 : Nat} {x00 x01 x02 x03 x04 x05 x06 : Value} {a0 : Option Addr} {N0 : Nat} {c0 : Nat → Value} (hB : Below W.heap.size W w1) (hb0 : SlR w1 (some ⟨p0, 0, none⟩) 7 (sept x00 x01 x02 x03 x04 x05 x06)) (hs0 : SlR w1 a0 N0 c0) : HT11 W p0 x00 x01 x02 x03 x04 x05 x06 a0 N0 c0 w1 := by
  obtain ⟨u00, u01, u02, u03, u04, u05, u06⟩ := hb0.sept
  exact ⟨⟨u00, u01, u02, u03, u04, u05, u06⟩, Lib.hid ⟨hB, hb0, hs0⟩⟩
theorem HT11.next {W w1 w2 : World} {p0 : Nat} {x00 x01 x02 x03 x04 x05 x06 : Value} {a0 : Option Addr} {N0 : Nat} {c0 : Nat → Value} (h : HT11 W p0 x00 x01 x02 x03 x04 x05 x06 a0 N0 c0 w1) (hb : Below w1.heap.size w1 w2) : HT11 W p0 x00 x01 x02 x03 x04 x05 x06 a0 N0 c0 w2 := by
  obtain ⟨_, h⟩ := h
  obtain ⟨hB, k0, s0⟩ := h.out
  exact .mk (hB.trans (hb.mono hB.size)) (k0.below hb) (s0.below hb)
def HT12 (W : World) (p0 : Nat) (x00 x01 x02 x03 x04 x05 x06 : Value) (a0 : Option Addr) (N0 : Nat) (c0 : Nat → Value) (a1 : Option Addr) (N1 : Nat) (c1 : Nat → Value) (w' : World) : Prop :=
  (w'.cell? ⟨p0, 0, none⟩ = some x00 ∧ w'.cell? ⟨p0, 1, none⟩ = some x01 ∧ w'.cell? ⟨p0, 2, none⟩ = some x02 ∧ w'.cell? ⟨p0, 3, none⟩ = some x03 ∧ w'.cell? ⟨p0, 4, none⟩ = some x04 ∧ w'.cell? ⟨p0, 5, none⟩ = some x05 ∧ w'.cell? ⟨p0, 6, none⟩ = some x06) ∧ Hid (Below W.heap.size W w' ∧ SlR w' (some ⟨p0, 0, none⟩) 7 (sept x00 x01 x02 x03 x04 x05 x06) ∧ SlR w' a0 N0 c0 ∧ SlR w' a1 N1 c1)
theorem HT12.mk {W w1 : World} {p0 : Nat} {x00 x01 x02 x03 x04 x05 x06 : Value} {a0 : Option Addr} {N0 : Nat} {c0 : Nat → Value} {a1 : Option Addr} {N1 : Nat} {c1 : Nat → Value} (hB : Below W.heap.size W w1) (hb0 : SlR w1 (some ⟨p0, 0, none⟩) 7 (sept x00 x01 x02 x03 x04 x05 x06)) (hs0 : SlR w1 a0 N0 c0) (hs1 : SlR w1 a1 N1 c1) : HT12 W p0 x00 x01 x02 x03 x04 x05 x06 a0 N0 c0 a1 N1 c1 w1 := by
  obtain ⟨u00, u01, u02, u03, u04, u05, u06⟩ := hb0.sept
  exact ⟨⟨u00, u01, u02, u03, u04, u05, u06⟩, Lib.hid ⟨hB, hb0, hs0, hs1⟩⟩
theorem HT12.next {W w1 w2 : World} {p0 : Nat} {x00 x01 x02 x03 x04 x05 x06 : Value} {a0 : Option Addr} {N0 : Nat} {c0 : Nat → Value} {a1 : Option Addr} {N1 : Nat} {c1 : Nat → Value} (h : HT12 W p0 x00 x01 x02 x03 x04 x05 x06 a0 N0 c0 a1 N1 c1 w1) (hb : Below w1.heap.size w1 w2) : HT12 W p0 x00 x01 x02 x03 x04 x05 x06 a0 N0 c0 a1 N1 c1 w2 := by
  obtain ⟨_, h⟩ := h
  obtain ⟨hB, k0, s0, s1⟩ := h.out
  exact .mk (hB.trans (hb.mono hB.size)) (k0.below hb) (s0.below hb) (s1.below hb)
def HT20 (W : World) (p0 : Nat) (x00 x01 x02 x03 x04 x05 x06 : Value) (p1 : Nat) (x10 x11 x12 x13 x14 x15 x16 : Value)  (w' : World) : Prop :=
  (w'.cell? ⟨p0, 0, none⟩ = some x00 ∧ w'.cell? ⟨p0, 1, none⟩ = some x01 ∧ w'.cell? ⟨p0, 2, none⟩ = some x02 ∧ w'.cell? ⟨p0, 3, none⟩ = some x03 ∧ w'.cell? ⟨p0, 4, none⟩ = some x04 ∧ w'.cell? ⟨p0, 5, none⟩ = some x05 ∧ w'.cell? ⟨p0, 6, none⟩ = some x06 ∧ w'.cell? ⟨p1, 0, none⟩ = some x10 ∧ w'.cell? ⟨p1, 1, none⟩ = some x11 ∧ w'.cell? ⟨p1, 2, none⟩ = some x12 ∧ w'.cell? ⟨p1, 3, none⟩ = some x13 ∧ w'.cell? ⟨p1, 4, none⟩ = some x14 ∧ w'.cell? ⟨p1, 5, none⟩ = some x15 ∧ w'.cell? ⟨p1, 6, none⟩ = some x16) ∧ Hid (Below W.heap.size W w' ∧ SlR w' (some ⟨p0, 0, none⟩) 7 (sept x00 x01 x02 x03 x04 x05 x06) ∧ SlR w' (some ⟨p1, 0, none⟩) 7 (sept x10 x11 x12 x13 x14 x15 x16))
theorem HT20.mk {W w1 : World} {p0 : Nat} {x00 x01 x02 x03 x04 x05 x06 : Value} {p1 : Nat} {x10 x11 x12 x13 x14 x15 x16 : Value}  (hB : Below W.heap.size W w1) (hb0 : SlR w1 (some ⟨p0, 0, none⟩) 7 (sept x00 x01 x02 x03 x04 x05 x06)) (hb1 : SlR w1 (some ⟨p1, 0, none⟩) 7 (sept x10 x11 x12 x13 x14 x15 x16))  : HT20 W p0 x00 x01 x02 x03 x04 x05 x06 p1 x10 x11 x12 x13 x14 x15 x16  w1 := by
  obtain ⟨u00, u01, u02, u03, u04, u05, u06⟩ := hb0.sept
  obtain ⟨u10, u11, u12, u13, u14, u15, u16⟩ := hb1.sept
  exact ⟨⟨u00, u01, u02, u03, u04, u05, u06, u10, u11, u12, u13, u14, u15, u16⟩, Lib.hid ⟨hB, hb0, hb1⟩⟩
theorem HT20.next {W w1 w2 : World} {p0 : Nat} {x00 x01 x02 x03 x04 x05 x06 : Value} {p1 : Nat} {x10 x11 x12 x13 x14 x15 x16 : Value}  (h : HT20 W p0 x00 x01 x02 x03 x04 x05 x06 p1 x10 x11 x12 x13 x14 x15 x16  w1) (hb : Below w1.heap.size w1 w2) : HT20 W p0 x00 x01 x02 x03 x04 x05 x06 p1 x10 x11 x12 x13 x14 x15 x16  w2 := by
  obtain ⟨_, h⟩ := h
  obtain ⟨hB, k0, k1⟩ := h.out
  exact .mk (hB.trans (hb.mono hB.size)) (k0.below hb) (k1.below hb)
def HT21 (W : World) (p0 : Nat) (x00 x01 x02 x03 x04 x05 x06 : Value) (p1 : Nat) (x10 x11 x12 x13 x14 x15 x16 : Value) (a0 : Option Addr) (N0 : Nat) (c0 : Nat → Value) (w' : World) : Prop :=
  (w'.cell? ⟨p0, 0, none⟩ = some x00 ∧ w'.cell? ⟨p0, 1, none⟩ = some x01 ∧ w'.cell? ⟨p0, 2, none⟩ = some x02 ∧ w'.cell? ⟨p0, 3, none⟩ = some x03 ∧ w'.cell? ⟨p0, 4, none⟩ = some x04 ∧ w'.cell? ⟨p0, 5, none⟩ = some x05 ∧ w'.cell? ⟨p0, 6, none⟩ = some x06 ∧ w'.cell? ⟨p1, 0, none⟩ = some x10 ∧ w'.cell? ⟨p1, 1, none⟩ = some x11 ∧ w'.cell? ⟨p1, 2, none⟩ = some x12 ∧ w'.cell? ⟨p1, 3, none⟩ = some x13 ∧ w'.cell? ⟨p1, 4, none⟩ = some x14 ∧ w'.cell? ⟨p1, 5, none⟩ = some x15 ∧ w'.cell? ⟨p1, 6, none⟩ = some x16) ∧ Hid (Below W.heap.size W w' ∧ SlR w' (some ⟨p0, 0, none⟩) 7 (sept x00 x01 x02 x03 x04 x05 x06) ∧ SlR w' (some ⟨p1, 0, none⟩) 7 (sept x10 x11 x12 x13 x14 x15 x16) ∧ SlR w' a0 N0 c0)
theorem HT21.mk {W w1 : World} {p0 : Nat} {x00 x01 x02 x03 x04 x05 x06 : Value} {p1 : Nat} {x10 x11 x12 x13 x14 x15 x16 : Value} {a0 : Option Addr} {N0 : Nat} {c0 : Nat → Value} (hB : Below W.heap.size W w1) (hb0 : SlR w1 (some ⟨p0, 0, none⟩) 7 (sept x00 x01 x02 x03 x04 x05 x06)) (hb1 : SlR w1 (some ⟨p1, 0, none⟩) 7 (sept x10 x11 x12 x13 x14 x15 x16)) (hs0 : SlR w1 a0 N0 c0) : HT21 W p0 x00 x01 x02 x03 x04 x05 x06 p1 x10 x11 x12 x13 x14 x15 x16 a0 N0 c0 w1 := by
  obtain ⟨u00, u01, u02, u03, u04, u05, u06⟩ := hb0.sept
  obtain ⟨u10, u11, u12, u13, u14, u15, u16⟩ := hb1.sept
  exact ⟨⟨u00, u01, u02, u03, u04, u05, u06, u10, u11, u12, u13, u14, u15, u16⟩, Lib.hid ⟨hB, hb0, hb1, hs0⟩⟩
theorem HT21.next {W w1 w2 : World} {p0 : Nat} {x00 x01 x02 x03 x04 x05 x06 : Value} {p1 : Nat} {x10 x11 x12 x13 x14 x15 x16 : Value} {a0 : Option Addr} {N0 : Nat} {c0 : Nat → Value} (h : HT21 W p0 x00 x01 x02 x03 x04 x05 x06 p1 x10 x11 x12 x13 x14 x15 x16 a0 N0 c0 w1) (hb : Below w1.heap.size w1 w2) : HT21 W p0 x00 x01 x02 x03 x04 x05 x06 p1 x10 x11 x12 x13 x14 x15 x16 a0 N0 c0 w2 := by
  obtain ⟨_, h⟩ := h
  obtain ⟨hB, k0, k1, s0⟩ := h.out
  exact .mk (hB.trans (hb.mono hB.size)) (k0.below hb) (k1.below hb) (s0.below hb)
def HT22 (W : World) (p0 : Nat) (x00 x01 x02 x03 x04 x05 x06 : Value) (p1 : Nat) (x10 x11 x12 x13 x14 x15 x16 : Value) (a0 : Option Addr) (N0 : Nat) (c0 : Nat → Value) (a1 : Option Addr) (N1 : Nat) (c1 : Nat → Value) (w' : World) : Prop :=
  (w'.cell? ⟨p0, 0, none⟩ = some x00 ∧ w'.cell? ⟨p0, 1, none⟩ = some x01 ∧ w'.cell? ⟨p0, 2, none⟩ = some x02 ∧ w'.cell? ⟨p0, 3, none⟩ = some x03 ∧ w'.cell? ⟨p0, 4, none⟩ = some x04 ∧ w'.cell? ⟨p0, 5, none⟩ = some x05 ∧ w'.cell? ⟨p0, 6, none⟩ = some x06 ∧ w'.cell? ⟨p1, 0, none⟩ = some x10 ∧ w'.cell? ⟨p1, 1, none⟩ = some x11 ∧ w'.cell? ⟨p1, 2, none⟩ = some x12 ∧ w'.cell? ⟨p1, 3, none⟩ = some x13 ∧ w'.cell? ⟨p1, 4, none⟩ = some x14 ∧ w'.cell? ⟨p1, 5, none⟩ = some x15 ∧ w'.cell? ⟨p1, 6, none⟩ = some x16) ∧ Hid (Below W.heap.size W w' ∧ SlR w' (some ⟨p0, 0, none⟩) 7 (sept x00 x01 x02 x03 x04 x05 x06) ∧ SlR w' (some ⟨p1, 0, none⟩) 7 (sept x10 x11 x12 x13 x14 x15 x16) ∧ SlR w' a0 N0 c0 ∧ SlR w' a1 N1 c1)
theorem HT22.mk {W w1 : World} {p0 : Nat} {x00 x01 x02 x03 x04 x05 x06 : Value} {p1 : Nat} {x10 x11 x12 x13 x14 x15 x16 : Value} {a0 : Option Addr} {N0 : Nat} {c0 : Nat → Value} {a1 : Option Addr} {N1 : Nat} {c1 : Nat → Value} (hB : Below W.heap.size W w1) (hb0 : SlR w1 (some ⟨p0, 0, none⟩) 7 (sept x00 x01 x02 x03 x04 x05 x06)) (hb1 : SlR w1 (some ⟨p1, 0, none⟩) 7 (sept x10 x11 x12 x13 x14 x15 x16)) (hs0 : SlR w1 a0 N0 c0) (hs1 : SlR w1 a1 N1 c1) : HT22 W p0 x00 x01 x02 x03 x04 x05 x06 p1 x10 x11 x12 x13 x14 x15 x16 a0 N0 c0 a1 N1 c1 w1 := by
  obtain ⟨u00, u01, u02, u03, u04, u05, u06⟩ := hb0.sept
  obtain ⟨u10, u11, u12, u13, u14, u15, u16⟩ := hb1.sept
  exact ⟨⟨u00, u01, u02, u03, u04, u05, u06, u10, u11, u12, u13, u14, u15, u16⟩, Lib.hid ⟨hB, hb0, hb1, hs0, hs1⟩⟩
theorem HT22.next {W w1 w2 : World} {p0 : Nat} {x00 x01 x02 x03 x04 x05 x06 : Value} {p1 : Nat} {x10 x11 x12 x13 x14 x15 x16 : Value} {a0 : Option Addr} {N0 : Nat} {c0 : Nat → Value} {a1 : Option Addr} {N1 : Nat} {c1 : Nat → Value} (h : HT22 W p0 x00 x01 x02 x03 x04 x05 x06 p1 x10 x11 x12 x13 x14 x15 x16 a0 N0 c0 a1 N1 c1 w1) (hb : Below w1.heap.size w1 w2) : HT22 W p0 x00 x01 x02 x03 x04 x05 x06 p1 x10 x11 x12 x13 x14 x15 x16 a0 N0 c0 a1 N1 c1 w2 := by
  obtain ⟨_, h⟩ := h
  obtain ⟨hB, k0, k1, s0, s1⟩ := h.out
  exact .mk (hB.trans (hb.mono hB.size)) (k0.below hb) (k1.below hb) (s0.below hb) (s1.below hb)
end Go.Proofs.Yteghmdfiofbmiaa
