/-
  What a drawn region holds that loads structs of three cells beside calls that make memory: b structs, s slices of the call's own, and nothing below W's size turned. Written by a program of mine (mk_held.py's text stands in NOTES). Plain facts on worlds.
  By an AI agent.
-/
import Derived.Test.YteghmdfiofbmiaaSl
namespace Go.Proofs.Yteghmdfiofbmiaa
open Go.ChangeShapes Go.WideShapes Go.ChangeAt Go.RowKit
set_option maxRecDepth 100000

def HS10 (W : World) (p0 : Nat) (x0 y0 z0 : Value)  (w' : World) : Prop :=
  (w'.cell? ⟨p0, 0, none⟩ = some x0 ∧ w'.cell? ⟨p0, 1, none⟩ = some y0 ∧ w'.cell? ⟨p0, 2, none⟩ = some z0) ∧ Hid (Below W.heap.size W w' ∧ SlR w' (some ⟨p0, 0, none⟩) 3 (tri x0 y0 z0))
theorem HS10.mk {W w1 : World} {p0 : Nat} {x0 y0 z0 : Value}  (hB : Below W.heap.size W w1) (hb0 : SlR w1 (some ⟨p0, 0, none⟩) 3 (tri x0 y0 z0))  : HS10 W p0 x0 y0 z0  w1 := by
  obtain ⟨u0, v0, t0⟩ := hb0.tri
  exact ⟨⟨u0, v0, t0⟩, Lib.hid ⟨hB, hb0⟩⟩
theorem HS10.next {W w1 w2 : World} {p0 : Nat} {x0 y0 z0 : Value}  (h : HS10 W p0 x0 y0 z0  w1) (hb : Below w1.heap.size w1 w2) : HS10 W p0 x0 y0 z0  w2 := by
  obtain ⟨_, h⟩ := h
  obtain ⟨hB, k0⟩ := h.out
  exact .mk (hB.trans (hb.mono hB.size)) (k0.below hb)
def HS11 (W : World) (p0 : Nat) (x0 y0 z0 : Value) (a0 : Option Addr) (N0 : Nat) (c0 : Nat → Value) (w' : World) : Prop :=
  (w'.cell? ⟨p0, 0, none⟩ = some x0 ∧ w'.cell? ⟨p0, 1, none⟩ = some y0 ∧ w'.cell? ⟨p0, 2, none⟩ = some z0) ∧ Hid (Below W.heap.size W w' ∧ SlR w' (some ⟨p0, 0, none⟩) 3 (tri x0 y0 z0) ∧ SlR w' a0 N0 c0)
theorem HS11.mk {W w1 : World} {p0 : Nat} {x0 y0 z0 : Value} {a0 : Option Addr} {N0 : Nat} {c0 : Nat → Value} (hB : Below W.heap.size W w1) (hb0 : SlR w1 (some ⟨p0, 0, none⟩) 3 (tri x0 y0 z0)) (hs0 : SlR w1 a0 N0 c0) : HS11 W p0 x0 y0 z0 a0 N0 c0 w1 := by
  obtain ⟨u0, v0, t0⟩ := hb0.tri
  exact ⟨⟨u0, v0, t0⟩, Lib.hid ⟨hB, hb0, hs0⟩⟩
theorem HS11.next {W w1 w2 : World} {p0 : Nat} {x0 y0 z0 : Value} {a0 : Option Addr} {N0 : Nat} {c0 : Nat → Value} (h : HS11 W p0 x0 y0 z0 a0 N0 c0 w1) (hb : Below w1.heap.size w1 w2) : HS11 W p0 x0 y0 z0 a0 N0 c0 w2 := by
  obtain ⟨_, h⟩ := h
  obtain ⟨hB, k0, s0⟩ := h.out
  exact .mk (hB.trans (hb.mono hB.size)) (k0.below hb) (s0.below hb)
def HS12 (W : World) (p0 : Nat) (x0 y0 z0 : Value) (a0 : Option Addr) (N0 : Nat) (c0 : Nat → Value) (a1 : Option Addr) (N1 : Nat) (c1 : Nat → Value) (w' : World) : Prop :=
  (w'.cell? ⟨p0, 0, none⟩ = some x0 ∧ w'.cell? ⟨p0, 1, none⟩ = some y0 ∧ w'.cell? ⟨p0, 2, none⟩ = some z0) ∧ Hid (Below W.heap.size W w' ∧ SlR w' (some ⟨p0, 0, none⟩) 3 (tri x0 y0 z0) ∧ SlR w' a0 N0 c0 ∧ SlR w' a1 N1 c1)
theorem HS12.mk {W w1 : World} {p0 : Nat} {x0 y0 z0 : Value} {a0 : Option Addr} {N0 : Nat} {c0 : Nat → Value} {a1 : Option Addr} {N1 : Nat} {c1 : Nat → Value} (hB : Below W.heap.size W w1) (hb0 : SlR w1 (some ⟨p0, 0, none⟩) 3 (tri x0 y0 z0)) (hs0 : SlR w1 a0 N0 c0) (hs1 : SlR w1 a1 N1 c1) : HS12 W p0 x0 y0 z0 a0 N0 c0 a1 N1 c1 w1 := by
  obtain ⟨u0, v0, t0⟩ := hb0.tri
  exact ⟨⟨u0, v0, t0⟩, Lib.hid ⟨hB, hb0, hs0, hs1⟩⟩
theorem HS12.next {W w1 w2 : World} {p0 : Nat} {x0 y0 z0 : Value} {a0 : Option Addr} {N0 : Nat} {c0 : Nat → Value} {a1 : Option Addr} {N1 : Nat} {c1 : Nat → Value} (h : HS12 W p0 x0 y0 z0 a0 N0 c0 a1 N1 c1 w1) (hb : Below w1.heap.size w1 w2) : HS12 W p0 x0 y0 z0 a0 N0 c0 a1 N1 c1 w2 := by
  obtain ⟨_, h⟩ := h
  obtain ⟨hB, k0, s0, s1⟩ := h.out
  exact .mk (hB.trans (hb.mono hB.size)) (k0.below hb) (s0.below hb) (s1.below hb)
def HS13 (W : World) (p0 : Nat) (x0 y0 z0 : Value) (a0 : Option Addr) (N0 : Nat) (c0 : Nat → Value) (a1 : Option Addr) (N1 : Nat) (c1 : Nat → Value) (a2 : Option Addr) (N2 : Nat) (c2 : Nat → Value) (w' : World) : Prop :=
  (w'.cell? ⟨p0, 0, none⟩ = some x0 ∧ w'.cell? ⟨p0, 1, none⟩ = some y0 ∧ w'.cell? ⟨p0, 2, none⟩ = some z0) ∧ Hid (Below W.heap.size W w' ∧ SlR w' (some ⟨p0, 0, none⟩) 3 (tri x0 y0 z0) ∧ SlR w' a0 N0 c0 ∧ SlR w' a1 N1 c1 ∧ SlR w' a2 N2 c2)
theorem HS13.mk {W w1 : World} {p0 : Nat} {x0 y0 z0 : Value} {a0 : Option Addr} {N0 : Nat} {c0 : Nat → Value} {a1 : Option Addr} {N1 : Nat} {c1 : Nat → Value} {a2 : Option Addr} {N2 : Nat} {c2 : Nat → Value} (hB : Below W.heap.size W w1) (hb0 : SlR w1 (some ⟨p0, 0, none⟩) 3 (tri x0 y0 z0)) (hs0 : SlR w1 a0 N0 c0) (hs1 : SlR w1 a1 N1 c1) (hs2 : SlR w1 a2 N2 c2) : HS13 W p0 x0 y0 z0 a0 N0 c0 a1 N1 c1 a2 N2 c2 w1 := by
  obtain ⟨u0, v0, t0⟩ := hb0.tri
  exact ⟨⟨u0, v0, t0⟩, Lib.hid ⟨hB, hb0, hs0, hs1, hs2⟩⟩
theorem HS13.next {W w1 w2 : World} {p0 : Nat} {x0 y0 z0 : Value} {a0 : Option Addr} {N0 : Nat} {c0 : Nat → Value} {a1 : Option Addr} {N1 : Nat} {c1 : Nat → Value} {a2 : Option Addr} {N2 : Nat} {c2 : Nat → Value} (h : HS13 W p0 x0 y0 z0 a0 N0 c0 a1 N1 c1 a2 N2 c2 w1) (hb : Below w1.heap.size w1 w2) : HS13 W p0 x0 y0 z0 a0 N0 c0 a1 N1 c1 a2 N2 c2 w2 := by
  obtain ⟨_, h⟩ := h
  obtain ⟨hB, k0, s0, s1, s2⟩ := h.out
  exact .mk (hB.trans (hb.mono hB.size)) (k0.below hb) (s0.below hb) (s1.below hb) (s2.below hb)
def HS20 (W : World) (p0 : Nat) (x0 y0 z0 : Value) (p1 : Nat) (x1 y1 z1 : Value)  (w' : World) : Prop :=
  (w'.cell? ⟨p0, 0, none⟩ = some x0 ∧ w'.cell? ⟨p0, 1, none⟩ = some y0 ∧ w'.cell? ⟨p0, 2, none⟩ = some z0 ∧ w'.cell? ⟨p1, 0, none⟩ = some x1 ∧ w'.cell? ⟨p1, 1, none⟩ = some y1 ∧ w'.cell? ⟨p1, 2, none⟩ = some z1) ∧ Hid (Below W.heap.size W w' ∧ SlR w' (some ⟨p0, 0, none⟩) 3 (tri x0 y0 z0) ∧ SlR w' (some ⟨p1, 0, none⟩) 3 (tri x1 y1 z1))
theorem HS20.mk {W w1 : World} {p0 : Nat} {x0 y0 z0 : Value} {p1 : Nat} {x1 y1 z1 : Value}  (hB : Below W.heap.size W w1) (hb0 : SlR w1 (some ⟨p0, 0, none⟩) 3 (tri x0 y0 z0)) (hb1 : SlR w1 (some ⟨p1, 0, none⟩) 3 (tri x1 y1 z1))  : HS20 W p0 x0 y0 z0 p1 x1 y1 z1  w1 := by
  obtain ⟨u0, v0, t0⟩ := hb0.tri
  obtain ⟨u1, v1, t1⟩ := hb1.tri
  exact ⟨⟨u0, v0, t0, u1, v1, t1⟩, Lib.hid ⟨hB, hb0, hb1⟩⟩
theorem HS20.next {W w1 w2 : World} {p0 : Nat} {x0 y0 z0 : Value} {p1 : Nat} {x1 y1 z1 : Value}  (h : HS20 W p0 x0 y0 z0 p1 x1 y1 z1  w1) (hb : Below w1.heap.size w1 w2) : HS20 W p0 x0 y0 z0 p1 x1 y1 z1  w2 := by
  obtain ⟨_, h⟩ := h
  obtain ⟨hB, k0, k1⟩ := h.out
  exact .mk (hB.trans (hb.mono hB.size)) (k0.below hb) (k1.below hb)
def HS21 (W : World) (p0 : Nat) (x0 y0 z0 : Value) (p1 : Nat) (x1 y1 z1 : Value) (a0 : Option Addr) (N0 : Nat) (c0 : Nat → Value) (w' : World) : Prop :=
  (w'.cell? ⟨p0, 0, none⟩ = some x0 ∧ w'.cell? ⟨p0, 1, none⟩ = some y0 ∧ w'.cell? ⟨p0, 2, none⟩ = some z0 ∧ w'.cell? ⟨p1, 0, none⟩ = some x1 ∧ w'.cell? ⟨p1, 1, none⟩ = some y1 ∧ w'.cell? ⟨p1, 2, none⟩ = some z1) ∧ Hid (Below W.heap.size W w' ∧ SlR w' (some ⟨p0, 0, none⟩) 3 (tri x0 y0 z0) ∧ SlR w' (some ⟨p1, 0, none⟩) 3 (tri x1 y1 z1) ∧ SlR w' a0 N0 c0)
theorem HS21.mk {W w1 : World} {p0 : Nat} {x0 y0 z0 : Value} {p1 : Nat} {x1 y1 z1 : Value} {a0 : Option Addr} {N0 : Nat} {c0 : Nat → Value} (hB : Below W.heap.size W w1) (hb0 : SlR w1 (some ⟨p0, 0, none⟩) 3 (tri x0 y0 z0)) (hb1 : SlR w1 (some ⟨p1, 0, none⟩) 3 (tri x1 y1 z1)) (hs0 : SlR w1 a0 N0 c0) : HS21 W p0 x0 y0 z0 p1 x1 y1 z1 a0 N0 c0 w1 := by
  obtain ⟨u0, v0, t0⟩ := hb0.tri
  obtain ⟨u1, v1, t1⟩ := hb1.tri
  exact ⟨⟨u0, v0, t0, u1, v1, t1⟩, Lib.hid ⟨hB, hb0, hb1, hs0⟩⟩
theorem HS21.next {W w1 w2 : World} {p0 : Nat} {x0 y0 z0 : Value} {p1 : Nat} {x1 y1 z1 : Value} {a0 : Option Addr} {N0 : Nat} {c0 : Nat → Value} (h : HS21 W p0 x0 y0 z0 p1 x1 y1 z1 a0 N0 c0 w1) (hb : Below w1.heap.size w1 w2) : HS21 W p0 x0 y0 z0 p1 x1 y1 z1 a0 N0 c0 w2 := by
  obtain ⟨_, h⟩ := h
  obtain ⟨hB, k0, k1, s0⟩ := h.out
  exact .mk (hB.trans (hb.mono hB.size)) (k0.below hb) (k1.below hb) (s0.below hb)
def HS22 (W : World) (p0 : Nat) (x0 y0 z0 : Value) (p1 : Nat) (x1 y1 z1 : Value) (a0 : Option Addr) (N0 : Nat) (c0 : Nat → Value) (a1 : Option Addr) (N1 : Nat) (c1 : Nat → Value) (w' : World) : Prop :=
  (w'.cell? ⟨p0, 0, none⟩ = some x0 ∧ w'.cell? ⟨p0, 1, none⟩ = some y0 ∧ w'.cell? ⟨p0, 2, none⟩ = some z0 ∧ w'.cell? ⟨p1, 0, none⟩ = some x1 ∧ w'.cell? ⟨p1, 1, none⟩ = some y1 ∧ w'.cell? ⟨p1, 2, none⟩ = some z1) ∧ Hid (Below W.heap.size W w' ∧ SlR w' (some ⟨p0, 0, none⟩) 3 (tri x0 y0 z0) ∧ SlR w' (some ⟨p1, 0, none⟩) 3 (tri x1 y1 z1) ∧ SlR w' a0 N0 c0 ∧ SlR w' a1 N1 c1)
theorem HS22.mk {W w1 : World} {p0 : Nat} {x0 y0 z0 : Value} {p1 : Nat} {x1 y1 z1 : Value} {a0 : Option Addr} {N0 : Nat} {c0 : Nat → Value} {a1 : Option Addr} {N1 : Nat} {c1 : Nat → Value} (hB : Below W.heap.size W w1) (hb0 : SlR w1 (some ⟨p0, 0, none⟩) 3 (tri x0 y0 z0)) (hb1 : SlR w1 (some ⟨p1, 0, none⟩) 3 (tri x1 y1 z1)) (hs0 : SlR w1 a0 N0 c0) (hs1 : SlR w1 a1 N1 c1) : HS22 W p0 x0 y0 z0 p1 x1 y1 z1 a0 N0 c0 a1 N1 c1 w1 := by
  obtain ⟨u0, v0, t0⟩ := hb0.tri
  obtain ⟨u1, v1, t1⟩ := hb1.tri
  exact ⟨⟨u0, v0, t0, u1, v1, t1⟩, Lib.hid ⟨hB, hb0, hb1, hs0, hs1⟩⟩
theorem HS22.next {W w1 w2 : World} {p0 : Nat} {x0 y0 z0 : Value} {p1 : Nat} {x1 y1 z1 : Value} {a0 : Option Addr} {N0 : Nat} {c0 : Nat → Value} {a1 : Option Addr} {N1 : Nat} {c1 : Nat → Value} (h : HS22 W p0 x0 y0 z0 p1 x1 y1 z1 a0 N0 c0 a1 N1 c1 w1) (hb : Below w1.heap.size w1 w2) : HS22 W p0 x0 y0 z0 p1 x1 y1 z1 a0 N0 c0 a1 N1 c1 w2 := by
  obtain ⟨_, h⟩ := h
  obtain ⟨hB, k0, k1, s0, s1⟩ := h.out
  exact .mk (hB.trans (hb.mono hB.size)) (k0.below hb) (k1.below hb) (s0.below hb) (s1.below hb)
def HS23 (W : World) (p0 : Nat) (x0 y0 z0 : Value) (p1 : Nat) (x1 y1 z1 : Value) (a0 : Option Addr) (N0 : Nat) (c0 : Nat → Value) (a1 : Option Addr) (N1 : Nat) (c1 : Nat → Value) (a2 : Option Addr) (N2 : Nat) (c2 : Nat → Value) (w' : World) : Prop :=
  (w'.cell? ⟨p0, 0, none⟩ = some x0 ∧ w'.cell? ⟨p0, 1, none⟩ = some y0 ∧ w'.cell? ⟨p0, 2, none⟩ = some z0 ∧ w'.cell? ⟨p1, 0, none⟩ = some x1 ∧ w'.cell? ⟨p1, 1, none⟩ = some y1 ∧ w'.cell? ⟨p1, 2, none⟩ = some z1) ∧ Hid (Below W.heap.size W w' ∧ SlR w' (some ⟨p0, 0, none⟩) 3 (tri x0 y0 z0) ∧ SlR w' (some ⟨p1, 0, none⟩) 3 (tri x1 y1 z1) ∧ SlR w' a0 N0 c0 ∧ SlR w' a1 N1 c1 ∧ SlR w' a2 N2 c2)
theorem HS23.mk {W w1 : World} {p0 : Nat} {x0 y0 z0 : Value} {p1 : Nat} {x1 y1 z1 : Value} {a0 : Option Addr} {N0 : Nat} {c0 : Nat → Value} {a1 : Option Addr} {N1 : Nat} {c1 : Nat → Value} {a2 : Option Addr} {N2 : Nat} {c2 : Nat → Value} (hB : Below W.heap.size W w1) (hb0 : SlR w1 (some ⟨p0, 0, none⟩) 3 (tri x0 y0 z0)) (hb1 : SlR w1 (some ⟨p1, 0, none⟩) 3 (tri x1 y1 z1)) (hs0 : SlR w1 a0 N0 c0) (hs1 : SlR w1 a1 N1 c1) (hs2 : SlR w1 a2 N2 c2) : HS23 W p0 x0 y0 z0 p1 x1 y1 z1 a0 N0 c0 a1 N1 c1 a2 N2 c2 w1 := by
  obtain ⟨u0, v0, t0⟩ := hb0.tri
  obtain ⟨u1, v1, t1⟩ := hb1.tri
  exact ⟨⟨u0, v0, t0, u1, v1, t1⟩, Lib.hid ⟨hB, hb0, hb1, hs0, hs1, hs2⟩⟩
theorem HS23.next {W w1 w2 : World} {p0 : Nat} {x0 y0 z0 : Value} {p1 : Nat} {x1 y1 z1 : Value} {a0 : Option Addr} {N0 : Nat} {c0 : Nat → Value} {a1 : Option Addr} {N1 : Nat} {c1 : Nat → Value} {a2 : Option Addr} {N2 : Nat} {c2 : Nat → Value} (h : HS23 W p0 x0 y0 z0 p1 x1 y1 z1 a0 N0 c0 a1 N1 c1 a2 N2 c2 w1) (hb : Below w1.heap.size w1 w2) : HS23 W p0 x0 y0 z0 p1 x1 y1 z1 a0 N0 c0 a1 N1 c1 a2 N2 c2 w2 := by
  obtain ⟨_, h⟩ := h
  obtain ⟨hB, k0, k1, s0, s1, s2⟩ := h.out
  exact .mk (hB.trans (hb.mono hB.size)) (k0.below hb) (k1.below hb) (s0.below hb) (s1.below hb) (s2.below hb)
def HS30 (W : World) (p0 : Nat) (x0 y0 z0 : Value) (p1 : Nat) (x1 y1 z1 : Value) (p2 : Nat) (x2 y2 z2 : Value)  (w' : World) : Prop :=
  (w'.cell? ⟨p0, 0, none⟩ = some x0 ∧ w'.cell? ⟨p0, 1, none⟩ = some y0 ∧ w'.cell? ⟨p0, 2, none⟩ = some z0 ∧ w'.cell? ⟨p1, 0, none⟩ = some x1 ∧ w'.cell? ⟨p1, 1, none⟩ = some y1 ∧ w'.cell? ⟨p1, 2, none⟩ = some z1 ∧ w'.cell? ⟨p2, 0, none⟩ = some x2 ∧ w'.cell? ⟨p2, 1, none⟩ = some y2 ∧ w'.cell? ⟨p2, 2, none⟩ = some z2) ∧ Hid (Below W.heap.size W w' ∧ SlR w' (some ⟨p0, 0, none⟩) 3 (tri x0 y0 z0) ∧ SlR w' (some ⟨p1, 0, none⟩) 3 (tri x1 y1 z1) ∧ SlR w' (some ⟨p2, 0, none⟩) 3 (tri x2 y2 z2))
theorem HS30.mk {W w1 : World} {p0 : Nat} {x0 y0 z0 : Value} {p1 : Nat} {x1 y1 z1 : Value} {p2 : Nat} {x2 y2 z2 : Value}  (hB : Below W.heap.size W w1) (hb0 : SlR w1 (some ⟨p0, 0, none⟩) 3 (tri x0 y0 z0)) (hb1 : SlR w1 (some ⟨p1, 0, none⟩) 3 (tri x1 y1 z1)) (hb2 : SlR w1 (some ⟨p2, 0, none⟩) 3 (tri x2 y2 z2))  : HS30 W p0 x0 y0 z0 p1 x1 y1 z1 p2 x2 y2 z2  w1 := by
  obtain ⟨u0, v0, t0⟩ := hb0.tri
  obtain ⟨u1, v1, t1⟩ := hb1.tri
  obtain ⟨u2, v2, t2⟩ := hb2.tri
  exact ⟨⟨u0, v0, t0, u1, v1, t1, u2, v2, t2⟩, Lib.hid ⟨hB, hb0, hb1, hb2⟩⟩
theorem HS30.next {W w1 w2 : World} {p0 : Nat} {x0 y0 z0 : Value} {p1 : Nat} {x1 y1 z1 : Value} {p2 : Nat} {x2 y2 z2 : Value}  (h : HS30 W p0 x0 y0 z0 p1 x1 y1 z1 p2 x2 y2 z2  w1) (hb : Below w1.heap.size w1 w2) : HS30 W p0 x0 y0 z0 p1 x1 y1 z1 p2 x2 y2 z2  w2 := by
  obtain ⟨_, h⟩ := h
  obtain ⟨hB, k0, k1, k2⟩ := h.out
  exact .mk (hB.trans (hb.mono hB.size)) (k0.below hb) (k1.below hb) (k2.below hb)
def HS31 (W : World) (p0 : Nat) (x0 y0 z0 : Value) (p1 : Nat) (x1 y1 z1 : Value) (p2 : Nat) (x2 y2 z2 : Value) (a0 : Option Addr) (N0 : Nat) (c0 : Nat → Value) (w' : World) : Prop :=
  (w'.cell? ⟨p0, 0, none⟩ = some x0 ∧ w'.cell? ⟨p0, 1, none⟩ = some y0 ∧ w'.cell? ⟨p0, 2, none⟩ = some z0 ∧ w'.cell? ⟨p1, 0, none⟩ = some x1 ∧ w'.cell? ⟨p1, 1, none⟩ = some y1 ∧ w'.cell? ⟨p1, 2, none⟩ = some z1 ∧ w'.cell? ⟨p2, 0, none⟩ = some x2 ∧ w'.cell? ⟨p2, 1, none⟩ = some y2 ∧ w'.cell? ⟨p2, 2, none⟩ = some z2) ∧ Hid (Below W.heap.size W w' ∧ SlR w' (some ⟨p0, 0, none⟩) 3 (tri x0 y0 z0) ∧ SlR w' (some ⟨p1, 0, none⟩) 3 (tri x1 y1 z1) ∧ SlR w' (some ⟨p2, 0, none⟩) 3 (tri x2 y2 z2) ∧ SlR w' a0 N0 c0)
theorem HS31.mk {W w1 : World} {p0 : Nat} {x0 y0 z0 : Value} {p1 : Nat} {x1 y1 z1 : Value} {p2 : Nat} {x2 y2 z2 : Value} {a0 : Option Addr} {N0 : Nat} {c0 : Nat → Value} (hB : Below W.heap.size W w1) (hb0 : SlR w1 (some ⟨p0, 0, none⟩) 3 (tri x0 y0 z0)) (hb1 : SlR w1 (some ⟨p1, 0, none⟩) 3 (tri x1 y1 z1)) (hb2 : SlR w1 (some ⟨p2, 0, none⟩) 3 (tri x2 y2 z2)) (hs0 : SlR w1 a0 N0 c0) : HS31 W p0 x0 y0 z0 p1 x1 y1 z1 p2 x2 y2 z2 a0 N0 c0 w1 := by
  obtain ⟨u0, v0, t0⟩ := hb0.tri
  obtain ⟨u1, v1, t1⟩ := hb1.tri
  obtain ⟨u2, v2, t2⟩ := hb2.tri
  exact ⟨⟨u0, v0, t0, u1, v1, t1, u2, v2, t2⟩, Lib.hid ⟨hB, hb0, hb1, hb2, hs0⟩⟩
theorem HS31.next {W w1 w2 : World} {p0 : Nat} {x0 y0 z0 : Value} {p1 : Nat} {x1 y1 z1 : Value} {p2 : Nat} {x2 y2 z2 : Value} {a0 : Option Addr} {N0 : Nat} {c0 : Nat → Value} (h : HS31 W p0 x0 y0 z0 p1 x1 y1 z1 p2 x2 y2 z2 a0 N0 c0 w1) (hb : Below w1.heap.size w1 w2) : HS31 W p0 x0 y0 z0 p1 x1 y1 z1 p2 x2 y2 z2 a0 N0 c0 w2 := by
  obtain ⟨_, h⟩ := h
  obtain ⟨hB, k0, k1, k2, s0⟩ := h.out
  exact .mk (hB.trans (hb.mono hB.size)) (k0.below hb) (k1.below hb) (k2.below hb) (s0.below hb)
def HS32 (W : World) (p0 : Nat) (x0 y0 z0 : Value) (p1 : Nat) (x1 y1 z1 : Value) (p2 : Nat) (x2 y2 z2 : Value) (a0 : Option Addr) (N0 : Nat) (c0 : Nat → Value) (a1 : Option Addr) (N1 : Nat) (c1 : Nat → Value) (w' : World) : Prop :=
  (w'.cell? ⟨p0, 0, none⟩ = some x0 ∧ w'.cell? ⟨p0, 1, none⟩ = some y0 ∧ w'.cell? ⟨p0, 2, none⟩ = some z0 ∧ w'.cell? ⟨p1, 0, none⟩ = some x1 ∧ w'.cell? ⟨p1, 1, none⟩ = some y1 ∧ w'.cell? ⟨p1, 2, none⟩ = some z1 ∧ w'.cell? ⟨p2, 0, none⟩ = some x2 ∧ w'.cell? ⟨p2, 1, none⟩ = some y2 ∧ w'.cell? ⟨p2, 2, none⟩ = some z2) ∧ Hid (Below W.heap.size W w' ∧ SlR w' (some ⟨p0, 0, none⟩) 3 (tri x0 y0 z0) ∧ SlR w' (some ⟨p1, 0, none⟩) 3 (tri x1 y1 z1) ∧ SlR w' (some ⟨p2, 0, none⟩) 3 (tri x2 y2 z2) ∧ SlR w' a0 N0 c0 ∧ SlR w' a1 N1 c1)
theorem HS32.mk {W w1 : World} {p0 : Nat} {x0 y0 z0 : Value} {p1 : Nat} {x1 y1 z1 : Value} {p2 : Nat} {x2 y2 z2 : Value} {a0 : Option Addr} {N0 : Nat} {c0 : Nat → Value} {a1 : Option Addr} {N1 : Nat} {c1 : Nat → Value} (hB : Below W.heap.size W w1) (hb0 : SlR w1 (some ⟨p0, 0, none⟩) 3 (tri x0 y0 z0)) (hb1 : SlR w1 (some ⟨p1, 0, none⟩) 3 (tri x1 y1 z1)) (hb2 : SlR w1 (some ⟨p2, 0, none⟩) 3 (tri x2 y2 z2)) (hs0 : SlR w1 a0 N0 c0) (hs1 : SlR w1 a1 N1 c1) : HS32 W p0 x0 y0 z0 p1 x1 y1 z1 p2 x2 y2 z2 a0 N0 c0 a1 N1 c1 w1 := by
  obtain ⟨u0, v0, t0⟩ := hb0.tri
  obtain ⟨u1, v1, t1⟩ := hb1.tri
  obtain ⟨u2, v2, t2⟩ := hb2.tri
  exact ⟨⟨u0, v0, t0, u1, v1, t1, u2, v2, t2⟩, Lib.hid ⟨hB, hb0, hb1, hb2, hs0, hs1⟩⟩
theorem HS32.next {W w1 w2 : World} {p0 : Nat} {x0 y0 z0 : Value} {p1 : Nat} {x1 y1 z1 : Value} {p2 : Nat} {x2 y2 z2 : Value} {a0 : Option Addr} {N0 : Nat} {c0 : Nat → Value} {a1 : Option Addr} {N1 : Nat} {c1 : Nat → Value} (h : HS32 W p0 x0 y0 z0 p1 x1 y1 z1 p2 x2 y2 z2 a0 N0 c0 a1 N1 c1 w1) (hb : Below w1.heap.size w1 w2) : HS32 W p0 x0 y0 z0 p1 x1 y1 z1 p2 x2 y2 z2 a0 N0 c0 a1 N1 c1 w2 := by
  obtain ⟨_, h⟩ := h
  obtain ⟨hB, k0, k1, k2, s0, s1⟩ := h.out
  exact .mk (hB.trans (hb.mono hB.size)) (k0.below hb) (k1.below hb) (k2.below hb) (s0.below hb) (s1.below hb)
def HS33 (W : World) (p0 : Nat) (x0 y0 z0 : Value) (p1 : Nat) (x1 y1 z1 : Value) (p2 : Nat) (x2 y2 z2 : Value) (a0 : Option Addr) (N0 : Nat) (c0 : Nat → Value) (a1 : Option Addr) (N1 : Nat) (c1 : Nat → Value) (a2 : Option Addr) (N2 : Nat) (c2 : Nat → Value) (w' : World) : Prop :=
  (w'.cell? ⟨p0, 0, none⟩ = some x0 ∧ w'.cell? ⟨p0, 1, none⟩ = some y0 ∧ w'.cell? ⟨p0, 2, none⟩ = some z0 ∧ w'.cell? ⟨p1, 0, none⟩ = some x1 ∧ w'.cell? ⟨p1, 1, none⟩ = some y1 ∧ w'.cell? ⟨p1, 2, none⟩ = some z1 ∧ w'.cell? ⟨p2, 0, none⟩ = some x2 ∧ w'.cell? ⟨p2, 1, none⟩ = some y2 ∧ w'.cell? ⟨p2, 2, none⟩ = some z2) ∧ Hid (Below W.heap.size W w' ∧ SlR w' (some ⟨p0, 0, none⟩) 3 (tri x0 y0 z0) ∧ SlR w' (some ⟨p1, 0, none⟩) 3 (tri x1 y1 z1) ∧ SlR w' (some ⟨p2, 0, none⟩) 3 (tri x2 y2 z2) ∧ SlR w' a0 N0 c0 ∧ SlR w' a1 N1 c1 ∧ SlR w' a2 N2 c2)
theorem HS33.mk {W w1 : World} {p0 : Nat} {x0 y0 z0 : Value} {p1 : Nat} {x1 y1 z1 : Value} {p2 : Nat} {x2 y2 z2 : Value} {a0 : Option Addr} {N0 : Nat} {c0 : Nat → Value} {a1 : Option Addr} {N1 : Nat} {c1 : Nat → Value} {a2 : Option Addr} {N2 : Nat} {c2 : Nat → Value} (hB : Below W.heap.size W w1) (hb0 : SlR w1 (some ⟨p0, 0, none⟩) 3 (tri x0 y0 z0)) (hb1 : SlR w1 (some ⟨p1, 0, none⟩) 3 (tri x1 y1 z1)) (hb2 : SlR w1 (some ⟨p2, 0, none⟩) 3 (tri x2 y2 z2)) (hs0 : SlR w1 a0 N0 c0) (hs1 : SlR w1 a1 N1 c1) (hs2 : SlR w1 a2 N2 c2) : HS33 W p0 x0 y0 z0 p1 x1 y1 z1 p2 x2 y2 z2 a0 N0 c0 a1 N1 c1 a2 N2 c2 w1 := by
  obtain ⟨u0, v0, t0⟩ := hb0.tri
  obtain ⟨u1, v1, t1⟩ := hb1.tri
  obtain ⟨u2, v2, t2⟩ := hb2.tri
  exact ⟨⟨u0, v0, t0, u1, v1, t1, u2, v2, t2⟩, Lib.hid ⟨hB, hb0, hb1, hb2, hs0, hs1, hs2⟩⟩
theorem HS33.next {W w1 w2 : World} {p0 : Nat} {x0 y0 z0 : Value} {p1 : Nat} {x1 y1 z1 : Value} {p2 : Nat} {x2 y2 z2 : Value} {a0 : Option Addr} {N0 : Nat} {c0 : Nat → Value} {a1 : Option Addr} {N1 : Nat} {c1 : Nat → Value} {a2 : Option Addr} {N2 : Nat} {c2 : Nat → Value} (h : HS33 W p0 x0 y0 z0 p1 x1 y1 z1 p2 x2 y2 z2 a0 N0 c0 a1 N1 c1 a2 N2 c2 w1) (hb : Below w1.heap.size w1 w2) : HS33 W p0 x0 y0 z0 p1 x1 y1 z1 p2 x2 y2 z2 a0 N0 c0 a1 N1 c1 a2 N2 c2 w2 := by
  obtain ⟨_, h⟩ := h
  obtain ⟨hB, k0, k1, k2, s0, s1, s2⟩ := h.out
  exact .mk (hB.trans (hb.mono hB.size)) (k0.below hb) (k1.below hb) (k2.below hb) (s0.below hb) (s1.below hb) (s2.below hb)
def HS40 (W : World) (p0 : Nat) (x0 y0 z0 : Value) (p1 : Nat) (x1 y1 z1 : Value) (p2 : Nat) (x2 y2 z2 : Value) (p3 : Nat) (x3 y3 z3 : Value)  (w' : World) : Prop :=
  (w'.cell? ⟨p0, 0, none⟩ = some x0 ∧ w'.cell? ⟨p0, 1, none⟩ = some y0 ∧ w'.cell? ⟨p0, 2, none⟩ = some z0 ∧ w'.cell? ⟨p1, 0, none⟩ = some x1 ∧ w'.cell? ⟨p1, 1, none⟩ = some y1 ∧ w'.cell? ⟨p1, 2, none⟩ = some z1 ∧ w'.cell? ⟨p2, 0, none⟩ = some x2 ∧ w'.cell? ⟨p2, 1, none⟩ = some y2 ∧ w'.cell? ⟨p2, 2, none⟩ = some z2 ∧ w'.cell? ⟨p3, 0, none⟩ = some x3 ∧ w'.cell? ⟨p3, 1, none⟩ = some y3 ∧ w'.cell? ⟨p3, 2, none⟩ = some z3) ∧ Hid (Below W.heap.size W w' ∧ SlR w' (some ⟨p0, 0, none⟩) 3 (tri x0 y0 z0) ∧ SlR w' (some ⟨p1, 0, none⟩) 3 (tri x1 y1 z1) ∧ SlR w' (some ⟨p2, 0, none⟩) 3 (tri x2 y2 z2) ∧ SlR w' (some ⟨p3, 0, none⟩) 3 (tri x3 y3 z3))
theorem HS40.mk {W w1 : World} {p0 : Nat} {x0 y0 z0 : Value} {p1 : Nat} {x1 y1 z1 : Value} {p2 : Nat} {x2 y2 z2 : Value} {p3 : Nat} {x3 y3 z3 : Value}  (hB : Below W.heap.size W w1) (hb0 : SlR w1 (some ⟨p0, 0, none⟩) 3 (tri x0 y0 z0)) (hb1 : SlR w1 (some ⟨p1, 0, none⟩) 3 (tri x1 y1 z1)) (hb2 : SlR w1 (some ⟨p2, 0, none⟩) 3 (tri x2 y2 z2)) (hb3 : SlR w1 (some ⟨p3, 0, none⟩) 3 (tri x3 y3 z3))  : HS40 W p0 x0 y0 z0 p1 x1 y1 z1 p2 x2 y2 z2 p3 x3 y3 z3  w1 := by
  obtain ⟨u0, v0, t0⟩ := hb0.tri
  obtain ⟨u1, v1, t1⟩ := hb1.tri
  obtain ⟨u2, v2, t2⟩ := hb2.tri
  obtain ⟨u3, v3, t3⟩ := hb3.tri
  exact ⟨⟨u0, v0, t0, u1, v1, t1, u2, v2, t2, u3, v3, t3⟩, Lib.hid ⟨hB, hb0, hb1, hb2, hb3⟩⟩
theorem HS40.next {W w1 w2 : World} {p0 : Nat} {x0 y0 z0 : Value} {p1 : Nat} {x1 y1 z1 : Value} {p2 : Nat} {x2 y2 z2 : Value} {p3 : Nat} {x3 y3 z3 : Value}  (h : HS40 W p0 x0 y0 z0 p1 x1 y1 z1 p2 x2 y2 z2 p3 x3 y3 z3  w1) (hb : Below w1.heap.size w1 w2) : HS40 W p0 x0 y0 z0 p1 x1 y1 z1 p2 x2 y2 z2 p3 x3 y3 z3  w2 := by
  obtain ⟨_, h⟩ := h
  obtain ⟨hB, k0, k1, k2, k3⟩ := h.out
  exact .mk (hB.trans (hb.mono hB.size)) (k0.below hb) (k1.below hb) (k2.below hb) (k3.below hb)
def HS41 (W : World) (p0 : Nat) (x0 y0 z0 : Value) (p1 : Nat) (x1 y1 z1 : Value) (p2 : Nat) (x2 y2 z2 : Value) (p3 : Nat) (x3 y3 z3 : Value) (a0 : Option Addr) (N0 : Nat) (c0 : Nat → Value) (w' : World) : Prop :=
  (w'.cell? ⟨p0, 0, none⟩ = some x0 ∧ w'.cell? ⟨p0, 1, none⟩ = some y0 ∧ w'.cell? ⟨p0, 2, none⟩ = some z0 ∧ w'.cell? ⟨p1, 0, none⟩ = some x1 ∧ w'.cell? ⟨p1, 1, none⟩ = some y1 ∧ w'.cell? ⟨p1, 2, none⟩ = some z1 ∧ w'.cell? ⟨p2, 0, none⟩ = some x2 ∧ w'.cell? ⟨p2, 1, none⟩ = some y2 ∧ w'.cell? ⟨p2, 2, none⟩ = some z2 ∧ w'.cell? ⟨p3, 0, none⟩ = some x3 ∧ w'.cell? ⟨p3, 1, none⟩ = some y3 ∧ w'.cell? ⟨p3, 2, none⟩ = some z3) ∧ Hid (Below W.heap.size W w' ∧ SlR w' (some ⟨p0, 0, none⟩) 3 (tri x0 y0 z0) ∧ SlR w' (some ⟨p1, 0, none⟩) 3 (tri x1 y1 z1) ∧ SlR w' (some ⟨p2, 0, none⟩) 3 (tri x2 y2 z2) ∧ SlR w' (some ⟨p3, 0, none⟩) 3 (tri x3 y3 z3) ∧ SlR w' a0 N0 c0)
theorem HS41.mk {W w1 : World} {p0 : Nat} {x0 y0 z0 : Value} {p1 : Nat} {x1 y1 z1 : Value} {p2 : Nat} {x2 y2 z2 : Value} {p3 : Nat} {x3 y3 z3 : Value} {a0 : Option Addr} {N0 : Nat} {c0 : Nat → Value} (hB : Below W.heap.size W w1) (hb0 : SlR w1 (some ⟨p0, 0, none⟩) 3 (tri x0 y0 z0)) (hb1 : SlR w1 (some ⟨p1, 0, none⟩) 3 (tri x1 y1 z1)) (hb2 : SlR w1 (some ⟨p2, 0, none⟩) 3 (tri x2 y2 z2)) (hb3 : SlR w1 (some ⟨p3, 0, none⟩) 3 (tri x3 y3 z3)) (hs0 : SlR w1 a0 N0 c0) : HS41 W p0 x0 y0 z0 p1 x1 y1 z1 p2 x2 y2 z2 p3 x3 y3 z3 a0 N0 c0 w1 := by
  obtain ⟨u0, v0, t0⟩ := hb0.tri
  obtain ⟨u1, v1, t1⟩ := hb1.tri
  obtain ⟨u2, v2, t2⟩ := hb2.tri
  obtain ⟨u3, v3, t3⟩ := hb3.tri
  exact ⟨⟨u0, v0, t0, u1, v1, t1, u2, v2, t2, u3, v3, t3⟩, Lib.hid ⟨hB, hb0, hb1, hb2, hb3, hs0⟩⟩
theorem HS41.next {W w1 w2 : World} {p0 : Nat} {x0 y0 z0 : Value} {p1 : Nat} {x1 y1 z1 : Value} {p2 : Nat} {x2 y2 z2 : Value} {p3 : Nat} {x3 y3 z3 : Value} {a0 : Option Addr} {N0 : Nat} {c0 : Nat → Value} (h : HS41 W p0 x0 y0 z0 p1 x1 y1 z1 p2 x2 y2 z2 p3 x3 y3 z3 a0 N0 c0 w1) (hb : Below w1.heap.size w1 w2) : HS41 W p0 x0 y0 z0 p1 x1 y1 z1 p2 x2 y2 z2 p3 x3 y3 z3 a0 N0 c0 w2 := by
  obtain ⟨_, h⟩ := h
  obtain ⟨hB, k0, k1, k2, k3, s0⟩ := h.out
  exact .mk (hB.trans (hb.mono hB.size)) (k0.below hb) (k1.below hb) (k2.below hb) (k3.below hb) (s0.below hb)
def HS42 (W : World) (p0 : Nat) (x0 y0 z0 : Value) (p1 : Nat) (x1 y1 z1 : Value) (p2 : Nat) (x2 y2 z2 : Value) (p3 : Nat) (x3 y3 z3 : Value) (a0 : Option Addr) (N0 : Nat) (c0 : Nat → Value) (a1 : Option Addr) (N1 : Nat) (c1 : Nat → Value) (w' : World) : Prop :=
  (w'.cell? ⟨p0, 0, none⟩ = some x0 ∧ w'.cell? ⟨p0, 1, none⟩ = some y0 ∧ w'.cell? ⟨p0, 2, none⟩ = some z0 ∧ w'.cell? ⟨p1, 0, none⟩ = some x1 ∧ w'.cell? ⟨p1, 1, none⟩ = some y1 ∧ w'.cell? ⟨p1, 2, none⟩ = some z1 ∧ w'.cell? ⟨p2, 0, none⟩ = some x2 ∧ w'.cell? ⟨p2, 1, none⟩ = some y2 ∧ w'.cell? ⟨p2, 2, none⟩ = some z2 ∧ w'.cell? ⟨p3, 0, none⟩ = some x3 ∧ w'.cell? ⟨p3, 1, none⟩ = some y3 ∧ w'.cell? ⟨p3, 2, none⟩ = some z3) ∧ Hid (Below W.heap.size W w' ∧ SlR w' (some ⟨p0, 0, none⟩) 3 (tri x0 y0 z0) ∧ SlR w' (some ⟨p1, 0, none⟩) 3 (tri x1 y1 z1) ∧ SlR w' (some ⟨p2, 0, none⟩) 3 (tri x2 y2 z2) ∧ SlR w' (some ⟨p3, 0, none⟩) 3 (tri x3 y3 z3) ∧ SlR w' a0 N0 c0 ∧ SlR w' a1 N1 c1)
theorem HS42.mk {W w1 : World} {p0 : Nat} {x0 y0 z0 : Value} {p1 : Nat} {x1 y1 z1 : Value} {p2 : Nat} {x2 y2 z2 : Value} {p3 : Nat} {x3 y3 z3 : Value} {a0 : Option Addr} {N0 : Nat} {c0 : Nat → Value} {a1 : Option Addr} {N1 : Nat} {c1 : Nat → Value} (hB : Below W.heap.size W w1) (hb0 : SlR w1 (some ⟨p0, 0, none⟩) 3 (tri x0 y0 z0)) (hb1 : SlR w1 (some ⟨p1, 0, none⟩) 3 (tri x1 y1 z1)) (hb2 : SlR w1 (some ⟨p2, 0, none⟩) 3 (tri x2 y2 z2)) (hb3 : SlR w1 (some ⟨p3, 0, none⟩) 3 (tri x3 y3 z3)) (hs0 : SlR w1 a0 N0 c0) (hs1 : SlR w1 a1 N1 c1) : HS42 W p0 x0 y0 z0 p1 x1 y1 z1 p2 x2 y2 z2 p3 x3 y3 z3 a0 N0 c0 a1 N1 c1 w1 := by
  obtain ⟨u0, v0, t0⟩ := hb0.tri
  obtain ⟨u1, v1, t1⟩ := hb1.tri
  obtain ⟨u2, v2, t2⟩ := hb2.tri
  obtain ⟨u3, v3, t3⟩ := hb3.tri
  exact ⟨⟨u0, v0, t0, u1, v1, t1, u2, v2, t2, u3, v3, t3⟩, Lib.hid ⟨hB, hb0, hb1, hb2, hb3, hs0, hs1⟩⟩
theorem HS42.next {W w1 w2 : World} {p0 : Nat} {x0 y0 z0 : Value} {p1 : Nat} {x1 y1 z1 : Value} {p2 : Nat} {x2 y2 z2 : Value} {p3 : Nat} {x3 y3 z3 : Value} {a0 : Option Addr} {N0 : Nat} {c0 : Nat → Value} {a1 : Option Addr} {N1 : Nat} {c1 : Nat → Value} (h : HS42 W p0 x0 y0 z0 p1 x1 y1 z1 p2 x2 y2 z2 p3 x3 y3 z3 a0 N0 c0 a1 N1 c1 w1) (hb : Below w1.heap.size w1 w2) : HS42 W p0 x0 y0 z0 p1 x1 y1 z1 p2 x2 y2 z2 p3 x3 y3 z3 a0 N0 c0 a1 N1 c1 w2 := by
  obtain ⟨_, h⟩ := h
  obtain ⟨hB, k0, k1, k2, k3, s0, s1⟩ := h.out
  exact .mk (hB.trans (hb.mono hB.size)) (k0.below hb) (k1.below hb) (k2.below hb) (k3.below hb) (s0.below hb) (s1.below hb)
def HS43 (W : World) (p0 : Nat) (x0 y0 z0 : Value) (p1 : Nat) (x1 y1 z1 : Value) (p2 : Nat) (x2 y2 z2 : Value) (p3 : Nat) (x3 y3 z3 : Value) (a0 : Option Addr) (N0 : Nat) (c0 : Nat → Value) (a1 : Option Addr) (N1 : Nat) (c1 : Nat → Value) (a2 : Option Addr) (N2 : Nat) (c2 : Nat → Value) (w' : World) : Prop :=
  (w'.cell? ⟨p0, 0, none⟩ = some x0 ∧ w'.cell? ⟨p0, 1, none⟩ = some y0 ∧ w'.cell? ⟨p0, 2, none⟩ = some z0 ∧ w'.cell? ⟨p1, 0, none⟩ = some x1 ∧ w'.cell? ⟨p1, 1, none⟩ = some y1 ∧ w'.cell? ⟨p1, 2, none⟩ = some z1 ∧ w'.cell? ⟨p2, 0, none⟩ = some x2 ∧ w'.cell? ⟨p2, 1, none⟩ = some y2 ∧ w'.cell? ⟨p2, 2, none⟩ = some z2 ∧ w'.cell? ⟨p3, 0, none⟩ = some x3 ∧ w'.cell? ⟨p3, 1, none⟩ = some y3 ∧ w'.cell? ⟨p3, 2, none⟩ = some z3) ∧ Hid (Below W.heap.size W w' ∧ SlR w' (some ⟨p0, 0, none⟩) 3 (tri x0 y0 z0) ∧ SlR w' (some ⟨p1, 0, none⟩) 3 (tri x1 y1 z1) ∧ SlR w' (some ⟨p2, 0, none⟩) 3 (tri x2 y2 z2) ∧ SlR w' (some ⟨p3, 0, none⟩) 3 (tri x3 y3 z3) ∧ SlR w' a0 N0 c0 ∧ SlR w' a1 N1 c1 ∧ SlR w' a2 N2 c2)
theorem HS43.mk {W w1 : World} {p0 : Nat} {x0 y0 z0 : Value} {p1 : Nat} {x1 y1 z1 : Value} {p2 : Nat} {x2 y2 z2 : Value} {p3 : Nat} {x3 y3 z3 : Value} {a0 : Option Addr} {N0 : Nat} {c0 : Nat → Value} {a1 : Option Addr} {N1 : Nat} {c1 : Nat → Value} {a2 : Option Addr} {N2 : Nat} {c2 : Nat → Value} (hB : Below W.heap.size W w1) (hb0 : SlR w1 (some ⟨p0, 0, none⟩) 3 (tri x0 y0 z0)) (hb1 : SlR w1 (some ⟨p1, 0, none⟩) 3 (tri x1 y1 z1)) (hb2 : SlR w1 (some ⟨p2, 0, none⟩) 3 (tri x2 y2 z2)) (hb3 : SlR w1 (some ⟨p3, 0, none⟩) 3 (tri x3 y3 z3)) (hs0 : SlR w1 a0 N0 c0) (hs1 : SlR w1 a1 N1 c1) (hs2 : SlR w1 a2 N2 c2) : HS43 W p0 x0 y0 z0 p1 x1 y1 z1 p2 x2 y2 z2 p3 x3 y3 z3 a0 N0 c0 a1 N1 c1 a2 N2 c2 w1 := by
  obtain ⟨u0, v0, t0⟩ := hb0.tri
  obtain ⟨u1, v1, t1⟩ := hb1.tri
  obtain ⟨u2, v2, t2⟩ := hb2.tri
  obtain ⟨u3, v3, t3⟩ := hb3.tri
  exact ⟨⟨u0, v0, t0, u1, v1, t1, u2, v2, t2, u3, v3, t3⟩, Lib.hid ⟨hB, hb0, hb1, hb2, hb3, hs0, hs1, hs2⟩⟩
theorem HS43.next {W w1 w2 : World} {p0 : Nat} {x0 y0 z0 : Value} {p1 : Nat} {x1 y1 z1 : Value} {p2 : Nat} {x2 y2 z2 : Value} {p3 : Nat} {x3 y3 z3 : Value} {a0 : Option Addr} {N0 : Nat} {c0 : Nat → Value} {a1 : Option Addr} {N1 : Nat} {c1 : Nat → Value} {a2 : Option Addr} {N2 : Nat} {c2 : Nat → Value} (h : HS43 W p0 x0 y0 z0 p1 x1 y1 z1 p2 x2 y2 z2 p3 x3 y3 z3 a0 N0 c0 a1 N1 c1 a2 N2 c2 w1) (hb : Below w1.heap.size w1 w2) : HS43 W p0 x0 y0 z0 p1 x1 y1 z1 p2 x2 y2 z2 p3 x3 y3 z3 a0 N0 c0 a1 N1 c1 a2 N2 c2 w2 := by
  obtain ⟨_, h⟩ := h
  obtain ⟨hB, k0, k1, k2, k3, s0, s1, s2⟩ := h.out
  exact .mk (hB.trans (hb.mono hB.size)) (k0.below hb) (k1.below hb) (k2.below hb) (k3.below hb) (s0.below hb) (s1.below hb) (s2.below hb)
end Go.Proofs.Yteghmdfiofbmiaa
