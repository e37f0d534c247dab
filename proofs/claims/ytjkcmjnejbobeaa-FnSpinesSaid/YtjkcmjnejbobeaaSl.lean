/-
  Slices of the call's own, nil or empty ones among them: N cells from the head of a block, or none. Plain facts on worlds; no program in sight.
  By an AI agent.
-/
import Derived.Test.YtjkcmjnejbobeaaMem
namespace Go.Proofs.Ytjkcmjnejbobeaa
open Go.ChangeShapes Go.WideShapes Go.ChangeAt Go.RowKit
set_option maxRecDepth 100000

/-- A slice at address a owns N cells c; where N is 0 nothing is said of the address. -/
def SlR (w : World) (a : Option Addr) (N : Nat) (c : Nat → Value) : Prop := N = 0 ∨ ∃ g, a = some ⟨g, 0, none⟩ ∧ Row w g N c
/-- .. its block is B or a later one. -/
def Fresh (B : Nat) (a : Option Addr) (N : Nat) : Prop := N = 0 ∨ ∃ g, a = some ⟨g, 0, none⟩ ∧ B ≤ g
/-- two slices share no block. -/
def Apart (a : Option Addr) (N : Nat) (b : Option Addr) (M : Nat) : Prop := N = 0 ∨ M = 0 ∨ ∃ g h, a = some ⟨g, 0, none⟩ ∧ b = some ⟨h, 0, none⟩ ∧ g ≠ h
/-- w' is w but for block g and new blocks. -/
structure OnlyB (g : Nat) (w w' : World) : Prop where
  os : w'.os = w.os
  tape : w'.tape = w.tape
  output : w'.output = w.output
  size : w.heap.size ≤ w'.heap.size
  block : ∀ k, k < w.heap.size → k ≠ g → w'.heap[k]? = w.heap[k]?
theorem Only.toB {g : Nat} {w w' : World} (h : Only g w w') : OnlyB g w w' := ⟨h.os, h.tape, h.output, Nat.le_of_eq h.size.symm, fun k _ hk => h.block k hk⟩
theorem OnlyB.refl (g : Nat) (w : World) : OnlyB g w w := ⟨rfl, rfl, rfl, Nat.le_refl _, fun _ _ _ => rfl⟩
theorem OnlyB.below {g : Nat} {w w' w2 : World} (h : OnlyB g w w') (hb : Below w'.heap.size w' w2) : OnlyB g w w2 :=
  ⟨hb.os.trans h.os, hb.tape.trans h.tape, hb.output.trans h.output, Nat.le_trans h.size hb.size, fun k hk hn => (hb.block k (Nat.lt_of_lt_of_le hk h.size)).trans (h.block k hk hn)⟩
theorem OnlyB.set {g : Nat} {w w' : World} (h : OnlyB g w w') (i : Nat) (v : Value) : OnlyB g w (w'.setCell ⟨g, i, none⟩ v) :=
  ⟨h.os, h.tape, h.output, by simpa using h.size, fun k hk hn => (Below.heap_setCell w' ⟨g, i, none⟩ v k hn).trans (h.block k hk hn)⟩
/-- w' is w but for the slice's cells and new blocks. -/
def Marked (a : Option Addr) (N : Nat) (w w' : World) : Prop := (N = 0 ∧ Below w.heap.size w w') ∨ (0 < N ∧ ∃ g, a = some ⟨g, 0, none⟩ ∧ OnlyB g w w')

section
variable {w w' : World} {a b : Option Addr} {N M B : Nat} {c d : Nat → Value}
theorem SlR.below (h : SlR w a N c) (hb : Below w.heap.size w w') : SlR w' a N c := by
  rcases h with h | ⟨g, ha, hr⟩
  · exact .inl h
  · exact .inr ⟨g, ha, hr.below hb hr.lt⟩
theorem SlR.congr (h : SlR w a N c) (hc : ∀ i, i < N → c i = d i) : SlR w a N d := by
  rcases h with h | ⟨g, ha, hr⟩
  · exact .inl h
  · exact .inr ⟨g, ha, hr.congr hc⟩
theorem SlR.row (h : SlR w a N c) (h0 : 0 < N) : ∃ g, a = some ⟨g, 0, none⟩ ∧ Row w g N c := by
  rcases h with h | h
  · omega
  · exact h
theorem SlR.of_row {g : Nat} (h : Row w g N c) : SlR w (some ⟨g, 0, none⟩) N c := .inr ⟨g, rfl, h⟩
theorem SlR.zero (w : World) (a : Option Addr) (c : Nat → Value) : SlR w a 0 c := .inl rfl
theorem Fresh.of {g : Nat} (h : B ≤ g) : Fresh B (some ⟨g, 0, none⟩) N := .inr ⟨g, rfl, h⟩
theorem Fresh.zero (a : Option Addr) : Fresh B a 0 := .inl rfl
theorem Fresh.mono {B' : Nat} (h : Fresh B a N) (hB : B' ≤ B) : Fresh B' a N := by
  rcases h with h | ⟨g, ha, hg⟩
  · exact .inl h
  · exact .inr ⟨g, ha, Nat.le_trans hB hg⟩
theorem SlR.apart (h : SlR w a N c) (f : Fresh w.heap.size b M) : Apart a N b M := by
  rcases h with h | ⟨g, ha, hr⟩
  · exact .inl h
  · rcases f with f | ⟨k, hb, hk⟩
    · exact .inr (.inl f)
    · exact .inr (.inr ⟨g, k, ha, hb, Nat.ne_of_lt (Nat.lt_of_lt_of_le hr.lt hk)⟩)
theorem Apart.symm (h : Apart a N b M) : Apart b M a N := by
  rcases h with h | h | ⟨g, k, ha, hb, hn⟩
  · exact .inr (.inl h)
  · exact .inl h
  · exact .inr (.inr ⟨k, g, hb, ha, Ne.symm hn⟩)
theorem Marked.size (h : Marked b M w w') : w.heap.size ≤ w'.heap.size := by
  rcases h with ⟨_, h⟩ | ⟨_, _, _, h⟩
  · exact h.size
  · exact h.size
theorem Marked.keep (h : Marked b M w w') (hr : SlR w a N c) (hp : Apart a N b M) : SlR w' a N c := by
  rcases h with ⟨_, h⟩ | ⟨h0, k, hb, ho⟩
  · exact hr.below h
  · rcases hr with hN | ⟨g, ha, hr⟩
    · exact .inl hN
    · rcases hp with hp | hp | ⟨g', k', ha', hb', hn⟩
      · exact .inl hp
      · omega
      · rw [ha] at ha'; rw [hb] at hb'
        simp only [Option.some.injEq, Addr.mk.injEq] at ha' hb'
        refine .inr ⟨g, ha, hr.of_heap (ho.block g hr.lt (by omega))⟩
theorem Marked.below (h : Marked a N w w') (f : Fresh B a N) (hB : B ≤ w.heap.size) : Below B w w' := by
  rcases h with ⟨_, h⟩ | ⟨h0, g, ha, ho⟩
  · exact h.mono hB
  · rcases f with f | ⟨k, hk, hk'⟩
    · omega
    · rw [ha] at hk
      simp only [Option.some.injEq, Addr.mk.injEq] at hk
      exact ⟨ho.os, ho.tape, ho.output, ho.size, fun j hj => ho.block j (by omega) (by omega)⟩
theorem Marked.before {w0 : World} (h : Marked a N w w') (hb : Below w0.heap.size w0 w) : Marked a N w0 w' := by
  rcases h with ⟨h0, h⟩ | ⟨h0, g, ha, ho⟩
  · exact .inl ⟨h0, hb.trans (h.mono hb.size)⟩
  · exact .inr ⟨h0, g, ha, ⟨ho.os.trans hb.os, ho.tape.trans hb.tape, ho.output.trans hb.output, Nat.le_trans hb.size ho.size, fun k hk hn => (ho.block k (Nat.lt_of_lt_of_le hk hb.size) hn).trans (hb.block k hk)⟩⟩
end
/-- Three cells. -/
def tri (x y z : Value) (i : Nat) : Value := if i = 0 then x else if i = 1 then y else z
theorem SlR.tri {w : World} {b : Nat} {x y z : Value} (h : SlR w (some ⟨b, 0, none⟩) 3 (tri x y z)) :
    w.cell? ⟨b, 0, none⟩ = some x ∧ w.cell? ⟨b, 1, none⟩ = some y ∧ w.cell? ⟨b, 2, none⟩ = some z := by
  obtain ⟨g, hg, r⟩ := h.row (by omega)
  simp only [Option.some.injEq, Addr.mk.injEq] at hg
  obtain ⟨rfl, _, _⟩ := hg
  exact ⟨r.cell (i := 0) (by omega), r.cell (i := 1) (by omega), r.cell (i := 2) (by omega)⟩
theorem SlR.box (w : World) (x y z : Value) (e : TypeId) : SlR (w.alloc (.cells #[x, y, z] e (0, 0))) (some ⟨w.heap.size, 0, none⟩) 3 (Go.Proofs.Ytjkcmjnejbobeaa.tri x y z) :=
  .of_row ((Row.of_new w #[x, y, z] e).congr fun i hi => by
    have : i = 0 ∨ i = 1 ∨ i = 2 := by simp at hi; omega
    rcases this with rfl | rfl | rfl <;> rfl)
theorem Below.box (w : World) (o : Obj) : Below w.heap.size w (w.alloc o) := (Below.refl _ _).alloc (Nat.le_refl _) o
/-- Two structs of three cells in memory, a slice of the call's own, and nothing below W's size turned: what a region holds that loads both structs beside a call that makes memory. -/
def CS (W : World) (p : Nat) (px py pz : Value) (q : Nat) (qx qy qz : Value) (aX : Option Addr) (N : Nat) (cX : Nat → Value) (w' : World) : Prop :=
  (w'.cell? ⟨p, 0, none⟩ = some px ∧ w'.cell? ⟨p, 1, none⟩ = some py ∧ w'.cell? ⟨p, 2, none⟩ = some pz ∧
   w'.cell? ⟨q, 0, none⟩ = some qx ∧ w'.cell? ⟨q, 1, none⟩ = some qy ∧ w'.cell? ⟨q, 2, none⟩ = some qz) ∧ Hid (Below W.heap.size W w' ∧ SlR w' aX N cX ∧ SlR w' (some ⟨p, 0, none⟩) 3 (tri px py pz) ∧ SlR w' (some ⟨q, 0, none⟩) 3 (tri qx qy qz))
section
variable {W w1 w2 : World} {p q N : Nat} {px py pz qx qy qz : Value} {aX : Option Addr} {cX : Nat → Value}
theorem CS.mk (hB : Below W.heap.size W w1) (hX : SlR w1 aX N cX) (hP : SlR w1 (some ⟨p, 0, none⟩) 3 (tri px py pz)) (hQ : SlR w1 (some ⟨q, 0, none⟩) 3 (tri qx qy qz)) : CS W p px py pz q qx qy qz aX N cX w1 := by
  obtain ⟨a, b, c⟩ := hP.tri
  obtain ⟨d, e, f⟩ := hQ.tri
  exact ⟨⟨a, b, c, d, e, f⟩, Lib.hid ⟨hB, hX, hP, hQ⟩⟩
theorem CS.next (h : CS W p px py pz q qx qy qz aX N cX w1) (hb : Below w1.heap.size w1 w2) : CS W p px py pz q qx qy qz aX N cX w2 :=
  CS.mk (h.2.out.1.trans (hb.mono h.2.out.1.size)) (h.2.out.2.1.below hb) (h.2.out.2.2.1.below hb) (h.2.out.2.2.2.below hb)
end
/-- As CS, with one struct. -/
def CB (W : World) (p : Nat) (px py pz : Value) (aX : Option Addr) (N : Nat) (cX : Nat → Value) (w' : World) : Prop :=
  (w'.cell? ⟨p, 0, none⟩ = some px ∧ w'.cell? ⟨p, 1, none⟩ = some py ∧ w'.cell? ⟨p, 2, none⟩ = some pz) ∧ Hid (Below W.heap.size W w' ∧ SlR w' aX N cX ∧ SlR w' (some ⟨p, 0, none⟩) 3 (tri px py pz))
section
variable {W w1 w2 : World} {p N : Nat} {px py pz : Value} {aX : Option Addr} {cX : Nat → Value}
theorem CB.mk (hB : Below W.heap.size W w1) (hX : SlR w1 aX N cX) (hP : SlR w1 (some ⟨p, 0, none⟩) 3 (tri px py pz)) : CB W p px py pz aX N cX w1 := ⟨hP.tri, Lib.hid ⟨hB, hX, hP⟩⟩
theorem CB.next (h : CB W p px py pz aX N cX w1) (hb : Below w1.heap.size w1 w2) : CB W p px py pz aX N cX w2 :=
  CB.mk (h.2.out.1.trans (hb.mono h.2.out.1.size)) (h.2.out.2.1.below hb) (h.2.out.2.2.below hb)
end
end Go.Proofs.Ytjkcmjnejbobeaa
