/-
  What a run of stores in a region of blocks keeps. Plain facts on worlds; no program in sight.
  By an AI agent.
-/
import Derived.Test.YtjkcmjnejbobeaaInts
namespace Go.Proofs.Ytjkcmjnejbobeaa
open Go.ChangeShapes Go.WideShapes Go.ChangeAt Go.RowKit
set_option maxRecDepth 100000
set_option linter.unusedVariables false

/-- w' is w but for the blocks from lo up to hi, and new blocks. -/
structure Reg (lo hi : Nat) (w w' : World) : Prop where
  os : w'.os = w.os
  tape : w'.tape = w.tape
  output : w'.output = w.output
  size : w.heap.size ≤ w'.heap.size
  block : ∀ k, k < w.heap.size → (k < lo ∨ hi ≤ k) → w'.heap[k]? = w.heap[k]?
section
variable {lo hi B N g : Nat} {w w' w2 : World} {a : Option Addr} {c d : Nat → Value}
theorem Reg.refl (lo hi : Nat) (w : World) : Reg lo hi w w := ⟨rfl, rfl, rfl, Nat.le_refl _, fun _ _ _ => rfl⟩
theorem Reg.trans (h : Reg lo hi w w') (h2 : Reg lo hi w' w2) : Reg lo hi w w2 :=
  ⟨h2.os.trans h.os, h2.tape.trans h.tape, h2.output.trans h.output, Nat.le_trans h.size h2.size, fun k hk hn => (h2.block k (Nat.lt_of_lt_of_le hk h.size) hn).trans (h.block k hk hn)⟩
theorem Reg.only (h : OnlyB g w w') (h1 : lo ≤ g) (h2 : g < hi) : Reg lo hi w w' := ⟨h.os, h.tape, h.output, h.size, fun k hk hn => h.block k hk (by omega)⟩
theorem Reg.ofBelow (h : Below w.heap.size w w') : Reg lo hi w w' := ⟨h.os, h.tape, h.output, h.size, fun k hk _ => h.block k hk⟩
theorem Reg.marked (h : Marked a N w w') (ha : ∀ g, a = some ⟨g, 0, none⟩ → lo ≤ g ∧ g < hi) : Reg lo hi w w' := by
  rcases h with ⟨_, h⟩ | ⟨_, g, hg, h⟩
  · exact .ofBelow h
  · exact .only h (ha g hg).1 (ha g hg).2
theorem Reg.set (h : Reg lo hi w w') (i : Nat) (v : Value) (h1 : lo ≤ g) (h2 : g < hi) : Reg lo hi w (w'.setCell ⟨g, i, none⟩ v) :=
  ⟨h.os, h.tape, h.output, by simpa using h.size, fun k hk hn => (Below.heap_setCell w' ⟨g, i, none⟩ v k (by show k ≠ g; omega)).trans (h.block k hk hn)⟩
theorem Reg.below (h : Reg lo hi w w') (hB : B ≤ lo) (hs : B ≤ w.heap.size) : Below B w w' := ⟨h.os, h.tape, h.output, h.size, fun k hk => h.block k (by omega) (.inl (by omega))⟩
theorem Reg.row (h : Reg lo hi w w') (hr : Row w g N c) (hn : g < lo ∨ hi ≤ g) : Row w' g N c := hr.of_heap (h.block g hr.lt hn)
/-- A slice that lay in memory before block lo was made. -/
theorem Reg.low {W : World} (h : Reg lo hi w w') (hr : SlR w a N c) (hW : SlR W a N d) (hs : W.heap.size ≤ lo) : SlR w' a N c := by
  rcases hr with h0 | ⟨g, ha, hr⟩
  · exact .inl h0
  · rcases hW with h0 | ⟨g', ha', hW⟩
    · exact .inl h0
    · rw [ha] at ha'
      simp only [Option.some.injEq, Addr.mk.injEq, and_true] at ha'
      have := hW.lt
      exact .inr ⟨g, ha, h.row hr (.inl (by omega))⟩
/-- A slice whose block came behind the region. -/
theorem Reg.high (h : Reg lo hi w w') (hr : SlR w a N c) (f : Fresh hi a N) : SlR w' a N c := by
  rcases hr with h0 | ⟨g, ha, hr⟩
  · exact .inl h0
  · rcases f with h0 | ⟨g', ha', hf⟩
    · exact .inl h0
    · rw [ha] at ha'
      simp only [Option.some.injEq, Addr.mk.injEq, and_true] at ha'
      exact .inr ⟨g, ha, h.row hr (.inr (by omega))⟩
end
/-- An integer list of the call's own, as the walks hand it back. -/
def GetL (L : List Int) (w : World) (e : Ending) (w' : World) : Prop := ∃ a c, e = .returned (.slice a L.length c) ∧ SlR w' a L.length (ic L) ∧ Fresh w.heap.size a L.length ∧ Below w.heap.size w w'
theorem GetL.nil {L : List Int} {w w' : World} (h : L = []) (hb : Below w.heap.size w w') (a : Option Addr) (c : Nat) : GetL L w (.returned (.slice a 0 c)) w' := by
  subst h; exact ⟨a, c, rfl, .inl rfl, .inl rfl, hb⟩
end Go.Proofs.Ytjkcmjnejbobeaa
