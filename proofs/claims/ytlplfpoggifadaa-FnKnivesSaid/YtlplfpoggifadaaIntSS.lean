/-
  Lists of lists of numbers of the call's own: contracts of eqIntSS, markIntSS and heldIntSS of the laws' package.
  By an AI agent.
-/
import Derived.Test.YtlplfpoggifadaaReg
import Derived.Deep.QuietTactic
import Derived.BigQuiet
import Derived.Deep.RegionHeld3
namespace Go.Proofs.Ytlplfpoggifadaa
open Go.ChangeShapes Go.WideShapes Go.ChangeAt Go.RowKit
set_option maxRecDepth 100000
set_option linter.unusedVariables false

abbrev Rows := List (List Int)
def rowN (L : Rows) (i : Nat) : List Int := L.getD i []
def lenN (L : Rows) (i : Nat) : Nat := (rowN L i).length
def sumR (L : Rows) : Nat → Nat
  | 0 => 0
  | k + 1 => sumR L k + lenN L k
theorem sumR_mono (L : Rows) {k n : Nat} (h : k ≤ n) : sumR L k ≤ sumR L n := by
  induction n with
  | zero => have : k = 0 := by omega
            subst this; exact Nat.le_refl _
  | succ n ih =>
    by_cases e : k = n + 1
    · subst e; exact Nat.le_refl _
    · have := ih (by omega); show _ ≤ sumR L n + _; omega
/-- A slice of slices of the call's own. -/
def RSt (w : World) (a : Option Addr) (n : Nat) (L : Rows) : Prop := ∃ (α : Nat → Option Addr) (C : Nat → Nat), SlR w a n (fun i => .slice (α i) (lenN L i) (C i)) ∧ ∀ i, i < n → lenN L i ≤ C i ∧ SlR w (α i) (lenN L i) (ic (rowN L i))
theorem RSt.below {w w' : World} {a : Option Addr} {n : Nat} {L : Rows} (h : RSt w a n L) (hb : Below w.heap.size w w') : RSt w' a n L := by
  obtain ⟨α, C, h1, h2⟩ := h
  exact ⟨α, C, h1.below hb, fun i hi => ⟨(h2 i hi).1, (h2 i hi).2.below hb⟩⟩
theorem RSt.at {w : World} {a : Option Addr} {n : Nat} {L : Rows} (h : RSt w a n L) {i : Nat} (hi : i < n) : ∃ (g : Nat) (α : Option Addr) (C : Nat), a = some ⟨g, 0, none⟩ ∧ g < w.heap.size ∧ w.cell? ⟨g, i, none⟩ = some (.slice α (lenN L i) C) ∧ lenN L i ≤ C ∧ SlR w α (lenN L i) (ic (rowN L i)) := by
  obtain ⟨α, C, h1, h2⟩ := h
  obtain ⟨g, hg, hr⟩ := h1.row (by omega)
  exact ⟨g, α i, C i, hg, hr.lt, hr.cell hi, (h2 i hi).1, (h2 i hi).2⟩
/-- .. made by toStory: its rows in blocks of their own, all of them from lo up to hi. -/
def crow (A : Nat → Nat) (L : Rows) (i : Nat) : Value := .slice (some ⟨A i, 0, none⟩) (lenN L i) (lenN L i)
def OSt (w : World) (lo hi g n : Nat) (L : Rows) : Prop := (lo ≤ g ∧ g < hi) ∧ ∃ A : Nat → Nat, Row w g n (crow A L) ∧ ∀ i, i < n → (lo ≤ A i ∧ A i < hi ∧ A i ≠ g ∧ ∀ j, j < i → A j ≠ A i) ∧ Row w (A i) (lenN L i) (ic (rowN L i))
section
variable {w w' : World} {lo hi g n : Nat} {L : Rows}
theorem OSt.below (h : OSt w lo hi g n L) (hb : Below w.heap.size w w') : OSt w' lo hi g n L := by
  obtain ⟨h0, A, h1, h2⟩ := h
  exact ⟨h0, A, h1.below hb h1.lt, fun i hi => ⟨(h2 i hi).1, (h2 i hi).2.below hb (h2 i hi).2.lt⟩⟩
theorem OSt.rst (h : OSt w lo hi g n L) : RSt w (some ⟨g, 0, none⟩) n L := by
  obtain ⟨h0, A, h1, h2⟩ := h
  exact ⟨fun i => some ⟨A i, 0, none⟩, lenN L, .of_row h1, fun i hi => ⟨Nat.le_refl _, .of_row (h2 i hi).2⟩⟩
theorem OSt.lt (h : OSt w lo hi g n L) : g < w.heap.size := by obtain ⟨_, A, h1, _⟩ := h; exact h1.lt
end
section
variable {w w' : World} {g : Nat}
theorem Marked.row {b N M : Nat} {c : Nat → Value} (h : Marked (some ⟨b, 0, none⟩) N w w') (hr : Row w g M c) (hn : g ≠ b) : Row w' g M c := by
  rcases h with ⟨_, h⟩ | ⟨_, k, hk, h⟩
  · exact hr.below h hr.lt
  · simp only [Option.some.injEq, Addr.mk.injEq, and_true] at hk
    exact hr.of_heap (h.block g hr.lt (by omega))
end
def Two2 (W : World) (ga gb k : Nat) (x y : Value) (w' : World) : Prop := (w'.cell? ⟨ga, k, none⟩ = some x ∧ w'.cell? ⟨gb, k, none⟩ = some y) ∧ Hid (Below W.heap.size W w')
theorem Two2.next {W w1 w2 : World} {ga gb k : Nat} {x y : Value} (h : Two2 W ga gb k x y w1) (hb : Below w1.heap.size w1 w2) : Two2 W ga gb k x y w2 := by
  obtain ⟨⟨c0, d0⟩, hB⟩ := h
  exact ⟨⟨(hb.cell (p := ⟨ga, k, none⟩) (World.block_lt_of_cell? _ _ c0)).trans c0, (hb.cell (p := ⟨gb, k, none⟩) (World.block_lt_of_cell? _ _ d0)).trans d0⟩, Lib.hid (hB.out.trans (hb.mono hB.out.size))⟩
end Go.Proofs.Ytlplfpoggifadaa
