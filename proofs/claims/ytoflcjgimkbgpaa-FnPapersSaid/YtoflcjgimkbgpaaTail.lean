/-
  A region that draws its order, all of whose operations read, and whose callees leave all older blocks as they were: one walk, in the order of the text. No program in sight.
  By an AI agent.
-/
import Derived.Test.YtoflcjgimkbgpaaSl
import Derived.Deep.QuietTactic
import Derived.BigQuiet
namespace Go.Proofs.Ytoflcjgimkbgpaa
open Go.ChangeShapes Go.WideShapes Go.ChangeAt Go.RowKit
set_option linter.unusedVariables false

/-- A world that holds what W holds, and perhaps more. -/
structure WB (W : World) where
  x : World
  b : Below W.heap.size W x
instance (W : World) : Nonempty (WB W) := ⟨⟨W, Below.refl _ _⟩⟩
theorem WB.cell {W : World} (i : WB W) {p : Addr} {v : Value} (h : W.cell? p = some v) : i.x.cell? p = some v :=
  (i.b.cell (World.block_lt_of_cell? _ _ h)).trans h
theorem wp_quietB {P : Program} {id : Nat} {Q : Exit → Act → World → Prop} {a : Act} {w : World} {l : List Oper} (hm : P.follows .mixedOrders = true) (hB : Region.lexB .any l.toArray = true)
    (h : wpQuiet P l.toArray (fun x => ∃ i : WB w, x = i.x) (fun a' => ∀ x, (∃ i : WB w, x = i.x) → Q .normal a' x) l a) : (Code.region id l.toArray true).wp P Q a w :=
  wp_region_quiet (C := fun x => ∃ i : WB w, x = i.x) hm hB ⟨⟨_, (Below.refl _ _).drew⟩, rfl⟩ (by simpa using h)
theorem quietB {P : Program} {f : FuncId} {args : Array Value} {W : World} {v : Value} {i : WB W} (h : Calls P f args i.x fun e w' => e = .returned v ∧ Below i.x.heap.size i.x w') :
    Calls P f args i.x fun e w'' => e = .returned v ∧ ∃ j : WB W, w'' = j.x :=
  h.mono fun _ _ ⟨he, hb⟩ => ⟨he, ⟨_, i.b.trans (hb.mono i.b.size)⟩, rfl⟩
theorem quietE {P : Program} {f : FuncId} {args : Array Value} {W : World} {v : Value} {i : WB W} (h : Calls P f args i.x fun e w' => e = .returned v ∧ i.x = w') :
    Calls P f args i.x fun e w'' => e = .returned v ∧ ∃ j : WB W, w'' = j.x :=
  h.mono fun _ _ ⟨he, hb⟩ => ⟨he, i, hb.symm⟩
theorem quietV {P : Program} {f : FuncId} {args : Array Value} {W : World} {v u : Value} {i : WB W} (huv : u = v) (h : Calls P f args i.x fun e w' => e = .returned u ∧ Below i.x.heap.size i.x w') :
    Calls P f args i.x fun e w'' => e = .returned v ∧ ∃ j : WB W, w'' = j.x := by subst huv; exact quietB h
end Go.Proofs.Ytoflcjgimkbgpaa
