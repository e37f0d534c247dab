/-
  A region that draws its order, all of whose operations read, and whose callees leave all older blocks as they were: one walk, in the order of the text. No program in sight.
  By an AI agent.
-/
import Derived.Test.YtjkcmjnejbobeaaSl
import Derived.StillTail
import Derived.Deep.QuietTactic
import Derived.BigQuiet
namespace Go.Proofs.Ytjkcmjnejbobeaa
open Go.ChangeShapes Go.WideShapes Go.ChangeAt Go.RowKit
set_option linter.unusedVariables false

/-- A world that holds what W holds, and perhaps more. -/
structure WB (W : World) where
  x : World
  b : Below W.heap.size W x
instance (W : World) : Nonempty (WB W) := ⟨⟨W, Below.refl _ _⟩⟩
theorem WB.cell {W : World} (i : WB W) {p : Addr} {v : Value} (h : W.cell? p = some v) : i.x.cell? p = some v :=
  (i.b.cell (World.block_lt_of_cell? _ _ h)).trans h
theorem wp_quietB {P : Program} {id : Nat} {Q : Exit → Act → World → Prop} {a : Act} {w : World} {l : List Oper} (hm : P.follows .mixedOrders = true) (hB : Region.lexB .any l.toArray = true)
    (h : wpQuiet P l.toArray (fun x => ∃ i : WB w, x = i.x) (fun a' => ∀ x, (∃ i : WB w, x = i.x) → Q .normal a' x) l a) : (Code.region id l.toArray true).wp P Q a w :=
  wp_region_quiet (C := fun x => ∃ i : WB w, x = i.x) hm hB ⟨⟨_, (Below.refl _ _).drew⟩, rfl⟩ (by simpa using h)
theorem quietB {P : Program} {f : FuncId} {args : Array Value} {W : World} {v : Value} {i : WB W} (h : Calls P f args i.x fun e w' => e = .returned v ∧ Below i.x.heap.size i.x w') :
    Calls P f args i.x fun e w'' => e = .returned v ∧ ∃ j : WB W, w'' = j.x :=
  h.mono fun _ _ ⟨he, hb⟩ => ⟨he, ⟨_, i.b.trans (hb.mono i.b.size)⟩, rfl⟩
theorem quietE {P : Program} {f : FuncId} {args : Array Value} {W : World} {v : Value} {i : WB W} (h : Calls P f args i.x fun e w' => e = .returned v ∧ i.x = w') :
    Calls P f args i.x fun e w'' => e = .returned v ∧ ∃ j : WB W, w'' = j.x :=
  h.mono fun _ _ ⟨he, hb⟩ => ⟨he, i, hb.symm⟩
theorem quietV {P : Program} {f : FuncId} {args : Array Value} {W : World} {v u : Value} {i : WB W} (huv : u = v) (h : Calls P f args i.x fun e w' => e = .returned u ∧ Below i.x.heap.size i.x w') :
    Calls P f args i.x fun e w'' => e = .returned v ∧ ∃ j : WB W, w'' = j.x := by subst huv; exact quietB h
theorem still_of_quiet {P : Program} {ops : Array Oper} {w : World} {Q : Act → Prop} : ∀ (l : List Oper) (a : Act), wpQuiet P ops (fun x => x = w) Q l a → wpStill P ops w Q l a
  | [], a, h => h
  | o :: l, a, h => by
    unfold wpQuiet at h
    unfold wpStill
    by_cases hw : Region.wanted o (yielded ops a.tmps) = true
    · rw [if_pos hw] at h ⊢
      obtain ⟨v, hv, hk⟩ := h
      have h3 := hv w rfl
      have hk' := still_of_quiet l _ hk
      unfold Oper.quietAt at h3
      unfold Oper.still
      generalize (execOp a.eval o).run P w = r at *
      cases r with
      | ok n w' =>
        cases n with
        | value u =>
          simp only [Oper.quietUpon] at h3
          simp only [Oper.stillUpon]
          obtain ⟨e1, e2⟩ := h3
          subst e2
          exact ⟨e1, hk'⟩
        | skip =>
          simp only [Oper.quietUpon] at h3
          simp only [Oper.stillUpon]
          obtain ⟨e1, e2⟩ := h3
          subst e2
          exact ⟨e1, hk'⟩
        | enter f args =>
          simp only [Oper.quietUpon] at h3
          simp only [Oper.stillUpon]
          exact ⟨h3.1, v, h3.2, hk'⟩
        | _ => simp only [Oper.quietUpon] at h3
      | halt x w' => simp only [Oper.quietUpon] at h3
    · rw [if_neg hw] at h ⊢
      exact still_of_quiet l _ h
/-- A head of n quiet operations, a tail in one order. -/
theorem wp_tail_quiet {P : Program} {id : Nat} {Q : Exit → Act → World → Prop} {a : Act} {w : World} {l : List Oper} (n : Nat) (hm : P.follows .mixedOrders = true) (hB : Region.lexTailB .any l.toArray n = true)
    (h : wpQuiet P l.toArray (fun x => x = w.drew) (fun a' => wpList P l.toArray Q (l.drop n) a' w.drew) (l.take n) a) : (Code.region id l.toArray true).wp P Q a w :=
  wp_region_still_tail n hm hB (still_of_quiet _ _ h)
end Go.Proofs.Ytjkcmjnejbobeaa
