/-
  Slices of the call's own whose block is known, several of them at a time: append of one cell, a store, what the others keep. Plain facts on worlds; no program in sight but for the element's type.
  By an AI agent.
-/
import Derived.Test.YtjkcmjnejbobeaaInts
import Derived.Deep.AppendLies
import Derived.Laws.OwnMore
namespace Go.Proofs.Ytjkcmjnejbobeaa
open Go.ChangeShapes Go.WideShapes Go.ChangeAt Go.RowKit
set_option maxRecDepth 100000
set_option linter.unusedVariables false

/-- Block g, from B on, is the slice's own: n elements of one cell each, 'xs'. -/
def Own1 (w : World) (B : Nat) (e : TypeId) (g n c : Nat) (xs : List Value) : Prop := w.ownsRow B e 1 (.slice (some ⟨g, 0, none⟩) n c) n xs
section
variable {w w' : World} {B : Nat} {e : TypeId} {g n c : Nat} {xs : List Value}
theorem Own1.len (h : Own1 w B e g n c xs) : xs.length = n := by have := h.1; omega
theorem Own1.lt (h : Own1 w B e g n c xs) : B ≤ g ∧ g < w.heap.size := World.ownsRow.lt h g rfl
theorem OnlyB.of_grown {k : Nat} (h : w.grownBy w' (some k)) : OnlyB k w w' := ⟨h.os, h.tape, h.output, h.size, fun i hi hn => h.block i hi (fun e => hn (by simpa using e))⟩
theorem OnlyB.toBelow {k : Nat} (h : OnlyB k w w') (hk : B ≤ k) (hs : B ≤ w.heap.size) : Below B w w' := ⟨h.os, h.tape, h.output, h.size, fun j hj => h.block j (by omega) (by omega)⟩
theorem OnlyB.then {k : Nat} {w2 : World} (h : OnlyB k w w') (h2 : OnlyB k w' w2) : OnlyB k w w2 :=
  ⟨h2.os.trans h.os, h2.tape.trans h.tape, h2.output.trans h.output, Nat.le_trans h.size h2.size, fun i hi hn => (h2.block i (Nat.lt_of_lt_of_le hi h.size) hn).trans (h.block i hi hn)⟩
theorem OnlyB.after {k : Nat} {w2 : World} (h : Below w.heap.size w w') (h2 : OnlyB k w' w2) : OnlyB k w w2 :=
  ⟨h2.os.trans h.os, h2.tape.trans h.tape, h2.output.trans h.output, Nat.le_trans h.size h2.size, fun i hi hn => (h2.block i (Nat.lt_of_lt_of_le hi h.size) hn).trans (h.block i hi)⟩
theorem OnlyB.row {k N : Nat} {d : Nat → Value} (h : OnlyB k w w') (hr : Row w g N d) (hn : g ≠ k) : Row w' g N d := hr.of_heap (h.block g hr.lt hn)
theorem OnlyB.sl {k N : Nat} {d : Nat → Value} {a : Option Addr} (h : OnlyB k w w') (hr : SlR w a N d) (hn : ∀ b, a = some b → N ≠ 0 → b.block ≠ k) : SlR w' a N d := by
  rcases hr with h0 | ⟨f, ha, hr⟩
  · exact .inl h0
  · by_cases h0 : N = 0
    · exact .inl h0
    · exact .inr ⟨f, ha, h.row hr (hn _ ha h0)⟩
theorem Own1.heap (h : Own1 w B e g n c xs) (hh : w'.heap[g]? = w.heap[g]?) : Own1 w' B e g n c xs := by
  refine ⟨h.1, ?_⟩
  rcases h.2 with hn | ⟨f, cap, cur, hv, hb, hgg, rest⟩
  · exact .inl hn
  · simp only [Value.slice.injEq, Option.some.injEq, Addr.mk.injEq, and_true, true_and] at hv
    obtain ⟨rfl, rfl⟩ := hv
    exact .inr ⟨g, c, cur, rfl, hb, hh.trans hgg, rest⟩
theorem Own1.below (h : Own1 w B e g n c xs) (hb : Below w.heap.size w w') : Own1 w' B e g n c xs := h.heap (hb.block g h.lt.2)
theorem Own1.keep {k : Nat} (h : Own1 w B e g n c xs) (ho : OnlyB k w w') (hn : g ≠ k) : Own1 w' B e g n c xs := h.heap (ho.block g h.lt.2 hn)
theorem Own1.alloc (h : Own1 w B e g n c xs) (o : Obj) : Own1 (w.alloc o) B e g n c xs := h.below (Below.box w o)
theorem Own1.row (h : Own1 w B e g n c xs) : Row w g n (fun i => xs.getD i undef) := (Row.of_owns h).mono (by omega)
theorem Own1.frozen (h : Own1 w B e g n c xs) (i : Nat) : w.frozen? ⟨g, i, none⟩ = false := World.ownsRow.frozenAt h i
theorem Own1.set (h : Own1 w B e g n c xs) (j : Nat) (u : Value) : Own1 (w.setCell ⟨g, j, none⟩ u) B e g n c (xs.set j u) := (World.ownsRow.stored h j u).1
theorem Own1.set_other (h : Own1 w B e g n c xs) {p : Addr} (hp : g ≠ p.block) (u : Value) : Own1 (w.setCell p u) B e g n c xs := h.heap (Below.heap_setCell w p u g hp)
theorem Own1.empty (w : World) (e : TypeId) : Own1 (w.alloc (.cells #[] e (0, 0))) w.heap.size e w.heap.size 0 0 [] := owns_empty w e 1
theorem Own1.mono {B' : Nat} (h : Own1 w B e g n c xs) (hb : B' ≤ B) : Own1 w B' e g n c xs := by
  refine ⟨h.1, ?_⟩
  rcases h.2 with hn | ⟨f, cap, cur, hv, hb2, rest⟩
  · exact .inl hn
  · exact .inr ⟨f, cap, cur, hv, Nat.le_trans hb hb2, rest⟩
theorem OnlyB.setCell (w : World) (g i : Nat) (u : Value) : OnlyB g w (w.setCell ⟨g, i, none⟩ u) := (OnlyB.refl g w).set i u
end
section
variable {w w' : World} {B g n c : Nat} {zs : List Int}
theorem Own1.cells {e : TypeId} (h : Own1 w B e g n c (zs.map (Value.int .i64))) : Row w g n (ic zs) := h.row.congr fun i hi => by
  have hl : i < zs.length := by have := h.len; simp at this; omega
  simp [ic, List.getD, hl]
theorem Own1.sl {e : TypeId} (h : Own1 w B e g n c (zs.map (Value.int .i64))) : SlR w (some ⟨g, 0, none⟩) n (ic zs) := .of_row h.cells
end
theorem IsRow.arg {w : World} {a : Option Addr} {len cap : Nat} {zs : List Int} (h : IsRow .i64 w a len cap zs) : len ≤ maxLen ∧ ∃ ys : List Int, ys.length = len ∧ IArg w a len ys := by
  obtain ⟨hm, hc⟩ := h.cells
  rcases h with ⟨_, h0, _, _⟩ | ⟨x, _, h1, _, hl, _, _⟩
  · exact ⟨hm, [], by rw [h0]; rfl, fun h => by omega⟩
  · refine ⟨hm, zs.take len, by simp; omega, fun h0 => ?_⟩
    obtain ⟨b, off, ha, hh⟩ := hc h0
    refine ⟨b, off, ha, fun i hi => ?_⟩
    rw [hh i hi]
    simp [ic, List.getD, hi]
theorem new_cell {w : World} {v : Value} {e : TypeId} {b : Nat} (hb : b = w.heap.size) : (w.alloc (.cells #[v] e (0, 0))).cell? ⟨b, 0, none⟩ = some v := by
  subst hb; exact (Row.of_new w #[v] e).cell (i := 0) (by simp)
theorem new_cellD {w : World} {v : Value} {e : TypeId} {b : Nat} (hb : b = w.heap.size) : (w.alloc (.cells #[v] e (0, 0))).drew.cell? ⟨b, 0, none⟩ = some v := new_cell hb
theorem Own1.drew {w : World} {B g n c : Nat} {e : TypeId} {xs : List Value} (h : Own1 w B e g n c xs) : Own1 w.drew B e g n c xs := h.heap rfl
/-- 'append(xs, u)' at a slice of the call's own: its cell lies in block b. -/
theorem append_one {P : Program} {ops : Array Oper} {rest : List Oper} {o : Oper} {a : Act} {Q : Exit → Act → World → Prop} {w : World} (hgd : o.guard = none) (s x : Operand) (t : TypeId)
    (ho : o.op = .call { callee := .builtin .append, args := #[s, x], argTypes := #[t, t] })
    {B : Nat} {e : TypeId} {z : Value} {bytes : Nat} (ht : P.underlying t = some (.slice e)) (hi : (P.info? e).map (fun i => (i.zero, i.size, i.bytes)) = some (some z, 1, bytes)) (hzs : z.cells.size = 1) (hby : bytes ≤ 64)
    {g n c : Nat} {xs : List Value} (hs : a.eval s = .slice (some ⟨g, 0, none⟩) n c) (hown : Own1 w B e g n c xs) (hn : n ≤ 1048576)
    {b : Nat} {u : Value} (hx : a.eval x = .slice (some ⟨b, 0, none⟩) 1 1) (hc : w.cell? ⟨b, 0, none⟩ = some u) (h1 : u.oneCell' = true)
    (h : ∀ g' c' w', Own1 w' B e g' (n + 1) c' (xs ++ [u]) → OnlyB g w w' → (g' = g ∨ g' = w.heap.size) → wpList P ops Q rest (a.put o.dst (.slice (some ⟨g', 0, none⟩) (n + 1) c')) w') : wpList P ops Q (o :: rest) a w := by
  obtain ⟨i, hi0, hz0, hz1, hz2⟩ := info_parts hi
  refine wpList_append_lies w hgd s x t ho B e i z 1 bytes ht hi0 hz0 hz1 hz2 hzs (by omega) _ n xs hs hown ⟨b, 0, none⟩ 1 1 [u] hx rfl ?_ ?_ (by omega) (by unfold maxLen; omega) (Nat.le_trans (Nat.mul_le_mul_left (n + 1) hby) (by omega)) (by have := hown.lt; omega) w.heap.size rfl ?_
  · intro j v hj
    have hj0 : j = 0 := by
      have := (List.getElem?_eq_some_iff.1 hj).1
      simp at this; exact this
    subst hj0
    simp at hj
    subst hj
    rw [add_at]
    exact hc
  · intro v hv
    have := List.mem_singleton.1 hv
    subst this
    exact h1
  · intro g' c' w' o1 g1 l1 _
    refine h g' c' w' o1 (OnlyB.of_grown g1) ?_
    rcases l1 with l1 | l1
    · left; simpa [Value.ownBlock] using l1.symm
    · exact .inr l1
end Go.Proofs.Ytjkcmjnejbobeaa
