/-
  What the walk of the law of sheets holds.
  By an AI agent.
-/
import Derived.Test.YtoflcjgimkbgpaaSheetL
import Derived.Test.YtoflcjgimkbgpaaDrawC
import Derived.Test.YtoflcjgimkbgpaaDrawR
import Derived.Test.YtoflcjgimkbgpaaAt
namespace Go.Proofs.Ytoflcjgimkbgpaa
open Go.ChangeShapes Go.WideShapes Go.ChangeAt Go.RowKit
set_option maxRecDepth 100000
set_option linter.unusedVariables false

theorem tot_le8 {ss : List ByteArray} : ∀ {n : Nat}, (∀ k, k < n → (ss.getD k ByteArray.empty).size ≤ 8) → tot ss n ≤ 8 * n := by
  intro n
  induction n with
  | zero => intro _; exact Nat.le_refl _
  | succ n ih =>
    intro h
    have h1 := ih fun k hk => h k (by omega)
    have h2 := h n (by omega)
    show tot ss n + _ ≤ _
    omega
theorem DCd.tot {B d f n : Nat} {aS : Option Addr} {ss : List ByteArray} {w : World} (h : DCd B d f n aS ss w) : tot ss n ≤ 48 := by
  have h1 := h.d4
  have h2 := h.f4
  have h3 := h.n6
  have h4 := h.len
  have := tot_le8 (ss := ss) (n := n) fun k hk => by
    have := (h.strips (ss.getD k ByteArray.empty) (by rw [getD_at _ _ (by omega)]; exact List.getElem_mem (by omega))).2.2
    omega
  omega
theorem DCd.room {B d f n : Nat} {aS : Option Addr} {ss : List ByteArray} {w : World} (h : DCd B d f n aS ss w) : (n : Int) + Go.Proofs.Ytoflcjgimkbgpaa.tot ss n ≤ 1048576 := by
  have := h.tot
  have := h.n6
  omega
/-- A drawn card in a box. -/
structure ShS (w : World) (P d f n cS : Nat) (aS : Option Addr) (ss : List ByteArray) (wx : World) : Prop where
  p : Row wx P 3 (tri (.int .i64 d) (.int .i64 f) (.slice aS n cS))
  c : DCd w.heap.size d f n aS ss wx
  b : Below w.heap.size w wx
theorem ShS.below {w wx wy : World} {P d f n cS : Nat} {aS : Option Addr} {ss : List ByteArray} (h : ShS w P d f n cS aS ss wx) (hb : Below wx.heap.size wx wy) : ShS w P d f n cS aS ss wy := ⟨h.p.below hb h.p.lt, h.c.below hb, h.b.trans (hb.mono h.b.size)⟩
theorem ShS.pc {w wx : World} {P d f n cS : Nat} {aS : Option Addr} {ss : List ByteArray} (h : ShS w P d f n cS aS ss wx) : wx.cell? ⟨P, 0, none⟩ = some (.int .i64 d) ∧ wx.cell? ⟨P, 1, none⟩ = some (.int .i64 f) ∧ wx.cell? ⟨P, 2, none⟩ = some (.slice aS n cS) :=
  ⟨h.p.cell (i := 0) (by omega), h.p.cell (i := 1) (by omega), h.p.cell (i := 2) (by omega)⟩
theorem ShS.new {w w1 : World} {d f n cS : Nat} {aS : Option Addr} {ss : List ByteArray} (h : DCd w.heap.size d f n aS ss w1) (hb : Below w.heap.size w w1) (e : TypeId) : ShS w w1.heap.size d f n cS aS ss (w1.alloc (.cells #[.int .i64 d, .int .i64 f, .slice aS n cS] e (0, 0))) :=
  ⟨Row.newT _ _ _ _ _, h.below (Below.box _ _), hb.alloc hb.size _⟩
/-- The places of the first fit, one by one. -/
theorem ff_out_at {wd : Int} {rows : List Int} {k j : Nat} (h : j < k) : (ff wd rows k).1.getD j 0 = ((fitAt (rows.getD j 0) (ff wd rows j).2 : Nat) : Int) := by
  induction k with
  | zero => omega
  | succ k ih =>
    rw [ff_out]
    have hl := (ff_len wd rows k).1
    by_cases e : j = k
    · subst e
      simp [List.getD, hl]
    · rw [← ih (by omega)]
      simp only [List.getD]
      rw [List.getElem?_append_left (by omega)]
/-- The rooms beside the last of the first m rows: how many bands, what they bear, in all. -/
structure Ld (wd : Int) (rows : List Int) (N k : Nat) (most total : Int) (c : Nat → Value) : Prop where
  most : most = ((ff wd rows k).2.length : Int) - 1
  total : total = rsum rows k
  load : ∀ j, j < N + 1 → c j = .int .i64 (loadOf wd (ff wd rows k).2 j)
theorem rsum_bd {rows : List Int} {wd : Int} : ∀ {k : Nat}, (∀ j, j < k → 1 ≤ rows.getD j 0 ∧ rows.getD j 0 ≤ wd) → 0 ≤ rsum rows k ∧ rsum rows k ≤ wd * k := by
  intro k
  induction k with
  | zero => intro _; exact ⟨Int.le_refl _, by simp [rsum, sumTo]⟩
  | succ k ih =>
    intro h
    have h1 := ih fun j hj => h j (by omega)
    have h2 := h k (by omega)
    show 0 ≤ rsum rows k + rows.getD k 0 ∧ rsum rows k + rows.getD k 0 ≤ _
    rw [Int.natCast_add, Int.mul_add, show ((1 : Nat) : Int) = 1 from rfl, Int.mul_one]
    omega
def CS3 (w : World) (P d f n cS : Nat) (aS : Option Addr) (ss : List ByteArray) (wx : World) : Prop :=
  (wx.cell? ⟨P, 0, none⟩ = some (.int .i64 d) ∧ wx.cell? ⟨P, 1, none⟩ = some (.int .i64 f) ∧ wx.cell? ⟨P, 2, none⟩ = some (.slice aS n cS)) ∧ Hid (ShS w P d f n cS aS ss wx)
theorem CS3.of {w wx : World} {P d f n cS : Nat} {aS : Option Addr} {ss : List ByteArray} (h : ShS w P d f n cS aS ss wx) : CS3 w P d f n cS aS ss wx := ⟨h.pc, Lib.hid h⟩
theorem CS3.next {w wx wy : World} {P d f n cS : Nat} {aS : Option Addr} {ss : List ByteArray} (h : CS3 w P d f n cS aS ss wx) (hb : Below wx.heap.size wx wy) : CS3 w P d f n cS aS ss wy := .of (h.2.out.below hb)
theorem make_ints (K : Nat) (hK : K ≤ 25600) (W : World) : (Instr.makeSlice 33 (.int .i64 (K : Int)) (.int .i64 (K : Int))).run Try.prog W = .ok (.slice (some ⟨W.heap.size, 0, none⟩) K K) (W.alloc (.cells (madeCells #[.int .i64 0] K) 3)) := by
  obtain ⟨j0, hi0, hz0, hz1, hz2⟩ := info_parts infoInt
  have := run_make (P := Try.prog) W 33 3 j0 _ Try.underlying33 hi0 hz0 .i64 .i64 K K (by omega) (Int.le_refl _) (by rw [hz2]; omega) (by omega)
  simpa [hz1, Value.cells] using this
theorem made_zero (K j : Nat) (hj : j < K) : (madeCells #[Value.int .i64 0] K).getD j undef = .int .i64 0 := by
  simp [madeCells, hj, Nat.mod_one]
def lc (wd : Int) (rows : List Int) (k j : Nat) : Value := .int .i64 (loadOf wd (ff wd rows k).2 j)
theorem row_made (W : World) (K : Nat) (wd : Int) (rows : List Int) : Row (W.alloc (.cells (madeCells #[.int .i64 0] K) 3)) W.heap.size K (lc wd rows 0) :=
  ((Row.of_new W (madeCells #[.int .i64 0] K) 3).mono (M := K) (by simp [madeCells])).congr fun j hj => by rw [made_zero K j hj]; rfl
theorem lc_step (wd : Int) (rows : List Int) (k p : Nat) (hp : p = fitAt (rows.getD k 0) (ff wd rows k).2) (lp x : Int) (hlp : loadOf wd (ff wd rows k).2 p = lp) (hx : rows.getD k 0 = x) (j : Nat) :
    (if j = p then Value.int .i64 (lp + x) else lc wd rows k j) = lc wd rows (k + 1) j := by
  unfold lc
  have h := step_load wd (ff wd rows k) (rows.getD k 0) j
  rw [show (ff wd rows (k + 1)).2 = (ffStep wd (ff wd rows k) (rows.getD k 0)).2 from rfl, h, ← hp, hx]
  by_cases e : j = p
  · subst e; rw [if_pos rfl, if_pos rfl, hlp]
  · rw [if_neg e, if_neg e, Int.add_zero]
theorem most_step (wd : Int) (rows : List Int) (k p : Nat) (hp : p = fitAt (rows.getD k 0) (ff wd rows k).2) (mo : Int) (hm : mo = ((ff wd rows k).2.length : Int) - 1) :
    (mo < p → ((ff wd rows (k + 1)).2.length : Int) - 1 = p) ∧ (¬ mo < p → ((ff wd rows (k + 1)).2.length : Int) - 1 = mo) := by
  have h := step_len wd (ff wd rows k) (rows.getD k 0)
  rw [show (ff wd rows (k + 1)).2 = (ffStep wd (ff wd rows k) (rows.getD k 0)).2 from rfl, h, ← hp]
  omega
theorem mul_small {a b : Int} (ha : -1 ≤ a ∧ a ≤ 11) (hb : 0 ≤ b ∧ b ≤ 39) : -39 ≤ a * b ∧ a * b ≤ 429 := by
  rcases Int.le_total 0 a with h | h
  · have h1 : a * b ≤ 11 * 39 := Int.mul_le_mul ha.2 hb.2 hb.1 (by decide)
    have h2 := Int.mul_nonneg h hb.1
    omega
  · have : a = 0 ∨ a = -1 := by omega
    rcases this with rfl | rfl <;> omega
end Go.Proofs.Ytoflcjgimkbgpaa
