/-
  What the walk of the law of spines carries; the width of no cards.
  By an AI agent.
-/
import Derived.Test.YtjkcmjnejbobeaaSpG
import Derived.Test.YtjkcmjnejbobeaaAt
import Derived.Test.YtjkcmjnejbobeaaTail
namespace Go.Proofs.Ytjkcmjnejbobeaa
open Go.ChangeShapes Go.WideShapes Go.ChangeAt Go.RowKit Go.Joins Go.Deep
set_option maxRecDepth 100000
set_option linter.unusedVariables false

theorem spine_nil (w : World) : Calls Try.prog 13 #[.slice none 0 0, .int .i64 3] w fun e w' => e = .returned (.int .i64 0) ∧ w' = w := by
  go_enter Try.func13, Try.ntmps13
  go_wp2
  refine wp_loop_rounds 1 ?_
  rw [rounds_succ]
  go_wp2
  go_ret
  exact ⟨rfl, rfl⟩
/-- A book, its guards and its order. -/
structure SpS (w : World) (g n : Nat) (xs : List DCard) (aG : Option Addr) (gs : List Int) (aO : Option Addr) (os : List Int) (wx : World) : Prop where
  book : LC wx g 0 n xs
  gds : SlR wx aG n (ic gs)
  ord : SlR wx aO n (ic os)
  b : Below w.heap.size w wx
section
variable {w : World} {g n : Nat} {xs : List DCard} {aG : Option Addr} {gs : List Int} {aO : Option Addr} {os : List Int} {wx wy : World}
theorem SpS.below (h : SpS w g n xs aG gs aO os wx) (hb : Below wx.heap.size wx wy) : SpS w g n xs aG gs aO os wy :=
  ⟨h.book.below hb, h.gds.below hb, h.ord.below hb, h.b.trans (hb.mono h.b.size)⟩
theorem LC.one (h : LC wx g 0 n xs) {k : Nat} (hk : k < n) : LC wx g (k * 3) 1 [xs.getD k default] := by
  intro i hi
  have : i = 0 := by omega
  subst this
  obtain ⟨a, cp, ⟨c0, c1, c2⟩, s⟩ := h k hk
  simp only [Nat.zero_add] at c0 c1 c2
  exact ⟨a, cp, ⟨by rw [Nat.zero_mul, Nat.add_zero]; exact c0, by rw [Nat.zero_mul, Nat.add_zero]; exact c1, by rw [Nat.zero_mul, Nat.add_zero]; exact c2⟩, s⟩
theorem row_one (w : World) (z : Int) (e : TypeId) : Row (w.alloc (.cells #[.int .i64 z] e (0, 0))) w.heap.size 1 (ic [z]) := (Row.of_new w #[.int .i64 z] e).congr fun i hi => by
  have : i = 0 := by simp at hi; exact hi
  subst this
  rfl
/-- What a region that weighs one card holds. -/
def SpQ (w : World) (g n : Nat) (xs : List DCard) (aG : Option Addr) (gs : List Int) (aO : Option Addr) (os : List Int) (gG k : Nat) (z : Int) (wx : World) : Prop :=
  wx.cell? ⟨gG, k, none⟩ = some (.int .i64 z) ∧ Hid (SpS w g n xs aG gs aO os wx)
theorem SpQ.next {gG k : Nat} {z : Int} (h : SpQ w g n xs aG gs aO os gG k z wx) (hb : Below wx.heap.size wx wy) : SpQ w g n xs aG gs aO os gG k z wy :=
  ⟨(hb.cell (World.block_lt_of_cell? _ _ h.1)).trans h.1, Lib.hid (h.2.out.below hb)⟩
theorem SpQ.box {gG k : Nat} {z : Int} (h : SpQ w g n xs aG gs aO os gG k z wx) (o : Obj) : SpQ w g n xs aG gs aO os gG k z (wx.alloc o) := h.next (Below.box _ _)
theorem SpQ.book {gG k : Nat} {z : Int} (h : SpQ w g n xs aG gs aO os gG k z wx) : LC wx g 0 n xs := h.2.out.book
end
theorem two_pow {q : Nat} (h : q ≤ 4) : IntKind.i64.wrap (2 ^ q) = 2 ^ q ∧ wrap64 (2 ^ q) = 2 ^ q ∧ (1 : Int) ≤ 2 ^ q ∧ (2 : Int) ^ q ≤ 16 := by
  have : q = 0 ∨ q = 1 ∨ q = 2 ∨ q = 3 ∨ q = 4 := by omega
  have h2 : (1 : Int) ≤ 2 ^ q ∧ (2 : Int) ^ q ≤ 16 := by rcases this with rfl | rfl | rfl | rfl | rfl <;> decide
  exact ⟨IntWalk.i64_in _ (by omega), IntWalk.wrap64_in _ (by omega), h2⟩
theorem two_pow1 {q : Nat} (h : q ≤ 4) : IntKind.i64.wrap (2 ^ q - 1) = 2 ^ q - 1 ∧ wrap64 (2 ^ q - 1) = 2 ^ q - 1 := by
  obtain ⟨_, _, h1, h2⟩ := two_pow h
  generalize (2 : Int) ^ q = z at *
  exact ⟨IntWalk.i64_in _ (by omega), IntWalk.wrap64_in _ (by omega)⟩
theorem lit_wf {W : Int} (h0 : -1 ≤ W) (h1 : W ≤ 1000000) : (Lit.int .i64 W).wf = true := by
  show (decide (IntKind.i64.min ≤ W) && decide (W ≤ IntKind.i64.max)) = true
  rw [show IntKind.i64.min = -9223372036854775808 from rfl, show IntKind.i64.max = 9223372036854775807 from rfl]
  simp only [Bool.and_eq_true, decide_eq_true_eq]
  omega
end Go.Proofs.Ytjkcmjnejbobeaa
