/-
  What the walk of the law of plates carries; the contract of laws.sameInts.
  By an AI agent.
-/
import Derived.Test.YteojoifhmaoiaaaFcG
import Derived.Test.YteojoifhmaoiaaaRoom
import Derived.Test.YteojoifhmaoiaaaTail
import Derived.Test.YteojoifhmaoiaaaAt
namespace Go.Proofs.Yteojoifhmaoiaaa
open Go.ChangeShapes Go.WideShapes Go.ChangeAt Go.RowKit Go.Joins Go.Deep
set_option maxRecDepth 100000
set_option linter.unusedVariables false

theorem sameInts_any (a b : Option Addr) (n ca cb : Nat) (zs : List Int) (w : World) (hm : n ≤ 1048576) (hA : SlR w a n (ic zs)) (hB : SlR w b n (ic zs)) :
    Calls Try.prog 20 #[.slice a n ca, .slice b n cb] w fun e w' => e = .returned (.bool true) ∧ Below w.heap.size w w' := by
  have HA := Lib.hid hA
  have HB := Lib.hid hB
  clear hA hB
  go_enter Try.func20, Try.ntmps20
  go_wp2
  go_loopw [5] (fun i wr => ∃ k : Nat, k ≤ n ∧ i = .int .i64 k ∧ Below w.heap.size w wr) (fun i _ => n - (intOf i).toNat)
  case atStart => exact ⟨0, Nat.zero_le _, rfl, Below.refl _ _⟩
  case round =>
    obtain ⟨k, hk, rfl, hb⟩ := hrel
    have Hb := Lib.hid hb
    clear hb
    by_cases hlt : k < n
    · obtain ⟨ga, rfl, ra⟩ := (HA.out.below Hb.out).row (by omega)
      obtain ⟨gb, rfl, rb⟩ := (HB.out.below Hb.out).row (by omega)
      have c0 := ra.cell hlt
      have d0 := rb.cell hlt
      unfold ic at c0 d0
      generalize zs.getD k 0 = q at c0 d0
      have i0 : (0 : Int) ≤ (k : Int) := Int.natCast_nonneg _
      have i1 : (k : Int) < (n : Int) := by omega
      have e0 : (q != q) = false := by simp
      clear ra rb
      go_wp2
      go_quiet (fail)
      go_wp2
      go_roundw
      case rel => exact ⟨k + 1, by omega, by go_num, below_drewN Hb.out _⟩
      case measure => simp [intOf]; omega
    · go_wp2
      go_ret
      exact ⟨rfl, Hb.out⟩
/-- A card in its box, the two colors, the pairs of faces. -/
structure PlS (w : World) (PC d f n cS : Nat) (aS : Option Addr) (ss : List ByteArray) (gz k : Nat) (zs : List Int) (aT : Option Addr) (T : Rows) (wx : World) : Prop where
  box : Row wx PC 3 (tri (.int .i64 d) (.int .i64 f) (.slice aS n cS))
  card : DCd w.heap.size d f n aS ss wx
  cols : Row wx gz k (ic zs)
  tch : T = [] ∨ ∃ g lo hi, aT = some ⟨g, 0, none⟩ ∧ OSt wx lo hi g T.length T
  b : Below w.heap.size w wx
theorem PlS.below {w : World} {PC d f n cS : Nat} {aS : Option Addr} {ss : List ByteArray} {gz k : Nat} {zs : List Int} {aT : Option Addr} {T : Rows} {wx wy : World} (h : PlS w PC d f n cS aS ss gz k zs aT T wx) (hb : Below wx.heap.size wx wy) : PlS w PC d f n cS aS ss gz k zs aT T wy := by
  refine ⟨h.box.below hb h.box.lt, h.card.below hb, h.cols.below hb h.cols.lt, ?_, h.b.trans (hb.mono h.b.size)⟩
  rcases h.tch with e | ⟨g, lo, hi, e, o⟩
  · exact .inl e
  · exact .inr ⟨g, lo, hi, e, o.below hb⟩
/-- What the last region holds. -/
def PlQ (w : World) (PC d f n cS : Nat) (aS : Option Addr) (ss : List ByteArray) (gz k : Nat) (zs : List Int) (aT : Option Addr) (T : Rows) (g1 : Nat) (wx : World) : Prop :=
  (wx.cell? ⟨PC, 0, none⟩ = some (.int .i64 d) ∧ wx.cell? ⟨PC, 1, none⟩ = some (.int .i64 f) ∧ wx.cell? ⟨PC, 2, none⟩ = some (.slice aS n cS)) ∧ Hid (PlS w PC d f n cS aS ss gz k zs aT T wx ∧ Row wx g1 k (ic (ones k)))
section
variable {w : World} {PC d f n cS : Nat} {aS : Option Addr} {ss : List ByteArray} {gz k : Nat} {zs : List Int} {aT : Option Addr} {T : Rows} {g1 : Nat} {wx wy : World}
theorem PlQ.of (h : PlS w PC d f n cS aS ss gz k zs aT T wx) (h1 : Row wx g1 k (ic (ones k))) : PlQ w PC d f n cS aS ss gz k zs aT T g1 wx :=
  ⟨⟨h.box.cell (i := 0) (by omega), h.box.cell (i := 1) (by omega), h.box.cell (i := 2) (by omega)⟩, Lib.hid ⟨h, h1⟩⟩
theorem PlQ.next (h : PlQ w PC d f n cS aS ss gz k zs aT T g1 wx) (hb : Below wx.heap.size wx wy) : PlQ w PC d f n cS aS ss gz k zs aT T g1 wy :=
  .of (h.2.out.1.below hb) (h.2.out.2.below hb h.2.out.2.lt)
theorem PlQ.box (h : PlQ w PC d f n cS aS ss gz k zs aT T g1 wx) (o : Obj) : PlQ w PC d f n cS aS ss gz k zs aT T g1 (wx.alloc o) := h.next (Below.box _ _)
theorem PlQ.row (h : PlQ w PC d f n cS aS ss gz k zs aT T g1 wx) : SlR wx aS n (sc ss) := h.2.out.1.card.row
theorem PlQ.one (h : PlQ w PC d f n cS aS ss gz k zs aT T g1 wx) : SlR wx (some ⟨g1, 0, none⟩) k (ic (ones k)) := .of_row h.2.out.2
end
theorem getL_3 {L : List Int} {w w' : World} {e : Ending} (h : GetL L w e w') (hL : L = [3]) : ∃ a c, e = .returned (.slice a 1 c) ∧ SlR w' a 1 (ic [3]) ∧ Below w.heap.size w w' := by
  subst hL
  obtain ⟨a, c, h1, h2, _, h4⟩ := h
  exact ⟨a, c, h1, h2, h4⟩
theorem row_3 (w : World) (e : TypeId) : Row (w.alloc (.cells #[.int .i64 3] e (0, 0))) w.heap.size 1 (ic [3]) := (Row.of_new w #[.int .i64 3] e).congr fun i hi => by
  have : i = 0 := by simp at hi; exact hi
  subst this
  rfl
theorem ones_succ (k : Nat) : (ones (k + 1)).map (Value.int .i64) = (ones k).map (Value.int .i64) ++ [.int .i64 3] := by unfold ones; rw [List.replicate_succ', List.map_append]; rfl
end Go.Proofs.Yteojoifhmaoiaaa
