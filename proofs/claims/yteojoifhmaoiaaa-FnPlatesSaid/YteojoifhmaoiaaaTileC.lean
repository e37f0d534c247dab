/-
  Contract of TileCount in the reference.
  By an AI agent.
-/
import Derived.Test.YteojoifhmaoiaaaCard
import Derived.Deep.RegionHeld3
namespace Go.Proofs.Yteojoifhmaoiaaa
open Go.ChangeShapes Go.WideShapes Go.ChangeAt Go.RowKit Go.Joins Go.Deep
set_option maxRecDepth 100000
set_option linter.unusedVariables false

def tiles (d f : Int) (ss : List ByteArray) : Int := if cardOkB d f ss = true then ss.length * (d + f) else -1
theorem tile_bd {n h : Int} (h1 : 1 ≤ n) (h2 : n ≤ 10) (h3 : 2 ≤ h) (h4 : h ≤ 16) : 0 ≤ n * h ∧ n * h ≤ 160 := by
  refine ⟨Int.mul_nonneg (by omega) (by omega), ?_⟩
  have := Int.mul_le_mul h2 h4 (by omega) (by omega)
  omega
theorem tiles_bd (d f : Int) (ss : List ByteArray) : -1 ≤ tiles d f ss ∧ tiles d f ss ≤ 160 := by
  unfold tiles
  split
  · rename_i h
    obtain ⟨⟨q1, q2, q3, q4, q5, q6⟩, _⟩ := cardOk_iff.1 h
    obtain ⟨a, b⟩ := tile_bd (n := ss.length) (h := d + f) (by omega) (by omega) (by omega) (by omega)
    omega
  · omega
theorem sTileCount_any (d f : Int) (a : Option Addr) (n c : Nat) (ss : List ByteArray) (w : World) (hl : ss.length = n) (hm : (n : Int) + tot ss n ≤ 1048576) (hR : SlR w a n (sc ss)) :
    Calls Try.prog 19 #[.agg #[.int .i64 d, .int .i64 f, .slice a n c]] w fun e w' => e = .returned (.int .i64 (tiles d f ss)) ∧ Below w.heap.size w w' := by
  have HB0 := Lib.hid ((Below.refl w.heap.size w).alloc (Nat.le_refl _) (.cells #[.int .i64 d, .int .i64 f, .slice a n c] 26 (0, 0)))
  have HR := Lib.hid (hR.below HB0.out)
  have HL := Lib.hid hl
  unfold tiles
  cases hok : cardOkB d f ss
  · have HOK := Lib.hid hok
    clear hR hl hok
    go_enter Try.func19, Try.ntmps19
    go_wp2_with (go_at_call 47; refine (sCardOk_any _ _ _ _ _ _ _ HL.out hm HR.out).mono ?_; rw [HOK.out]; rintro e w1 ⟨rfl, hb⟩)
    go_ret
    exact ⟨rfl, HB0.out.trans (hb.mono (by simp))⟩
  · obtain ⟨⟨q1, q2, q3, q4, q5, q6⟩, _⟩ := cardOk_iff.1 hok
    rw [if_pos rfl, hl]
    have n1 : 1 ≤ n := by omega
    have n2 : n ≤ 10 := by omega
    obtain ⟨m1, m2⟩ := tile_bd (n := n) (h := d + f) (by omega) (by omega) (by omega) (by omega)
    have HOK := Lib.hid hok
    clear hR hl hok q5 q6
    go_enter Try.func19, Try.ntmps19
    go_wp2_with (go_at_call 47; refine (sCardOk_any _ _ _ _ _ _ _ HL.out hm HR.out).mono ?_; rw [HOK.out]; rintro e w1 ⟨rfl, hb⟩; obtain ⟨b0, b1, b2⟩ := box3 hb)
    go_ret
    exact ⟨rfl, HB0.out.trans (hb.mono (by simp))⟩

end Go.Proofs.Yteojoifhmaoiaaa
