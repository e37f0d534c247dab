/-
  Contracts of slices.Compare and slices.Equal at two pairs of numbers.
  By an AI agent.
-/
import Derived.Test.YteojoifhmaoiaaaBld
namespace Go.Proofs.Yteojoifhmaoiaaa
open Go.ChangeShapes Go.WideShapes Go.ChangeAt Go.RowKit
set_option maxRecDepth 100000
set_option linter.unusedVariables false

def cmpI (x y : Int) : Int := if x < y then -1 else if y < x then 1 else 0
theorem cmpCompare_any (x y : Int) (w : World) :
    Calls Try.prog 67 #[.int .i64 x, .int .i64 y] w fun e w' => e = .returned (.int .i64 (cmpI x y)) ∧ w' = w := by
  have n1 : (x != x) = false := by simp
  have n2 : (y != y) = false := by simp
  by_cases h : x < y
  · have HV : Hid (cmpI x y = -1) := Lib.hid (by unfold cmpI; rw [if_pos h])
    go_enter Try.func67, Try.ntmps67
    go_wp2
    go_ret
    exact ⟨by rw [HV.out]; rfl, rfl⟩
  · by_cases h2 : y < x
    · have HV : Hid (cmpI x y = 1) := Lib.hid (by unfold cmpI; rw [if_neg (by omega), if_pos h2])
      go_enter Try.func67, Try.ntmps67
      go_wp2
      go_ret
      exact ⟨by rw [HV.out]; rfl, rfl⟩
    · have hxy : x = y := by omega
      subst hxy
      have HV : Hid (cmpI x x = 0) := Lib.hid (by unfold cmpI; rw [if_neg (by omega), if_neg (by omega)])
      have h3 : ¬ x < x := by omega
      clear h h2
      go_enter Try.func67, Try.ntmps67
      go_wp2
      go_ret
      exact ⟨by rw [HV.out]; rfl, rfl⟩
def cmp2 (x0 x1 y0 y1 : Int) : Int := if x0 = y0 then cmpI x1 y1 else cmpI x0 y0
theorem slCompare_any (gx gy : Nat) (x0 x1 y0 y1 : Int) (w : World) (hx : Row w gx 2 (ic [x0, x1])) (hy : Row w gy 2 (ic [y0, y1])) :
    Calls Try.prog 44 #[.slice (some ⟨gx, 0, none⟩) 2 2, .slice (some ⟨gy, 0, none⟩) 2 2] w fun e w' => e = .returned (.int .i64 (cmp2 x0 x1 y0 y1)) ∧ w' = w := by
  have a0 : w.cell? ⟨gx, 0, none⟩ = some (.int .i64 x0) := hx.cell (i := 0) (by omega)
  have a1 : w.cell? ⟨gx, 1, none⟩ = some (.int .i64 x1) := hx.cell (i := 1) (by omega)
  have b0 : w.cell? ⟨gy, 0, none⟩ = some (.int .i64 y0) := hy.cell (i := 0) (by omega)
  have b1 : w.cell? ⟨gy, 1, none⟩ = some (.int .i64 y1) := hy.cell (i := 1) (by omega)
  clear hx hy
  by_cases h : x0 = y0
  · subst h
    have c0 : cmpI x0 x0 = 0 := by unfold cmpI; rw [if_neg (by omega), if_neg (by omega)]
    have HV : Hid (cmp2 x0 x1 x0 y1 = cmpI x1 y1) := Lib.hid (by unfold cmp2; rw [if_pos rfl])
    by_cases h2 : cmpI x1 y1 = 0
    · have n2 : (cmpI x1 y1 != 0) = false := by rw [h2]; rfl
      have H2 := Lib.hid h2
      clear h2
      go_enter Try.func44, Try.ntmps44
      go_wp2_with (go_at_call 67; refine (cmpCompare_any _ _ _).mono ?_; rintro e w' ⟨rfl, rfl⟩)
      refine wp_loop_rounds 3 ?_
      rw [rounds_succ]
      go_wp2_with (go_at_call 67; refine (cmpCompare_any _ _ _).mono ?_; rintro e w' ⟨rfl, rfl⟩)
      rw [rounds_succ]
      go_wp2_with (go_at_call 67; refine (cmpCompare_any _ _ _).mono ?_; rintro e w' ⟨rfl, rfl⟩)
      rw [rounds_succ]
      go_wp2_with (go_at_call 67; refine (cmpCompare_any _ _ _).mono ?_; rintro e w' ⟨rfl, rfl⟩)
      go_ret
      exact ⟨by rw [HV.out, H2.out]; rfl, rfl⟩
    · have n2 : (cmpI x1 y1 != 0) = true := by simpa using h2
      clear h2
      go_enter Try.func44, Try.ntmps44
      go_wp2_with (go_at_call 67; refine (cmpCompare_any _ _ _).mono ?_; rintro e w' ⟨rfl, rfl⟩)
      refine wp_loop_rounds 3 ?_
      rw [rounds_succ]
      go_wp2_with (go_at_call 67; refine (cmpCompare_any _ _ _).mono ?_; rintro e w' ⟨rfl, rfl⟩)
      rw [rounds_succ]
      go_wp2_with (go_at_call 67; refine (cmpCompare_any _ _ _).mono ?_; rintro e w' ⟨rfl, rfl⟩)
      go_ret
      exact ⟨by rw [HV.out]; rfl, rfl⟩
  · have c0 : (cmpI x0 y0 != 0) = true := by
      have : cmpI x0 y0 ≠ 0 := by
        unfold cmpI
        by_cases h1 : x0 < y0
        · rw [if_pos h1]; omega
        · rw [if_neg h1, if_pos (by omega)]; omega
      simpa using this
    have HV : Hid (cmp2 x0 x1 y0 y1 = cmpI x0 y0) := Lib.hid (by unfold cmp2; rw [if_neg h])
    clear h
    go_enter Try.func44, Try.ntmps44
    go_wp2_with (go_at_call 67; refine (cmpCompare_any _ _ _).mono ?_; rintro e w' ⟨rfl, rfl⟩)
    refine wp_loop_rounds 3 ?_
    rw [rounds_succ]
    go_wp2_with (go_at_call 67; refine (cmpCompare_any _ _ _).mono ?_; rintro e w' ⟨rfl, rfl⟩)
    go_ret
    exact ⟨by rw [HV.out]; rfl, rfl⟩
theorem slEqual_any (gx gy : Nat) (x0 x1 y0 y1 : Int) (w : World) (hx : Row w gx 2 (ic [x0, x1])) (hy : Row w gy 2 (ic [y0, y1])) :
    Calls Try.prog 46 #[.slice (some ⟨gx, 0, none⟩) 2 2, .slice (some ⟨gy, 0, none⟩) 2 2] w fun e w' => e = .returned (.bool (decide (x0 = y0) && decide (x1 = y1))) ∧ ∃ m, w' = w.drewN m := by
  have a0 : w.cell? ⟨gx, 0, none⟩ = some (.int .i64 x0) := hx.cell (i := 0) (by omega)
  have a1 : w.cell? ⟨gx, 1, none⟩ = some (.int .i64 x1) := hx.cell (i := 1) (by omega)
  have b0 : w.cell? ⟨gy, 0, none⟩ = some (.int .i64 y0) := hy.cell (i := 0) (by omega)
  have b1 : w.cell? ⟨gy, 1, none⟩ = some (.int .i64 y1) := hy.cell (i := 1) (by omega)
  clear hx hy
  by_cases h : x0 = y0
  · by_cases h2 : x1 = y1
    · have HV : Hid ((decide (x0 = y0) && decide (x1 = y1)) = true) := Lib.hid (by rw [decide_eq_true h, decide_eq_true h2]; rfl)
      subst h h2
      have n1 : (x0 != x0) = false := by simp
      have n2 : (x1 != x1) = false := by simp
      go_enter Try.func46, Try.ntmps46
      go_wp2
      refine wp_loop_rounds 3 ?_
      rw [rounds_succ]
      go_wp2
      go_quiet (fail)
      go_wp2
      rw [rounds_succ]
      go_wp2
      go_quiet (fail)
      go_wp2
      rw [rounds_succ]
      go_wp2
      go_ret
      refine ⟨rfl, ?_⟩
      first | exact ⟨_, rfl⟩ | exact ⟨_, (World.drewN_drewN _ _ _)⟩
    · have n1 : (x0 != y0) = false := by rw [h]; simp
      have n2 : (x1 != y1) = true := by simpa using h2
      have HV : Hid ((decide (x0 = y0) && decide (x1 = y1)) = false) := Lib.hid (by rw [decide_eq_false h2, Bool.and_false])
      generalize (decide (x0 = y0) && decide (x1 = y1)) = r at *
      clear h h2
      go_enter Try.func46, Try.ntmps46
      go_wp2
      refine wp_loop_rounds 3 ?_
      rw [rounds_succ]
      go_wp2
      go_quiet (fail)
      go_wp2
      rw [rounds_succ]
      go_wp2
      go_quiet (fail)
      go_wp2
      go_ret
      rw [HV.out]
      refine ⟨rfl, ?_⟩
      first | exact ⟨_, rfl⟩ | exact ⟨_, (World.drewN_drewN _ _ _)⟩
  · have n1 : (x0 != y0) = true := by simpa using h
    have HV : Hid ((decide (x0 = y0) && decide (x1 = y1)) = false) := Lib.hid (by rw [decide_eq_false h]; rfl)
    generalize (decide (x0 = y0) && decide (x1 = y1)) = r at *
    clear h
    go_enter Try.func46, Try.ntmps46
    go_wp2
    refine wp_loop_rounds 3 ?_
    rw [rounds_succ]
    go_wp2
    go_quiet (fail)
    go_wp2
    go_ret
    rw [HV.out]
    refine ⟨rfl, ?_⟩
    first | exact ⟨_, rfl⟩ | exact ⟨_, (World.drewN_drewN _ _ _)⟩
end Go.Proofs.Yteojoifhmaoiaaa
