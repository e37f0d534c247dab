/-
  Contracts of markPaperS (it writes the numbers k, k + 1, .. into a row) and heldPaperS (it asks whether they are still there).
  By an AI agent.
-/
import Derived.Test.YtfekgafcbohmeaaPaperS
namespace Go.Proofs.Ytfekgafcbohmeaa
open Go.ChangeShapes Go.WideShapes Go.ChangeAt Go.RowKit Go.Joins Go.Deep
set_option linter.unusedVariables false

/-- The numbers from k0 on. -/
def numc (k0 : Int) (i : Nat) : Value := .int .i64 (k0 + i)
theorem mark3 {w : World} {g N j : Nat} {k0 : Int} {c : Nat → Value} {x y z : Int} (h : Row w g N (fun i => if i < j * 3 then numc k0 i else c i)) (hx : x = k0 + (j * 3 : Nat)) (hy : y = k0 + (j * 3 + 1 : Nat)) (hz : z = k0 + (j * 3 + 2 : Nat)) :
    Row (((w.setCell ⟨g, j * 3, none⟩ (.int .i64 x)).setCell ⟨g, j * 3 + 1, none⟩ (.int .i64 y)).setCell ⟨g, j * 3 + 2, none⟩ (.int .i64 z)) g N (fun i => if i < (j + 1) * 3 then numc k0 i else c i) := by
  refine (((h.set _ _).set _ _).set _ _).congr fun i _ => ?_
  subst hx hy hz
  by_cases h2 : i = j * 3 + 2
  · subst h2; rw [if_pos rfl, if_pos (by omega)]; rfl
  · rw [if_neg h2]
    by_cases h1 : i = j * 3 + 1
    · subst h1; rw [if_pos rfl, if_pos (by omega)]; rfl
    · rw [if_neg h1]
      by_cases h0 : i = j * 3
      · subst h0; rw [if_pos rfl, if_pos (by omega)]; rfl
      · rw [if_neg h0]
        by_cases hk : i < j * 3
        · rw [if_pos hk, if_pos (by omega)]
        · rw [if_neg hk, if_neg (by omega)]

set_option maxHeartbeats 1000000 in
theorem markPaperS_any (g n c : Nat) (k0 : Int) (d : Nat → Value) (w : World) (hk0 : 0 ≤ k0) (hk1 : k0 ≤ 1000000000) (hm : n ≤ 1048576) (hR : Row w g (n * 3) d) :
    Calls Try.prog 41 #[.slice (some ⟨g, 0, none⟩) n c, .int .i64 k0] w fun e w' => e = .returned (.int .i64 (k0 + (n * 3 : Nat))) ∧ Row w' g (n * 3) (numc k0) ∧ Only g w w' := by
  have HR := Lib.hid (hR.congr (d := fun i => if i < 0 * 3 then numc k0 i else d i) (fun i _ => by rw [if_neg (by omega)]))
  clear hR
  go_enter Try.func41, Try.ntmps41
  go_wp2
  go_loopw [1, 5] (fun s i wr => ∃ j : Nat, j ≤ n ∧ i = .int .i64 j ∧ s = .int .i64 (k0 + (j * 3 : Nat)) ∧ Row wr g (n * 3) (fun i => if i < j * 3 then numc k0 i else d i) ∧ Only g w wr) (fun _ i _ => n - (intOf i).toNat)
  case atStart => exact ⟨0, Nat.zero_le _, rfl, by simp, HR.out, Only.refl _ _⟩
  case round =>
    obtain ⟨j, hj, rfl, rfl, hW, hO⟩ := hrel
    have HW := Lib.hid hW
    have HO := Lib.hid hO
    clear hW hO
    by_cases hlt : j < n
    · have d0 := HW.out.cell (i := j * 3) (by omega)
      have d1 := HW.out.cell (i := j * 3 + 1) (by omega)
      have d2 := HW.out.cell (i := j * 3 + 2) (by omega)
      rw [if_neg (by omega)] at d0 d1 d2
      have f0 := HW.out.frozen (j * 3)
      have f1 := HW.out.frozen (j * 3 + 1)
      have f2 := HW.out.frozen (j * 3 + 2)
      generalize d (j * 3) = v0 at d0
      generalize d (j * 3 + 1) = v1 at d1
      generalize d (j * 3 + 2) = v2 at d2
      go_wp2
      go_roundw
      case rel => exact ⟨j + 1, by omega, by go_num, congrArg (Value.int .i64) (by omega), mark3 HW.out (by omega) (by omega) (by omega), ((HO.out.set _ _).set _ _).set _ _⟩
      case measure => simp [intOf]; omega
    · have hj' : j = n := by omega
      subst hj'
      have HF := Lib.hid (HW.out.congr (d := numc k0) (fun i hi => if_pos hi))
      clear HW
      go_wp2
      go_ret
      exact ⟨rfl, HF.out, HO.out⟩

set_option maxHeartbeats 1000000 in
theorem heldPaperS_any (g n c : Nat) (k0 : Int) (w : World) (hk0 : 0 ≤ k0) (hk1 : k0 ≤ 1000000000) (hm : n ≤ 1048576) (hR : Row w g (n * 3) (numc k0)) :
    Calls Try.prog 42 #[.slice (some ⟨g, 0, none⟩) n c, .int .i64 k0] w fun e w' => e = .returned (.int .i64 (k0 + (n * 3 : Nat))) ∧ w = w' := by
  have HR := Lib.hid hR
  clear hR
  go_enter Try.func42, Try.ntmps42
  go_wp2
  go_loop [1, 5] (fun s i => ∃ j : Nat, j ≤ n ∧ i = .int .i64 j ∧ s = .int .i64 (k0 + (j * 3 : Nat))) (fun _ i => n - (intOf i).toNat)
  case atStart => exact ⟨0, Nat.zero_le _, rfl, by simp⟩
  case round =>
    obtain ⟨j, hj, rfl, rfl⟩ := hrel
    by_cases hlt : j < n
    · have d0 : w.cell? ⟨g, j * 3, none⟩ = some (.int .i64 (k0 + ↑j * 3)) := by rw [HR.out.cell (by omega)]; exact congrArg (fun x => some (Value.int .i64 x)) (by omega)
      have d1 : w.cell? ⟨g, j * 3 + 1, none⟩ = some (.int .i64 (k0 + ↑j * 3 + 1)) := by rw [HR.out.cell (by omega)]; exact congrArg (fun x => some (Value.int .i64 x)) (by omega)
      have d2 : w.cell? ⟨g, j * 3 + 2, none⟩ = some (.int .i64 (k0 + ↑j * 3 + 1 + 1)) := by rw [HR.out.cell (by omega)]; exact congrArg (fun x => some (Value.int .i64 x)) (by omega)
      go_wp2
      go_round
      case rel => exact ⟨j + 1, by omega, by go_num, congrArg (Value.int .i64) (by omega)⟩
      case measure => simp [intOf]; omega
    · have hj' : j = n := by omega
      subst hj'
      go_wp2
      go_ret
      exact ⟨rfl, rfl⟩
end Go.Proofs.Ytfekgafcbohmeaa
