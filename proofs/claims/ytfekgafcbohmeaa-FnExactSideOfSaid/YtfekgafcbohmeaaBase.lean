/-
  Contracts of the small tests 'within' and 'l01In' (program and reference): each returns whether a number lies between two others; no condition.
  By an AI agent.
-/
import Derived.Test.YtfekgafcbohmeaaRows
import Derived.WalkKit
import Derived.ProofKit
import Derived.OpenShut
namespace Go.Proofs.Ytfekgafcbohmeaa
open Go.ChangeShapes Go.WideShapes Go.ChangeAt Go.RowKit

theorem ret_int {k : IntKind} {a b : Int} (h : a = b) : Ending.returned (.int k a) = .returned (.int k b) := by rw [h]
theorem ret_bool {a b : Bool} (h : a = b) : Ending.returned (.bool a) = .returned (.bool b) := by rw [h]

def inB (x lo hi : Int) : Bool := decide (lo ≤ x) && decide (x ≤ hi)
theorem inB_t {x lo hi : Int} (h1 : lo ≤ x) (h2 : x ≤ hi) : inB x lo hi = true := by unfold inB; simp [h1, h2]
theorem inB_f {x lo hi : Int} (h : x < lo ∨ hi < x) : inB x lo hi = false := by
  unfold inB; rcases h with h | h
  · have : ¬ lo ≤ x := by omega
    simp [this]
  · have : ¬ x ≤ hi := by omega
    simp [this]
theorem inB_iff {x lo hi : Int} : inB x lo hi = true ↔ lo ≤ x ∧ x ≤ hi := by unfold inB; simp

theorem l01In_any (x lo hi : Int) (w : World) :
    Calls Try.prog 48 #[.int .i64 x, .int .i64 lo, .int .i64 hi] w fun e w' => e = .returned (.bool (inB x lo hi)) ∧ w = w' := by
  go_enter Try.func48, Try.ntmps48
  go_wp2
  · have h : lo ≤ x := by assumption
    go_ret
    exact ⟨ret_bool (by unfold inB; simp [h]), rfl⟩
  · have h : ¬ lo ≤ x := by have : x < lo := by assumption
                            omega
    go_ret
    exact ⟨ret_bool (by unfold inB; simp [h]), rfl⟩
theorem l01In_t (x lo hi : Int) (w : World) (h1 : lo ≤ x) (h2 : x ≤ hi) :
    Calls Try.prog 48 #[.int .i64 x, .int .i64 lo, .int .i64 hi] w fun e w' => e = .returned (.bool true) ∧ w = w' :=
  inB_t h1 h2 ▸ l01In_any x lo hi w
theorem l01In_f (x lo hi : Int) (w : World) (h : x < lo ∨ hi < x) :
    Calls Try.prog 48 #[.int .i64 x, .int .i64 lo, .int .i64 hi] w fun e w' => e = .returned (.bool false) ∧ w = w' :=
  inB_f h ▸ l01In_any x lo hi w

theorem within_any (x lo hi : Int) (w : World) :
    Calls Try.prog 49 #[.int .i64 x, .int .i64 lo, .int .i64 hi] w fun e w' => e = .returned (.bool (inB x lo hi)) ∧ w = w' := by
  go_enter Try.func49, Try.ntmps49
  go_wp2
  · have h : lo ≤ x := by assumption
    go_ret
    exact ⟨ret_bool (by unfold inB; simp [h]), rfl⟩
  · have h : ¬ lo ≤ x := by have : x < lo := by assumption
                            omega
    go_ret
    exact ⟨ret_bool (by unfold inB; simp [h]), rfl⟩
theorem within_t (x lo hi : Int) (w : World) (h1 : lo ≤ x) (h2 : x ≤ hi) :
    Calls Try.prog 49 #[.int .i64 x, .int .i64 lo, .int .i64 hi] w fun e w' => e = .returned (.bool true) ∧ w = w' :=
  inB_t h1 h2 ▸ within_any x lo hi w
theorem within_f (x lo hi : Int) (w : World) (h : x < lo ∨ hi < x) :
    Calls Try.prog 49 #[.int .i64 x, .int .i64 lo, .int .i64 hi] w fun e w' => e = .returned (.bool false) ∧ w = w' :=
  inB_f h ▸ within_any x lo hi w
end Go.Proofs.Ytfekgafcbohmeaa
