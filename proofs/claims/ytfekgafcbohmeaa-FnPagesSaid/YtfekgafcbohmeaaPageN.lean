/-
  Contracts of SheetsOfBook, SideOf, SheetOfPage in the program and in the reference, for pages from 1 to 400 and sheets and sides that are there.
  By an AI agent.
-/
import Derived.Test.YtfekgafcbohmeaaBase
import Derived.Lib.Hide
import Derived.Outline
namespace Go.Proofs.Ytfekgafcbohmeaa
open Go.ChangeShapes Go.WideShapes Go.ChangeAt Go.RowKit
set_option maxRecDepth 100000

def shq (pages : Int) : Int := (pages + 3) / 4
def real (pages p : Int) : Int := if pages < p then 0 else p
def sideL (pages s d : Int) : Int := if d = 0 then real pages (4 * shq pages - 2 * s) else real pages (2 * s + 2)
def sideR (pages s d : Int) : Int := if d = 0 then real pages (2 * s + 1) else real pages (4 * shq pages - 2 * s - 1)
def shOf (pages p : Int) : Int := if p ≤ 2 * shq pages then (p - 1) / 2 else (4 * shq pages - p) / 2
def sdOf (pages p : Int) : Int := if p ≤ 2 * shq pages then (if p % 2 = 1 then 0 else 1) else (if p % 2 = 1 then 1 else 0)

theorem shq_bd {pages : Int} (h1 : 1 ≤ pages) (h2 : pages ≤ 400) : 1 ≤ shq pages ∧ shq pages ≤ 100 ∧ pages ≤ 4 * shq pages ∧ 4 * shq pages ≤ pages + 3 := by unfold shq; omega
theorem sh_bd {pages p : Int} (h3 : 1 ≤ p) (h4 : p ≤ pages) : 0 ≤ shOf pages p ∧ shOf pages p < shq pages ∧ (sdOf pages p = 0 ∨ sdOf pages p = 1) := by
  unfold shOf sdOf shq; split <;> split <;> omega
theorem side_match {pages p s d : Int} (h1 : 1 ≤ pages) (h3 : 1 ≤ p) (h4 : p ≤ pages) (h5 : 0 ≤ s) (h6 : s < shq pages) (h7 : d = 0 ∨ d = 1) :
    (sideL pages s d = p ∨ sideR pages s d = p) ↔ s = shOf pages p ∧ d = sdOf pages p := by
  unfold sideL sideR shOf sdOf real shq at *
  rcases h7 with rfl | rfl
  · simp only [if_true]
    split <;> split <;> split <;> split <;> omega
  · simp only [if_neg (show ¬ ((1 : Int) = 0) by omega)]
    split <;> split <;> split <;> split <;> omega
theorem side_bd {pages s d : Int} (h1 : 1 ≤ pages) (h5 : 0 ≤ s) (h6 : s < shq pages) :
    0 ≤ sideL pages s d ∧ sideL pages s d ≤ pages ∧ 0 ≤ sideR pages s d ∧ sideR pages s d ≤ pages := by
  unfold sideL sideR real shq at *
  split <;> split <;> split <;> omega

theorem iSheetsOfBook_any (pages : Int) (w : World) (h1 : 1 ≤ pages) (h2 : pages ≤ 400) :
    Calls Try.prog 16 #[.int .i64 pages] w fun e w' => e = .returned (.int .i64 (shq pages)) ∧ w = w' := by
  go_enter Try.func16, Try.ntmps16
  go_wp2_with (first | (go_at_call 48; (first | refine (l01In_t _ _ _ _ (by omega) (by omega)).mono ?_ | refine (l01In_f _ _ _ _ (by omega)).mono ?_); rintro e w' ⟨rfl, rfl⟩) | (go_at_call 49; (first | refine (within_t _ _ _ _ (by omega) (by omega)).mono ?_ | refine (within_f _ _ _ _ (by omega)).mono ?_); rintro e w' ⟨rfl, rfl⟩))
  go_ret
  exact ⟨rfl, rfl⟩
theorem iSideOf_0 (pages s : Int) (w : World) (h1 : 1 ≤ pages) (h2 : pages ≤ 400) (h3 : 0 ≤ s) (h4 : s < shq pages) :
    Calls Try.prog 22 #[.int .i64 pages, .int .i64 s, .int .i64 0] w fun e w' => e = .returned (.tuple #[.int .i64 (sideL pages s 0), .int .i64 (sideR pages s 0)]) ∧ w = w' := by
  unfold sideL sideR real
  obtain ⟨q1, q2, q3, q4⟩ := shq_bd h1 h2
  simp only [if_true]
  by_cases c1 : pages < 4 * shq pages - 2 * s
  all_goals by_cases c2 : pages < 2 * s + 1
  all_goals (first | rw [if_pos c1] | rw [if_neg c1])
  all_goals (first | rw [if_pos c2] | rw [if_neg c2])
  all_goals go_enter Try.func22, Try.ntmps22
  all_goals go_wp2_with (first | (go_at_call 16; refine (iSheetsOfBook_any _ _ h1 h2).mono ?_; rintro e w' ⟨rfl, rfl⟩) | (go_at_call 48; (first | refine (l01In_t _ _ _ _ (by omega) (by omega)).mono ?_ | refine (l01In_f _ _ _ _ (by omega)).mono ?_); rintro e w' ⟨rfl, rfl⟩) | (go_at_call 49; (first | refine (within_t _ _ _ _ (by omega) (by omega)).mono ?_ | refine (within_f _ _ _ _ (by omega)).mono ?_); rintro e w' ⟨rfl, rfl⟩) | go_in)
  all_goals go_ret2
  all_goals exact ⟨rfl, rfl⟩
theorem iSideOf_1 (pages s : Int) (w : World) (h1 : 1 ≤ pages) (h2 : pages ≤ 400) (h3 : 0 ≤ s) (h4 : s < shq pages) :
    Calls Try.prog 22 #[.int .i64 pages, .int .i64 s, .int .i64 1] w fun e w' => e = .returned (.tuple #[.int .i64 (sideL pages s 1), .int .i64 (sideR pages s 1)]) ∧ w = w' := by
  unfold sideL sideR real
  obtain ⟨q1, q2, q3, q4⟩ := shq_bd h1 h2
  simp only [if_neg (show ¬ ((1 : Int) = 0) by omega)]
  by_cases c1 : pages < 2 * s + 2
  all_goals by_cases c2 : pages < 4 * shq pages - 2 * s - 1
  all_goals (first | rw [if_pos c1] | rw [if_neg c1])
  all_goals (first | rw [if_pos c2] | rw [if_neg c2])
  all_goals go_enter Try.func22, Try.ntmps22
  all_goals go_wp2_with (first | (go_at_call 16; refine (iSheetsOfBook_any _ _ h1 h2).mono ?_; rintro e w' ⟨rfl, rfl⟩) | (go_at_call 48; (first | refine (l01In_t _ _ _ _ (by omega) (by omega)).mono ?_ | refine (l01In_f _ _ _ _ (by omega)).mono ?_); rintro e w' ⟨rfl, rfl⟩) | (go_at_call 49; (first | refine (within_t _ _ _ _ (by omega) (by omega)).mono ?_ | refine (within_f _ _ _ _ (by omega)).mono ?_); rintro e w' ⟨rfl, rfl⟩) | go_in)
  all_goals go_ret2
  all_goals exact ⟨rfl, rfl⟩
theorem iSideOf_any (pages s d : Int) (w : World) (h1 : 1 ≤ pages) (h2 : pages ≤ 400) (h3 : 0 ≤ s) (h4 : s < shq pages) (h5 : 0 ≤ d) (h6 : d ≤ 1) :
    Calls Try.prog 22 #[.int .i64 pages, .int .i64 s, .int .i64 d] w fun e w' => e = .returned (.tuple #[.int .i64 (sideL pages s d), .int .i64 (sideR pages s d)]) ∧ w = w' := by
  have : d = 0 ∨ d = 1 := by omega
  rcases this with rfl | rfl
  · exact iSideOf_0 pages s w h1 h2 h3 h4
  · exact iSideOf_1 pages s w h1 h2 h3 h4
theorem sSheetsOfBook_any (pages : Int) (w : World) (h1 : 1 ≤ pages) (h2 : pages ≤ 400) :
    Calls Try.prog 15 #[.int .i64 pages] w fun e w' => e = .returned (.int .i64 (shq pages)) ∧ w = w' := by
  go_enter Try.func15, Try.ntmps15
  go_wp2_with (first | (go_at_call 48; (first | refine (l01In_t _ _ _ _ (by omega) (by omega)).mono ?_ | refine (l01In_f _ _ _ _ (by omega)).mono ?_); rintro e w' ⟨rfl, rfl⟩) | (go_at_call 49; (first | refine (within_t _ _ _ _ (by omega) (by omega)).mono ?_ | refine (within_f _ _ _ _ (by omega)).mono ?_); rintro e w' ⟨rfl, rfl⟩))
  go_ret
  exact ⟨rfl, rfl⟩
theorem sSideOf_0 (pages s : Int) (w : World) (h1 : 1 ≤ pages) (h2 : pages ≤ 400) (h3 : 0 ≤ s) (h4 : s < shq pages) :
    Calls Try.prog 21 #[.int .i64 pages, .int .i64 s, .int .i64 0] w fun e w' => e = .returned (.tuple #[.int .i64 (sideL pages s 0), .int .i64 (sideR pages s 0)]) ∧ w = w' := by
  unfold sideL sideR real
  obtain ⟨q1, q2, q3, q4⟩ := shq_bd h1 h2
  simp only [if_true]
  by_cases c1 : pages < 4 * shq pages - 2 * s
  all_goals by_cases c2 : pages < 2 * s + 1
  all_goals (first | rw [if_pos c1] | rw [if_neg c1])
  all_goals (first | rw [if_pos c2] | rw [if_neg c2])
  all_goals go_enter Try.func21, Try.ntmps21
  all_goals go_wp2_with (first | (go_at_call 15; refine (sSheetsOfBook_any _ _ h1 h2).mono ?_; rintro e w' ⟨rfl, rfl⟩) | (go_at_call 48; (first | refine (l01In_t _ _ _ _ (by omega) (by omega)).mono ?_ | refine (l01In_f _ _ _ _ (by omega)).mono ?_); rintro e w' ⟨rfl, rfl⟩) | (go_at_call 49; (first | refine (within_t _ _ _ _ (by omega) (by omega)).mono ?_ | refine (within_f _ _ _ _ (by omega)).mono ?_); rintro e w' ⟨rfl, rfl⟩) | go_in)
  all_goals go_ret2
  all_goals exact ⟨rfl, rfl⟩
theorem sSideOf_1 (pages s : Int) (w : World) (h1 : 1 ≤ pages) (h2 : pages ≤ 400) (h3 : 0 ≤ s) (h4 : s < shq pages) :
    Calls Try.prog 21 #[.int .i64 pages, .int .i64 s, .int .i64 1] w fun e w' => e = .returned (.tuple #[.int .i64 (sideL pages s 1), .int .i64 (sideR pages s 1)]) ∧ w = w' := by
  unfold sideL sideR real
  obtain ⟨q1, q2, q3, q4⟩ := shq_bd h1 h2
  simp only [if_neg (show ¬ ((1 : Int) = 0) by omega)]
  by_cases c1 : pages < 2 * s + 2
  all_goals by_cases c2 : pages < 4 * shq pages - 2 * s - 1
  all_goals (first | rw [if_pos c1] | rw [if_neg c1])
  all_goals (first | rw [if_pos c2] | rw [if_neg c2])
  all_goals go_enter Try.func21, Try.ntmps21
  all_goals go_wp2_with (first | (go_at_call 15; refine (sSheetsOfBook_any _ _ h1 h2).mono ?_; rintro e w' ⟨rfl, rfl⟩) | (go_at_call 48; (first | refine (l01In_t _ _ _ _ (by omega) (by omega)).mono ?_ | refine (l01In_f _ _ _ _ (by omega)).mono ?_); rintro e w' ⟨rfl, rfl⟩) | (go_at_call 49; (first | refine (within_t _ _ _ _ (by omega) (by omega)).mono ?_ | refine (within_f _ _ _ _ (by omega)).mono ?_); rintro e w' ⟨rfl, rfl⟩) | go_in)
  all_goals go_ret2
  all_goals exact ⟨rfl, rfl⟩
theorem sSideOf_any (pages s d : Int) (w : World) (h1 : 1 ≤ pages) (h2 : pages ≤ 400) (h3 : 0 ≤ s) (h4 : s < shq pages) (h5 : 0 ≤ d) (h6 : d ≤ 1) :
    Calls Try.prog 21 #[.int .i64 pages, .int .i64 s, .int .i64 d] w fun e w' => e = .returned (.tuple #[.int .i64 (sideL pages s d), .int .i64 (sideR pages s d)]) ∧ w = w' := by
  have : d = 0 ∨ d = 1 := by omega
  rcases this with rfl | rfl
  · exact sSideOf_0 pages s w h1 h2 h3 h4
  · exact sSideOf_1 pages s w h1 h2 h3 h4
theorem sSheetOfPage_any (pages p : Int) (w : World) (h1 : 1 ≤ pages) (h2 : pages ≤ 400) (h3 : 1 ≤ p) (h4 : p ≤ pages) :
    Calls Try.prog 23 #[.int .i64 pages, .int .i64 p] w fun e w' => e = .returned (.tuple #[.int .i64 (shOf pages p), .int .i64 (sdOf pages p)]) ∧ w = w' := by
  obtain ⟨b1, b2, b3⟩ := sh_bd h3 h4
  obtain ⟨q1, q2, q3, q4⟩ := shq_bd h1 h2
  go_enter Try.func23, Try.ntmps23
  go_wp2_with (first | (go_at_call 48; (first | refine (l01In_t _ _ _ _ (by omega) (by omega)).mono ?_ | refine (l01In_f _ _ _ _ (by omega)).mono ?_); rintro e w' ⟨rfl, rfl⟩) | (go_at_call 49; (first | refine (within_t _ _ _ _ (by omega) (by omega)).mono ?_ | refine (within_f _ _ _ _ (by omega)).mono ?_); rintro e w' ⟨rfl, rfl⟩) | (go_at_call 16; refine (iSheetsOfBook_any _ _ h1 h2).mono ?_; rintro e w' ⟨rfl, rfl⟩))
  go_loop [6] (fun i => ∃ k : Nat, (k : Int) ≤ shOf pages p ∧ i = .int .i64 k) (fun i => (100 - intOf i).toNat)
  case atStart => exact ⟨0, by omega, rfl⟩
  case round =>
    obtain ⟨k, hk, rfl⟩ := hrel
    have hq : (k : Int) < shq pages := by omega
    go_wp2_with (first | (go_at_call 15; refine (sSheetsOfBook_any _ _ h1 h2).mono ?_; rintro e w' ⟨rfl, rfl⟩))
    go_loop [7] (fun i => ∃ m : Nat, m ≤ 2 ∧ ((k : Int) = shOf pages p → (m : Int) ≤ sdOf pages p) ∧ i = .int .i64 m) (fun i => (2 - intOf i).toNat)
    case atStart => exact ⟨0, by omega, by omega, rfl⟩
    case round =>
      obtain ⟨m, hm, hm2, rfl⟩ := hrel
      by_cases c : m < 2
      · have M := side_match (s := k) (d := m) h1 h3 h4 (by omega) (by omega) (by omega)
        by_cases e : (k : Int) = shOf pages p ∧ (m : Int) = sdOf pages p
        · obtain ⟨e1, e2⟩ := e
          have M1 := Lib.hid (M.2 ⟨e1, e2⟩)
          have E1 := Lib.hid e1
          have E2 := Lib.hid e2
          clear M e1 e2 b1 b2 b3 hk hm hm2
          by_cases cl : sideL pages k m = p
          · have L : (sideL pages k m == p) = true := by simpa using cl
            clear cl
            go_wp2_with (first | (go_at_call 21; refine (sSideOf_any _ _ _ _ h1 h2 (by omega) (by omega) (by omega) (by omega)).mono ?_; rintro e w' ⟨rfl, rfl⟩))
            go_ret2
            exact ⟨ret_int2 E1.out E2.out, rfl⟩
          · have L : (sideL pages k m == p) = false := by simpa using cl
            have R : (sideR pages k m == p) = true := by simpa using (M1.out.resolve_left cl)
            clear cl
            go_wp2_with (first | (go_at_call 21; refine (sSideOf_any _ _ _ _ h1 h2 (by omega) (by omega) (by omega) (by omega)).mono ?_; rintro e w' ⟨rfl, rfl⟩))
            go_ret2
            exact ⟨ret_int2 E1.out E2.out, rfl⟩
        · have M1 : ¬ (sideL pages k m = p) := fun h => e (M.1 (.inl h))
          have M2 : ¬ (sideR pages k m = p) := fun h => e (M.1 (.inr h))
          have L : (sideL pages k m == p) = false := by simpa using M1
          have R : (sideR pages k m == p) = false := by simpa using M2
          have X : Hid ((k : Int) = shOf pages p → ((m + 1 : Nat) : Int) ≤ sdOf pages p) := Lib.hid (by intro h; have := hm2 h; omega)
          clear M M1 M2 e hm2
          go_wp2_with (first | (go_at_call 21; refine (sSideOf_any _ _ _ _ h1 h2 (by omega) (by omega) (by omega) (by omega)).mono ?_; rintro e w' ⟨rfl, rfl⟩))
          go_round
          case rel => exact ⟨m + 1, by omega, X.out, by go_num⟩
          case measure => simp [intOf]; omega
      · have hm' : m = 2 := by omega
        subst hm'
        have : (k : Int) < shOf pages p := by omega
        clear hm2
        go_wp2
        go_round
        case rel => exact ⟨k + 1, by omega, by go_num⟩
        case measure => simp [intOf]; omega
theorem sSheetOfPage_no (pages p : Int) (w : World) (h : (pages < 1 ∨ 400 < pages) ∨ (1 ≤ pages ∧ pages ≤ 400 ∧ (p < 1 ∨ pages < p))) :
    Calls Try.prog 23 #[.int .i64 pages, .int .i64 p] w fun e w' => e = .returned (.tuple #[.int .i64 (-1), .int .i64 (-1)]) ∧ w = w' := by
  rcases h with h | ⟨h1, h2, h⟩
  all_goals go_enter Try.func23, Try.ntmps23
  all_goals go_wp2_with (first | (go_at_call 48; (first | refine (l01In_t _ _ _ _ (by omega) (by omega)).mono ?_ | refine (l01In_f _ _ _ _ (by omega)).mono ?_); rintro e w' ⟨rfl, rfl⟩) | (go_at_call 49; (first | refine (within_t _ _ _ _ (by omega) (by omega)).mono ?_ | refine (within_f _ _ _ _ (by omega)).mono ?_); rintro e w' ⟨rfl, rfl⟩))
  all_goals go_ret2
  all_goals exact ⟨rfl, rfl⟩
theorem iSheetOfPage_any (pages p : Int) (w : World) (h1 : 1 ≤ pages) (h2 : pages ≤ 400) (h3 : 1 ≤ p) (h4 : p ≤ pages) :
    Calls Try.prog 24 #[.int .i64 pages, .int .i64 p] w fun e w' => e = .returned (.tuple #[.int .i64 (shOf pages p), .int .i64 (sdOf pages p)]) ∧ w = w' := by
  obtain ⟨b1, b2, b3⟩ := sh_bd h3 h4
  obtain ⟨q1, q2, q3, q4⟩ := shq_bd h1 h2
  go_enter Try.func24, Try.ntmps24
  go_wp2_with (first | (go_at_call 48; (first | refine (l01In_t _ _ _ _ (by omega) (by omega)).mono ?_ | refine (l01In_f _ _ _ _ (by omega)).mono ?_); rintro e w' ⟨rfl, rfl⟩) | (go_at_call 49; (first | refine (within_t _ _ _ _ (by omega) (by omega)).mono ?_ | refine (within_f _ _ _ _ (by omega)).mono ?_); rintro e w' ⟨rfl, rfl⟩) | (go_at_call 16; refine (iSheetsOfBook_any _ _ h1 h2).mono ?_; rintro e w' ⟨rfl, rfl⟩))
  go_loop [21] (fun i => ∃ k : Nat, (k : Int) ≤ shOf pages p ∧ i = .int .i64 k) (fun i => (100 - intOf i).toNat)
  case atStart => exact ⟨0, by omega, rfl⟩
  case round =>
    obtain ⟨k, hk, rfl⟩ := hrel
    have hq : (k : Int) < shq pages := by omega
    go_wp2_with (first | (go_at_call 15; refine (sSheetsOfBook_any _ _ h1 h2).mono ?_; rintro e w' ⟨rfl, rfl⟩))
    go_loop [24] (fun i => ∃ m : Nat, m ≤ 2 ∧ ((k : Int) = shOf pages p → (m : Int) ≤ sdOf pages p) ∧ i = .int .i64 m) (fun i => (2 - intOf i).toNat)
    case atStart => exact ⟨0, by omega, by omega, rfl⟩
    case round =>
      obtain ⟨m, hm, hm2, rfl⟩ := hrel
      by_cases c : m < 2
      · have M := side_match (s := k) (d := m) h1 h3 h4 (by omega) (by omega) (by omega)
        by_cases e : (k : Int) = shOf pages p ∧ (m : Int) = sdOf pages p
        · obtain ⟨e1, e2⟩ := e
          have M1 := Lib.hid (M.2 ⟨e1, e2⟩)
          have E1 := Lib.hid e1
          have E2 := Lib.hid e2
          clear M e1 e2 b1 b2 b3 hk hm hm2
          by_cases cl : sideL pages k m = p
          · have L : (sideL pages k m == p) = true := by simpa using cl
            clear cl
            go_wp2_with (first | (go_at_call 22; refine (iSideOf_any _ _ _ _ h1 h2 (by omega) (by omega) (by omega) (by omega)).mono ?_; rintro e w' ⟨rfl, rfl⟩))
            go_ret2
            exact ⟨ret_int2 E1.out E2.out, rfl⟩
          · have L : (sideL pages k m == p) = false := by simpa using cl
            have R : (sideR pages k m == p) = true := by simpa using (M1.out.resolve_left cl)
            clear cl
            go_wp2_with (first | (go_at_call 22; refine (iSideOf_any _ _ _ _ h1 h2 (by omega) (by omega) (by omega) (by omega)).mono ?_; rintro e w' ⟨rfl, rfl⟩))
            go_ret2
            exact ⟨ret_int2 E1.out E2.out, rfl⟩
        · have M1 : ¬ (sideL pages k m = p) := fun h => e (M.1 (.inl h))
          have M2 : ¬ (sideR pages k m = p) := fun h => e (M.1 (.inr h))
          have L : (sideL pages k m == p) = false := by simpa using M1
          have R : (sideR pages k m == p) = false := by simpa using M2
          have X : Hid ((k : Int) = shOf pages p → ((m + 1 : Nat) : Int) ≤ sdOf pages p) := Lib.hid (by intro h; have := hm2 h; omega)
          clear M M1 M2 e hm2
          go_wp2_with (first | (go_at_call 22; refine (iSideOf_any _ _ _ _ h1 h2 (by omega) (by omega) (by omega) (by omega)).mono ?_; rintro e w' ⟨rfl, rfl⟩))
          go_round
          case rel => exact ⟨m + 1, by omega, X.out, by go_num⟩
          case measure => simp [intOf]; omega
      · have hm' : m = 2 := by omega
        subst hm'
        have : (k : Int) < shOf pages p := by omega
        clear hm2
        go_wp2
        go_round
        case rel => exact ⟨k + 1, by omega, by go_num⟩
        case measure => simp [intOf]; omega
theorem iSheetOfPage_no (pages p : Int) (w : World) (h : (pages < 1 ∨ 400 < pages) ∨ (1 ≤ pages ∧ pages ≤ 400 ∧ (p < 1 ∨ pages < p))) :
    Calls Try.prog 24 #[.int .i64 pages, .int .i64 p] w fun e w' => e = .returned (.tuple #[.int .i64 (-1), .int .i64 (-1)]) ∧ w = w' := by
  rcases h with h | ⟨h1, h2, h⟩
  all_goals go_enter Try.func24, Try.ntmps24
  all_goals go_wp2_with (first | (go_at_call 48; (first | refine (l01In_t _ _ _ _ (by omega) (by omega)).mono ?_ | refine (l01In_f _ _ _ _ (by omega)).mono ?_); rintro e w' ⟨rfl, rfl⟩) | (go_at_call 49; (first | refine (within_t _ _ _ _ (by omega) (by omega)).mono ?_ | refine (within_f _ _ _ _ (by omega)).mono ?_); rintro e w' ⟨rfl, rfl⟩))
  all_goals go_ret2
  all_goals exact ⟨rfl, rfl⟩
end Go.Proofs.Ytfekgafcbohmeaa
