/-
  Contracts of BlankOf, FitOn, BestFit and SheetsFor in the program and in the reference.
  By an AI agent.
-/
import Derived.Test.YtjffhbcikdcahaaCard
import Derived.Deep.RegionHeld3
namespace Go.Proofs.Ytjffhbcikdcahaa
open Go.ChangeShapes Go.WideShapes Go.ChangeAt Go.RowKit Go.Joins Go.Deep
set_option maxRecDepth 100000
set_option linter.unusedVariables false

theorem iBlankOf_yes (d f : Int) (a : Option Addr) (n c : Nat) (ss : List ByteArray) (w : World) (hl : ss.length = n) (hm : (n : Int) + tot ss n ≤ 1048576) (hR : SlR w a n (sc ss)) (hok : cardOkB d f ss = true) :
    Calls Try.prog 23 #[.agg #[.int .i64 d, .int .i64 f, .slice a n c]] w fun e w' => e = .returned (.tuple #[.int .i64 n, .int .i64 (d + f)]) ∧ Below w.heap.size w w' := by
  obtain ⟨⟨q1, q2, q3, q4, q5, q6⟩, _⟩ := cardOk_iff.1 hok
  have HB0 := Lib.hid ((Below.refl w.heap.size w).alloc (Nat.le_refl _) (.cells #[.int .i64 d, .int .i64 f, .slice a n c] 32 (0, 0)))
  have HR := Lib.hid (hR.below HB0.out)
  have HL := Lib.hid hl
  have HOK := Lib.hid hok
  clear hR hl hok
  go_enter Try.func23, Try.ntmps23
  go_wp2_with (go_at_call 67; refine (iCardOk_any _ _ _ _ _ _ _ HL.out hm HR.out).mono ?_; rw [HOK.out]; rintro e w1 ⟨rfl, hb⟩; obtain ⟨b0, b1, b2⟩ := box3 hb)
  have s1 : IntKind.i64.wrap (d + f) = d + f := IntWalk.i64_in _ (by omega)
  go_quiet (fail)
  clear s1
  go_wp2
  go_ret2
  exact ⟨rfl, HB0.out.trans ((below_drewN hb _).mono (by simp))⟩
theorem iBlankOf_no (d f : Int) (a : Option Addr) (n c : Nat) (ss : List ByteArray) (w : World) (hl : ss.length = n) (hm : (n : Int) + tot ss n ≤ 1048576) (hR : SlR w a n (sc ss)) (hok : cardOkB d f ss = false) :
    Calls Try.prog 23 #[.agg #[.int .i64 d, .int .i64 f, .slice a n c]] w fun e w' => e = .returned (.tuple #[.int .i64 0, .int .i64 0]) ∧ Below w.heap.size w w' := by
  have HB0 := Lib.hid ((Below.refl w.heap.size w).alloc (Nat.le_refl _) (.cells #[.int .i64 d, .int .i64 f, .slice a n c] 32 (0, 0)))
  have HR := Lib.hid (hR.below HB0.out)
  have HL := Lib.hid hl
  have HOK := Lib.hid hok
  clear hR hl hok
  go_enter Try.func23, Try.ntmps23
  go_wp2_with (go_at_call 67; refine (iCardOk_any _ _ _ _ _ _ _ HL.out hm HR.out).mono ?_; rw [HOK.out]; rintro e w1 ⟨rfl, hb⟩)
  go_ret2
  exact ⟨rfl, HB0.out.trans (hb.mono (by simp))⟩
theorem sBlankOf_yes (d f : Int) (a : Option Addr) (n c : Nat) (ss : List ByteArray) (w : World) (hl : ss.length = n) (hm : (n : Int) + tot ss n ≤ 1048576) (hR : SlR w a n (sc ss)) (hok : cardOkB d f ss = true) :
    Calls Try.prog 30 #[.agg #[.int .i64 d, .int .i64 f, .slice a n c]] w fun e w' => e = .returned (.tuple #[.int .i64 n, .int .i64 (d + f)]) ∧ Below w.heap.size w w' := by
  obtain ⟨⟨q1, q2, q3, q4, q5, q6⟩, _⟩ := cardOk_iff.1 hok
  have HB0 := Lib.hid ((Below.refl w.heap.size w).alloc (Nat.le_refl _) (.cells #[.int .i64 d, .int .i64 f, .slice a n c] 32 (0, 0)))
  have HR := Lib.hid (hR.below HB0.out)
  have HL := Lib.hid hl
  have HOK := Lib.hid hok
  clear hR hl hok
  go_enter Try.func30, Try.ntmps30
  go_wp2_with (go_at_call 70; refine (sCardOk_any _ _ _ _ _ _ _ HL.out hm HR.out).mono ?_; rw [HOK.out]; rintro e w1 ⟨rfl, hb⟩; obtain ⟨b0, b1, b2⟩ := box3 hb)
  have s1 : IntKind.i64.wrap (d + f) = d + f := IntWalk.i64_in _ (by omega)
  go_quiet (fail)
  clear s1
  go_wp2
  go_ret2
  exact ⟨rfl, HB0.out.trans ((below_drewN hb _).mono (by simp))⟩
theorem sBlankOf_no (d f : Int) (a : Option Addr) (n c : Nat) (ss : List ByteArray) (w : World) (hl : ss.length = n) (hm : (n : Int) + tot ss n ≤ 1048576) (hR : SlR w a n (sc ss)) (hok : cardOkB d f ss = false) :
    Calls Try.prog 30 #[.agg #[.int .i64 d, .int .i64 f, .slice a n c]] w fun e w' => e = .returned (.tuple #[.int .i64 0, .int .i64 0]) ∧ Below w.heap.size w w' := by
  have HB0 := Lib.hid ((Below.refl w.heap.size w).alloc (Nat.le_refl _) (.cells #[.int .i64 d, .int .i64 f, .slice a n c] 32 (0, 0)))
  have HR := Lib.hid (hR.below HB0.out)
  have HL := Lib.hid hl
  have HOK := Lib.hid hok
  clear hR hl hok
  go_enter Try.func30, Try.ntmps30
  go_wp2_with (go_at_call 70; refine (sCardOk_any _ _ _ _ _ _ _ HL.out hm HR.out).mono ?_; rw [HOK.out]; rintro e w1 ⟨rfl, hb⟩)
  go_ret2
  exact ⟨rfl, HB0.out.trans (hb.mono (by simp))⟩
def blkN (d f : Int) (ss : List ByteArray) : Int := if cardOkB d f ss = true then ss.length else 0
def blkH (d f : Int) (ss : List ByteArray) : Int := if cardOkB d f ss = true then d + f else 0
theorem iBlankOf_any (d f : Int) (a : Option Addr) (n c : Nat) (ss : List ByteArray) (w : World) (hl : ss.length = n) (hm : (n : Int) + tot ss n ≤ 1048576) (hR : SlR w a n (sc ss)) :
    Calls Try.prog 23 #[.agg #[.int .i64 d, .int .i64 f, .slice a n c]] w fun e w' => e = .returned (.tuple #[.int .i64 (blkN d f ss), .int .i64 (blkH d f ss)]) ∧ Below w.heap.size w w' := by
  unfold blkN blkH
  cases ho : cardOkB d f ss
  · exact iBlankOf_no d f a n c ss w hl hm hR ho
  · rw [if_pos rfl, if_pos rfl, hl]; exact iBlankOf_yes d f a n c ss w hl hm hR ho
theorem sBlankOf_any (d f : Int) (a : Option Addr) (n c : Nat) (ss : List ByteArray) (w : World) (hl : ss.length = n) (hm : (n : Int) + tot ss n ≤ 1048576) (hR : SlR w a n (sc ss)) :
    Calls Try.prog 30 #[.agg #[.int .i64 d, .int .i64 f, .slice a n c]] w fun e w' => e = .returned (.tuple #[.int .i64 (blkN d f ss), .int .i64 (blkH d f ss)]) ∧ Below w.heap.size w w' := by
  unfold blkN blkH
  cases ho : cardOkB d f ss
  · exact sBlankOf_no d f a n c ss w hl hm hR ho
  · rw [if_pos rfl, if_pos rfl, hl]; exact sBlankOf_yes d f a n c ss w hl hm hR ho
end Go.Proofs.Ytjffhbcikdcahaa
