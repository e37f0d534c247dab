/-
  Contracts of BlankOf, FitOn, BestFit and SheetsFor in the program and in the reference.
  By an AI agent.
-/
import Derived.Test.YtoflcjgimkbgpaaCard
import Derived.Deep.RegionHeld3
namespace Go.Proofs.Ytoflcjgimkbgpaa
open Go.ChangeShapes Go.WideShapes Go.ChangeAt Go.RowKit Go.Joins Go.Deep
set_option maxRecDepth 100000
set_option linter.unusedVariables false

theorem iBlankOf_yes (d f : Int) (a : Option Addr) (n c : Nat) (ss : List ByteArray) (w : World) (hl : ss.length = n) (hm : (n : Int) + tot ss n ≤ 1048576) (hR : SlR w a n (sc ss)) (hok : cardOkB d f ss = true) :
    Calls Try.prog 17 #[.agg #[.int .i64 d, .int .i64 f, .slice a n c]] w fun e w' => e = .returned (.tuple #[.int .i64 n, .int .i64 (d + f)]) ∧ Below w.heap.size w w' := by
  obtain ⟨⟨q1, q2, q3, q4, q5, q6⟩, _⟩ := cardOk_iff.1 hok
  have HB0 := Lib.hid ((Below.refl w.heap.size w).alloc (Nat.le_refl _) (.cells #[.int .i64 d, .int .i64 f, .slice a n c] 26 (0, 0)))
  have HR := Lib.hid (hR.below HB0.out)
  have HL := Lib.hid hl
  have HOK := Lib.hid hok
  clear hR hl hok
  go_enter Try.func17, Try.ntmps17
  go_wp2_with (go_at_call 57; refine (iCardOk_any _ _ _ _ _ _ _ HL.out hm HR.out).mono ?_; rw [HOK.out]; rintro e w1 ⟨rfl, hb⟩; obtain ⟨b0, b1, b2⟩ := box3 hb)
  have s1 : IntKind.i64.wrap (d + f) = d + f := IntWalk.i64_in _ (by omega)
  go_quiet (fail)
  clear s1
  go_wp2
  go_ret2
  exact ⟨rfl, HB0.out.trans ((below_drewN hb _).mono (by simp))⟩
theorem iBlankOf_no (d f : Int) (a : Option Addr) (n c : Nat) (ss : List ByteArray) (w : World) (hl : ss.length = n) (hm : (n : Int) + tot ss n ≤ 1048576) (hR : SlR w a n (sc ss)) (hok : cardOkB d f ss = false) :
    Calls Try.prog 17 #[.agg #[.int .i64 d, .int .i64 f, .slice a n c]] w fun e w' => e = .returned (.tuple #[.int .i64 0, .int .i64 0]) ∧ Below w.heap.size w w' := by
  have HB0 := Lib.hid ((Below.refl w.heap.size w).alloc (Nat.le_refl _) (.cells #[.int .i64 d, .int .i64 f, .slice a n c] 26 (0, 0)))
  have HR := Lib.hid (hR.below HB0.out)
  have HL := Lib.hid hl
  have HOK := Lib.hid hok
  clear hR hl hok
  go_enter Try.func17, Try.ntmps17
  go_wp2_with (go_at_call 57; refine (iCardOk_any _ _ _ _ _ _ _ HL.out hm HR.out).mono ?_; rw [HOK.out]; rintro e w1 ⟨rfl, hb⟩)
  go_ret2
  exact ⟨rfl, HB0.out.trans (hb.mono (by simp))⟩
theorem sBlankOf_yes (d f : Int) (a : Option Addr) (n c : Nat) (ss : List ByteArray) (w : World) (hl : ss.length = n) (hm : (n : Int) + tot ss n ≤ 1048576) (hR : SlR w a n (sc ss)) (hok : cardOkB d f ss = true) :
    Calls Try.prog 33 #[.agg #[.int .i64 d, .int .i64 f, .slice a n c]] w fun e w' => e = .returned (.tuple #[.int .i64 n, .int .i64 (d + f)]) ∧ Below w.heap.size w w' := by
  obtain ⟨⟨q1, q2, q3, q4, q5, q6⟩, _⟩ := cardOk_iff.1 hok
  have HB0 := Lib.hid ((Below.refl w.heap.size w).alloc (Nat.le_refl _) (.cells #[.int .i64 d, .int .i64 f, .slice a n c] 26 (0, 0)))
  have HR := Lib.hid (hR.below HB0.out)
  have HL := Lib.hid hl
  have HOK := Lib.hid hok
  clear hR hl hok
  go_enter Try.func33, Try.ntmps33
  go_wp2_with (go_at_call 66; refine (sCardOk_any _ _ _ _ _ _ _ HL.out hm HR.out).mono ?_; rw [HOK.out]; rintro e w1 ⟨rfl, hb⟩; obtain ⟨b0, b1, b2⟩ := box3 hb)
  have s1 : IntKind.i64.wrap (d + f) = d + f := IntWalk.i64_in _ (by omega)
  go_quiet (fail)
  clear s1
  go_wp2
  go_ret2
  exact ⟨rfl, HB0.out.trans ((below_drewN hb _).mono (by simp))⟩
theorem sBlankOf_no (d f : Int) (a : Option Addr) (n c : Nat) (ss : List ByteArray) (w : World) (hl : ss.length = n) (hm : (n : Int) + tot ss n ≤ 1048576) (hR : SlR w a n (sc ss)) (hok : cardOkB d f ss = false) :
    Calls Try.prog 33 #[.agg #[.int .i64 d, .int .i64 f, .slice a n c]] w fun e w' => e = .returned (.tuple #[.int .i64 0, .int .i64 0]) ∧ Below w.heap.size w w' := by
  have HB0 := Lib.hid ((Below.refl w.heap.size w).alloc (Nat.le_refl _) (.cells #[.int .i64 d, .int .i64 f, .slice a n c] 26 (0, 0)))
  have HR := Lib.hid (hR.below HB0.out)
  have HL := Lib.hid hl
  have HOK := Lib.hid hok
  clear hR hl hok
  go_enter Try.func33, Try.ntmps33
  go_wp2_with (go_at_call 66; refine (sCardOk_any _ _ _ _ _ _ _ HL.out hm HR.out).mono ?_; rw [HOK.out]; rintro e w1 ⟨rfl, hb⟩)
  go_ret2
  exact ⟨rfl, HB0.out.trans (hb.mono (by simp))⟩
def blkN (d f : Int) (ss : List ByteArray) : Int := if cardOkB d f ss = true then ss.length else 0
def blkH (d f : Int) (ss : List ByteArray) : Int := if cardOkB d f ss = true then d + f else 0
theorem iBlankOf_any (d f : Int) (a : Option Addr) (n c : Nat) (ss : List ByteArray) (w : World) (hl : ss.length = n) (hm : (n : Int) + tot ss n ≤ 1048576) (hR : SlR w a n (sc ss)) :
    Calls Try.prog 17 #[.agg #[.int .i64 d, .int .i64 f, .slice a n c]] w fun e w' => e = .returned (.tuple #[.int .i64 (blkN d f ss), .int .i64 (blkH d f ss)]) ∧ Below w.heap.size w w' := by
  unfold blkN blkH
  cases ho : cardOkB d f ss
  · exact iBlankOf_no d f a n c ss w hl hm hR ho
  · rw [if_pos rfl, if_pos rfl, hl]; exact iBlankOf_yes d f a n c ss w hl hm hR ho
theorem sBlankOf_any (d f : Int) (a : Option Addr) (n c : Nat) (ss : List ByteArray) (w : World) (hl : ss.length = n) (hm : (n : Int) + tot ss n ≤ 1048576) (hR : SlR w a n (sc ss)) :
    Calls Try.prog 33 #[.agg #[.int .i64 d, .int .i64 f, .slice a n c]] w fun e w' => e = .returned (.tuple #[.int .i64 (blkN d f ss), .int .i64 (blkH d f ss)]) ∧ Below w.heap.size w w' := by
  unfold blkN blkH
  cases ho : cardOkB d f ss
  · exact sBlankOf_no d f a n c ss w hl hm hR ho
  · rw [if_pos rfl, if_pos rfl, hl]; exact sBlankOf_yes d f a n c ss w hl hm hR ho

def inR (x : Int) : Bool := decide (1 ≤ x ∧ x ≤ 200)
theorem inR_iff {x : Int} : inR x = true ↔ 1 ≤ x ∧ x ≤ 200 := by unfold inR; simp
theorem inR_f {x : Int} (h : inR x = false) : x < 1 ∨ 200 < x := by
  have : ¬ inR x = true := by rw [h]; simp
  rw [inR_iff] at this; omega
def fitOf (x y d f : Int) (ss : List ByteArray) : Int := if cardOkB d f ss = true ∧ inR x = true ∧ inR y = true then x.tdiv ss.length * y.tdiv (d + f) else 0
theorem fit_bd {x y n h : Int} (hx : 1 ≤ x ∧ x ≤ 200) (hy : 1 ≤ y ∧ y ≤ 200) (hn : 1 ≤ n) (hh : 1 ≤ h) : 0 ≤ x.tdiv n * y.tdiv h ∧ x.tdiv n * y.tdiv h ≤ 40000 ∧ 0 ≤ x.tdiv n ∧ x.tdiv n ≤ 200 ∧ 0 ≤ y.tdiv h ∧ y.tdiv h ≤ 200 := by
  rw [Int.tdiv_eq_ediv_of_nonneg (by omega), Int.tdiv_eq_ediv_of_nonneg (by omega)]
  have a1 : 0 ≤ x / n := Int.ediv_nonneg (by omega) (by omega)
  have a2 : x / n ≤ x := Int.ediv_le_self n (by omega)
  have b1 : 0 ≤ y / h := Int.ediv_nonneg (by omega) (by omega)
  have b2 : y / h ≤ y := Int.ediv_le_self h (by omega)
  refine ⟨Int.mul_nonneg a1 b1, ?_, a1, by omega, b1, by omega⟩
  have := Int.mul_le_mul (show x / n ≤ 200 by omega) (show y / h ≤ 200 by omega) b1 (by omega)
  omega
theorem fitOf_bd (x y d f : Int) (ss : List ByteArray) : 0 ≤ fitOf x y d f ss ∧ fitOf x y d f ss ≤ 40000 := by
  unfold fitOf
  split
  · rename_i h
    obtain ⟨h1, h2, h3⟩ := h
    obtain ⟨⟨q1, q2, q3, q4, q5, q6⟩, _⟩ := cardOk_iff.1 h1
    obtain ⟨a, b, _⟩ := fit_bd (n := ss.length) (h := d + f) (inR_iff.1 h2) (inR_iff.1 h3) (by omega) (by omega)
    exact ⟨a, b⟩
  · omega

theorem iFitOn_yes (x y d f : Int) (a : Option Addr) (n c : Nat) (ss : List ByteArray) (w : World) (hl : ss.length = n) (hm : (n : Int) + tot ss n ≤ 1048576) (hR : SlR w a n (sc ss)) (hok : cardOkB d f ss = true) (hx : inR x = true) (hy : inR y = true) :
    Calls Try.prog 19 #[.int .i64 x, .int .i64 y, .agg #[.int .i64 d, .int .i64 f, .slice a n c]] w fun e w' => e = .returned (.int .i64 (x.tdiv n * y.tdiv (d + f))) ∧ Below w.heap.size w w' := by
  obtain ⟨⟨q1, q2, q3, q4, q5, q6⟩, _⟩ := cardOk_iff.1 hok
  obtain ⟨x1, x2⟩ := inR_iff.1 hx
  obtain ⟨y1, y2⟩ := inR_iff.1 hy
  have n1 : 1 ≤ n := by omega
  have n2 : n ≤ 10 := by omega
  obtain ⟨m1, m2, m3, m4, m5, m6⟩ := fit_bd (n := n) (h := d + f) ⟨x1, x2⟩ ⟨y1, y2⟩ (by omega) (by omega)
  have HB0 := Lib.hid ((Below.refl w.heap.size w).alloc (Nat.le_refl _) (.cells #[.int .i64 d, .int .i64 f, .slice a n c] 26 (0, 0)))
  have HR := Lib.hid (hR.below HB0.out)
  have HL := Lib.hid hl
  have HOK := Lib.hid hok
  clear hR hl hok hx hy q5 q6
  go_enter Try.func19, Try.ntmps19
  go_wp2_with (first | (go_at_call 57; refine (iCardOk_any _ _ _ _ _ _ _ HL.out hm HR.out).mono ?_; rw [HOK.out]; rintro e w1 ⟨rfl, hb⟩; obtain ⟨b0, b1, b2⟩ := box3 hb; have HR1 := Lib.hid (HR.out.below hb)) | (go_at_call 58; (first | refine (within_t _ _ _ _ (by omega) (by omega)).mono ?_ | refine (within_f _ _ _ _ (by omega)).mono ?_); rintro e w' ⟨rfl, rfl⟩) | (go_at_call 17; refine (iBlankOf_yes _ _ _ _ _ _ _ HL.out hm HR1.out HOK.out).mono ?_; rintro e w2 ⟨rfl, hb2⟩))
  have s1 : IntKind.i64.wrap (x.tdiv n) = x.tdiv n := IntWalk.i64_in _ (by omega)
  have s2 : IntKind.i64.wrap (y.tdiv (d + f)) = y.tdiv (d + f) := IntWalk.i64_in _ (by omega)
  have s3 : IntKind.i64.wrap (x.tdiv n * y.tdiv (d + f)) = x.tdiv n * y.tdiv (d + f) := IntWalk.i64_in _ (by omega)
  go_quiet (fail)
  clear s1 s2 s3
  go_wp2
  go_ret
  exact ⟨rfl, HB0.out.trans ((hb.trans ((below_drewN hb2 _).mono hb.size)).mono (by simp))⟩
theorem sFitOn_yes (x y : Int) (d f : Int) (a : Option Addr) (n c : Nat) (ss : List ByteArray) (w : World) (hl : ss.length = n) (hm : (n : Int) + tot ss n ≤ 1048576) (hR : SlR w a n (sc ss)) (hok : cardOkB d f ss = true) (hx : inR x = true) (hy : inR y = true) :
    Calls Try.prog 36 #[.int .i64 x, .int .i64 y, .agg #[.int .i64 d, .int .i64 f, .slice a n c]] w fun e w' => e = .returned (.int .i64 (x.tdiv n * y.tdiv (d + f))) ∧ Below w.heap.size w w' := by
  obtain ⟨⟨q1, q2, q3, q4, q5, q6⟩, _⟩ := cardOk_iff.1 hok
  obtain ⟨x1, x2⟩ := inR_iff.1 hx
  obtain ⟨y1, y2⟩ := inR_iff.1 hy
  have n1 : 1 ≤ n := by omega
  have n2 : n ≤ 10 := by omega
  have n3 : ((n : Int) == 0) = false := by simp; omega
  obtain ⟨m1, m2, m3, m4, m5, m6⟩ := fit_bd (n := n) (h := d + f) ⟨x1, x2⟩ ⟨y1, y2⟩ (by omega) (by omega)
  have HB0 := Lib.hid ((Below.refl w.heap.size w).alloc (Nat.le_refl _) (.cells #[.int .i64 d, .int .i64 f, .slice a n c] 26 (0, 0)))
  have HR := Lib.hid (hR.below HB0.out)
  have HL := Lib.hid hl
  have HOK := Lib.hid hok
  clear hR hl hok hx hy q5 q6
  go_enter Try.func36, Try.ntmps36
  go_wp2_with (first | (go_at_call 70; (first | refine (l01In_t _ _ _ _ (by omega) (by omega)).mono ?_ | refine (l01In_f _ _ _ _ (by omega)).mono ?_); rintro e w' ⟨rfl, rfl⟩) | (go_at_call 33; refine (sBlankOf_yes _ _ _ _ _ _ _ HL.out hm HR.out HOK.out).mono ?_; rintro e w2 ⟨rfl, hb2⟩))
  have s1 : IntKind.i64.wrap (x.tdiv n) = x.tdiv n := IntWalk.i64_in _ (by omega)
  have s2 : IntKind.i64.wrap (y.tdiv (d + f)) = y.tdiv (d + f) := IntWalk.i64_in _ (by omega)
  have s3 : IntKind.i64.wrap (x.tdiv n * y.tdiv (d + f)) = x.tdiv n * y.tdiv (d + f) := IntWalk.i64_in _ (by omega)
  go_quiet (fail)
  clear s1 s2 s3
  go_wp2
  go_ret
  exact ⟨rfl, HB0.out.trans ((below_drewN hb2 _).mono (by simp))⟩
theorem iFitOn_no (x y : Int) (d f : Int) (a : Option Addr) (n c : Nat) (ss : List ByteArray) (w : World) (hl : ss.length = n) (hm : (n : Int) + tot ss n ≤ 1048576) (hR : SlR w a n (sc ss)) (hno : cardOkB d f ss = false ∨ (cardOkB d f ss = true ∧ inR x = false) ∨ (cardOkB d f ss = true ∧ inR x = true ∧ inR y = false)) :
    Calls Try.prog 19 #[.int .i64 x, .int .i64 y, .agg #[.int .i64 d, .int .i64 f, .slice a n c]] w fun e w' => e = .returned (.int .i64 0) ∧ Below w.heap.size w w' := by
  have HB0 := Lib.hid ((Below.refl w.heap.size w).alloc (Nat.le_refl _) (.cells #[.int .i64 d, .int .i64 f, .slice a n c] 26 (0, 0)))
  have HR := Lib.hid (hR.below HB0.out)
  have HL := Lib.hid hl
  clear hR hl
  rcases hno with ho | ⟨ho, hx⟩ | ⟨ho, hx, hy⟩
  · have HOK := Lib.hid ho
    clear ho
    go_enter Try.func19, Try.ntmps19
    go_wp2_with (first | (go_at_call 57; refine (iCardOk_any _ _ _ _ _ _ _ HL.out hm HR.out).mono ?_; rw [HOK.out]; rintro e w1 ⟨rfl, hb⟩))
    go_ret
    exact ⟨rfl, HB0.out.trans (hb.mono (by simp))⟩
  · have HOK := Lib.hid ho
    have x1 := inR_f hx
    clear ho hx
    go_enter Try.func19, Try.ntmps19
    go_wp2_with (first | (go_at_call 57; refine (iCardOk_any _ _ _ _ _ _ _ HL.out hm HR.out).mono ?_; rw [HOK.out]; rintro e w1 ⟨rfl, hb⟩) | (go_at_call 58; (first | refine (within_t _ _ _ _ (by omega) (by omega)).mono ?_ | refine (within_f _ _ _ _ (by omega)).mono ?_); rintro e w' ⟨rfl, rfl⟩))
    go_ret
    exact ⟨rfl, HB0.out.trans (hb.mono (by simp))⟩
  · have HOK := Lib.hid ho
    obtain ⟨x1, x2⟩ := inR_iff.1 hx
    have y1 := inR_f hy
    clear ho hx hy
    go_enter Try.func19, Try.ntmps19
    go_wp2_with (first | (go_at_call 57; refine (iCardOk_any _ _ _ _ _ _ _ HL.out hm HR.out).mono ?_; rw [HOK.out]; rintro e w1 ⟨rfl, hb⟩) | (go_at_call 58; (first | refine (within_t _ _ _ _ (by omega) (by omega)).mono ?_ | refine (within_f _ _ _ _ (by omega)).mono ?_); rintro e w' ⟨rfl, rfl⟩))
    go_ret
    exact ⟨rfl, HB0.out.trans (hb.mono (by simp))⟩
theorem sFitOn_no (x y : Int) (d f : Int) (a : Option Addr) (n c : Nat) (ss : List ByteArray) (w : World) (hl : ss.length = n) (hm : (n : Int) + tot ss n ≤ 1048576) (hR : SlR w a n (sc ss)) (hno : cardOkB d f ss = false ∨ (cardOkB d f ss = true ∧ inR x = false) ∨ (cardOkB d f ss = true ∧ inR x = true ∧ inR y = false)) :
    Calls Try.prog 36 #[.int .i64 x, .int .i64 y, .agg #[.int .i64 d, .int .i64 f, .slice a n c]] w fun e w' => e = .returned (.int .i64 0) ∧ Below w.heap.size w w' := by
  have HB0 := Lib.hid ((Below.refl w.heap.size w).alloc (Nat.le_refl _) (.cells #[.int .i64 d, .int .i64 f, .slice a n c] 26 (0, 0)))
  have HR := Lib.hid (hR.below HB0.out)
  have HL := Lib.hid hl
  clear hR hl
  rcases hno with ho | ⟨ho, hx⟩ | ⟨ho, hx, hy⟩
  · have HOK := Lib.hid ho
    clear ho
    go_enter Try.func36, Try.ntmps36
    go_wp2_with (first | (go_at_call 33; refine (sBlankOf_no _ _ _ _ _ _ _ HL.out hm HR.out HOK.out).mono ?_; rintro e w1 ⟨rfl, hb⟩))
    go_ret
    exact ⟨rfl, HB0.out.trans (hb.mono (by simp))⟩
  · have hn1 : 1 ≤ n := by have := (cardOk_iff.1 ho).1.2.2.2.2.1; have := HL.out; omega
    have n3 : ((n : Int) == 0) = false := by simp; omega
    have HOK := Lib.hid ho
    have x1 := inR_f hx
    clear ho hx
    go_enter Try.func36, Try.ntmps36
    go_wp2_with (first | (go_at_call 33; refine (sBlankOf_yes _ _ _ _ _ _ _ HL.out hm HR.out HOK.out).mono ?_; rintro e w1 ⟨rfl, hb⟩) | (go_at_call 70; (first | refine (l01In_t _ _ _ _ (by omega) (by omega)).mono ?_ | refine (l01In_f _ _ _ _ (by omega)).mono ?_); rintro e w' ⟨rfl, rfl⟩))
    go_ret
    exact ⟨rfl, HB0.out.trans (hb.mono (by simp))⟩
  · have hn1 : 1 ≤ n := by have := (cardOk_iff.1 ho).1.2.2.2.2.1; have := HL.out; omega
    have n3 : ((n : Int) == 0) = false := by simp; omega
    have HOK := Lib.hid ho
    obtain ⟨x1, x2⟩ := inR_iff.1 hx
    have y1 := inR_f hy
    clear ho hx hy
    go_enter Try.func36, Try.ntmps36
    go_wp2_with (first | (go_at_call 33; refine (sBlankOf_yes _ _ _ _ _ _ _ HL.out hm HR.out HOK.out).mono ?_; rintro e w1 ⟨rfl, hb⟩) | (go_at_call 70; (first | refine (l01In_t _ _ _ _ (by omega) (by omega)).mono ?_ | refine (l01In_f _ _ _ _ (by omega)).mono ?_); rintro e w' ⟨rfl, rfl⟩))
    go_ret
    exact ⟨rfl, HB0.out.trans (hb.mono (by simp))⟩
theorem iFitOn_any (x y : Int) (d f : Int) (a : Option Addr) (n c : Nat) (ss : List ByteArray) (w : World) (hl : ss.length = n) (hm : (n : Int) + tot ss n ≤ 1048576) (hR : SlR w a n (sc ss)) :
    Calls Try.prog 19 #[.int .i64 x, .int .i64 y, .agg #[.int .i64 d, .int .i64 f, .slice a n c]] w fun e w' => e = .returned (.int .i64 (fitOf x y d f ss)) ∧ Below w.heap.size w w' := by
  unfold fitOf
  cases ho : cardOkB d f ss
  · exact iFitOn_no x y d f a n c ss w hl hm hR (.inl ho)
  · cases hx : inR x
    · exact iFitOn_no x y d f a n c ss w hl hm hR (.inr (.inl ⟨ho, hx⟩))
    · cases hy : inR y
      · exact iFitOn_no x y d f a n c ss w hl hm hR (.inr (.inr ⟨ho, hx, hy⟩))
      · rw [if_pos ⟨rfl, rfl, rfl⟩, hl]; exact iFitOn_yes x y d f a n c ss w hl hm hR ho hx hy
theorem sFitOn_any (x y : Int) (d f : Int) (a : Option Addr) (n c : Nat) (ss : List ByteArray) (w : World) (hl : ss.length = n) (hm : (n : Int) + tot ss n ≤ 1048576) (hR : SlR w a n (sc ss)) :
    Calls Try.prog 36 #[.int .i64 x, .int .i64 y, .agg #[.int .i64 d, .int .i64 f, .slice a n c]] w fun e w' => e = .returned (.int .i64 (fitOf x y d f ss)) ∧ Below w.heap.size w w' := by
  unfold fitOf
  cases ho : cardOkB d f ss
  · exact sFitOn_no x y d f a n c ss w hl hm hR (.inl ho)
  · cases hx : inR x
    · exact sFitOn_no x y d f a n c ss w hl hm hR (.inr (.inl ⟨ho, hx⟩))
    · cases hy : inR y
      · exact sFitOn_no x y d f a n c ss w hl hm hR (.inr (.inr ⟨ho, hx, hy⟩))
      · rw [if_pos ⟨rfl, rfl, rfl⟩, hl]; exact sFitOn_yes x y d f a n c ss w hl hm hR ho hx hy
def bestOf (x y d f : Int) (ss : List ByteArray) : Int := if fitOf x y d f ss < fitOf y x d f ss then fitOf y x d f ss else fitOf x y d f ss
theorem bestOf_bd (x y d f : Int) (ss : List ByteArray) : 0 ≤ bestOf x y d f ss ∧ bestOf x y d f ss ≤ 40000 := by
  unfold bestOf
  have := fitOf_bd x y d f ss
  have := fitOf_bd y x d f ss
  split <;> omega
theorem iBestFit_any (x y : Int) (d f : Int) (a : Option Addr) (n c : Nat) (ss : List ByteArray) (w : World) (hl : ss.length = n) (hm : (n : Int) + tot ss n ≤ 1048576) (hR : SlR w a n (sc ss)) :
    Calls Try.prog 20 #[.int .i64 x, .int .i64 y, .agg #[.int .i64 d, .int .i64 f, .slice a n c]] w fun e w' => e = .returned (.int .i64 (bestOf x y d f ss)) ∧ Below w.heap.size w w' := by
  have HSd : Hid (CB w w.heap.size (.int .i64 d) (.int .i64 f) (.slice a n c) a n (sc ss) (w.alloc (.cells #[.int .i64 d, .int .i64 f, .slice a n c] 26 (0, 0))).drew) :=
    Lib.hid ((CB.mk (Below.box _ _) (hR.below (Below.box _ _)) (SlR.box w _ _ _ _)).next ((Below.refl _ _).drew))
  have HL := Lib.hid hl
  unfold bestOf
  clear hR hl
  go_enter Try.func20, Try.ntmps20
  go_wp2_with fail
  go_region_held3 (fun w' => (w'.cell? ⟨w.heap.size, 0, none⟩ = some (.int .i64 d) ∧ w'.cell? ⟨w.heap.size, 1, none⟩ = some (.int .i64 f) ∧ w'.cell? ⟨w.heap.size, 2, none⟩ = some (.slice a n c)) ∧ Hid (Below w.heap.size w w' ∧ SlR w' a n (sc ss) ∧ SlR w' (some ⟨w.heap.size, 0, none⟩) 3 (tri (.int .i64 d) (.int .i64 f) (.slice a n c))))
    (first | exact hS2.out | exact HSd.out | (go_keep; done))
    (first | (go_at_call 19; refine (iFitOn_any _ _ d f a n c ss _ HL.out hm (show CB w w.heap.size (.int .i64 d) (.int .i64 f) (.slice a n c) a n (sc ss) _ from by assumption).2.out.2.1).mono ?_; rintro e w2 ⟨rfl, bZ⟩; have hS2 := Lib.hid (CB.next (show CB w w.heap.size (.int .i64 d) (.int .i64 f) (.slice a n c) a n (sc ss) _ from by assumption) bZ); clear bZ))
  have HX := Lib.hid hS2.out.2.out.1
  clear hS2
  go_wp2
  all_goals go_ret
  all_goals exact ⟨rfl, HX.out⟩
theorem sBestFit_any (x y : Int) (d f : Int) (a : Option Addr) (n c : Nat) (ss : List ByteArray) (w : World) (hl : ss.length = n) (hm : (n : Int) + tot ss n ≤ 1048576) (hR : SlR w a n (sc ss)) :
    Calls Try.prog 37 #[.int .i64 x, .int .i64 y, .agg #[.int .i64 d, .int .i64 f, .slice a n c]] w fun e w' => e = .returned (.int .i64 (bestOf x y d f ss)) ∧ Below w.heap.size w w' := by
  have HSd : Hid (CB w w.heap.size (.int .i64 d) (.int .i64 f) (.slice a n c) a n (sc ss) (w.alloc (.cells #[.int .i64 d, .int .i64 f, .slice a n c] 26 (0, 0))).drew) :=
    Lib.hid ((CB.mk (Below.box _ _) (hR.below (Below.box _ _)) (SlR.box w _ _ _ _)).next ((Below.refl _ _).drew))
  have HL := Lib.hid hl
  unfold bestOf
  clear hR hl
  go_enter Try.func37, Try.ntmps37
  go_wp2_with fail
  go_region_held3 (fun w' => (w'.cell? ⟨w.heap.size, 0, none⟩ = some (.int .i64 d) ∧ w'.cell? ⟨w.heap.size, 1, none⟩ = some (.int .i64 f) ∧ w'.cell? ⟨w.heap.size, 2, none⟩ = some (.slice a n c)) ∧ Hid (Below w.heap.size w w' ∧ SlR w' a n (sc ss) ∧ SlR w' (some ⟨w.heap.size, 0, none⟩) 3 (tri (.int .i64 d) (.int .i64 f) (.slice a n c))))
    (first | exact hS2.out | exact HSd.out | (go_keep; done))
    (first | (go_at_call 36; refine (sFitOn_any _ _ d f a n c ss _ HL.out hm (show CB w w.heap.size (.int .i64 d) (.int .i64 f) (.slice a n c) a n (sc ss) _ from by assumption).2.out.2.1).mono ?_; rintro e w2 ⟨rfl, bZ⟩; have hS2 := Lib.hid (CB.next (show CB w w.heap.size (.int .i64 d) (.int .i64 f) (.slice a n c) a n (sc ss) _ from by assumption) bZ); clear bZ))
  have HX := Lib.hid hS2.out.2.out.1
  clear hS2
  go_wp2
  all_goals go_ret
  all_goals exact ⟨rfl, HX.out⟩
def sheetsOf (x y d f k : Int) (ss : List ByteArray) : Int := if bestOf x y d f ss = 0 ∨ k < 0 ∨ 100000 < k then -1 else (k + bestOf x y d f ss - 1) / bestOf x y d f ss
theorem iSheetsFor_any (x y k : Int) (d f : Int) (a : Option Addr) (n c : Nat) (ss : List ByteArray) (w : World) (hl : ss.length = n) (hm : (n : Int) + tot ss n ≤ 1048576) (hR : SlR w a n (sc ss)) :
    Calls Try.prog 21 #[.int .i64 x, .int .i64 y, .agg #[.int .i64 d, .int .i64 f, .slice a n c], .int .i64 k] w fun e w' => e = .returned (.int .i64 (sheetsOf x y d f k ss)) ∧ Below w.heap.size w w' := by
  have HB0 := Lib.hid ((Below.refl w.heap.size w).alloc (Nat.le_refl _) (.cells #[.int .i64 d, .int .i64 f, .slice a n c] 26 (0, 0)))
  have HR := Lib.hid (hR.below HB0.out)
  have HL := Lib.hid hl
  clear hR hl
  obtain ⟨p1, p2⟩ := bestOf_bd x y d f ss
  unfold sheetsOf
  by_cases hb : bestOf x y d f ss = 0
  · rw [if_pos (.inl hb)]
    have e0 : (bestOf x y d f ss == 0) = true := by simpa using hb
    clear hb
    go_enter Try.func21, Try.ntmps21
    go_wp2_with (first | (go_at_call 20; refine (iBestFit_any _ _ _ _ _ _ _ _ _ HL.out hm HR.out).mono ?_; rintro e w1 ⟨rfl, hb⟩))
    go_ret
    exact ⟨rfl, HB0.out.trans (hb.mono (by simp))⟩
  · have e0 : (bestOf x y d f ss == 0) = false := by simpa using hb
    by_cases hk : k < 0 ∨ 100000 < k
    · rw [if_pos (.inr hk)]
      clear hb
      go_enter Try.func21, Try.ntmps21
      go_wp2_with (first | (go_at_call 20; refine (iBestFit_any _ _ _ _ _ _ _ _ _ HL.out hm HR.out).mono ?_; rintro e w1 ⟨rfl, hb⟩) | (go_at_call 70; (first | refine (l01In_t _ _ _ _ (by omega) (by omega)).mono ?_ | refine (l01In_f _ _ _ _ (by omega)).mono ?_); rintro e w' ⟨rfl, rfl⟩) | (go_at_call 58; (first | refine (within_t _ _ _ _ (by omega) (by omega)).mono ?_ | refine (within_f _ _ _ _ (by omega)).mono ?_); rintro e w' ⟨rfl, rfl⟩))
      go_ret
      exact ⟨rfl, HB0.out.trans (hb.mono (by simp))⟩
    · rw [if_neg (by omega)]
      have k1 : 0 ≤ k := by omega
      have k2 : k ≤ 100000 := by omega
      have p3 : 1 ≤ bestOf x y d f ss := by omega
      clear hb hk
      go_enter Try.func21, Try.ntmps21
      go_wp2_with (first | (go_at_call 20; refine (iBestFit_any _ _ _ _ _ _ _ _ _ HL.out hm HR.out).mono ?_; rintro e w1 ⟨rfl, hb⟩) | (go_at_call 70; (first | refine (l01In_t _ _ _ _ (by omega) (by omega)).mono ?_ | refine (l01In_f _ _ _ _ (by omega)).mono ?_); rintro e w' ⟨rfl, rfl⟩) | (go_at_call 58; (first | refine (within_t _ _ _ _ (by omega) (by omega)).mono ?_ | refine (within_f _ _ _ _ (by omega)).mono ?_); rintro e w' ⟨rfl, rfl⟩))
      go_ret
      exact ⟨rfl, HB0.out.trans (hb.mono (by simp))⟩
theorem sSheetsFor_any (x y k : Int) (d f : Int) (a : Option Addr) (n c : Nat) (ss : List ByteArray) (w : World) (hl : ss.length = n) (hm : (n : Int) + tot ss n ≤ 1048576) (hR : SlR w a n (sc ss)) :
    Calls Try.prog 38 #[.int .i64 x, .int .i64 y, .agg #[.int .i64 d, .int .i64 f, .slice a n c], .int .i64 k] w fun e w' => e = .returned (.int .i64 (sheetsOf x y d f k ss)) ∧ Below w.heap.size w w' := by
  have HB0 := Lib.hid ((Below.refl w.heap.size w).alloc (Nat.le_refl _) (.cells #[.int .i64 d, .int .i64 f, .slice a n c] 26 (0, 0)))
  have HR := Lib.hid (hR.below HB0.out)
  have HL := Lib.hid hl
  clear hR hl
  obtain ⟨p1, p2⟩ := bestOf_bd x y d f ss
  unfold sheetsOf
  by_cases hb : bestOf x y d f ss = 0
  · rw [if_pos (.inl hb)]
    have e0 : (bestOf x y d f ss == 0) = true := by simpa using hb
    clear hb
    go_enter Try.func38, Try.ntmps38
    go_wp2_with (first | (go_at_call 37; refine (sBestFit_any _ _ _ _ _ _ _ _ _ HL.out hm HR.out).mono ?_; rintro e w1 ⟨rfl, hb⟩))
    go_ret
    exact ⟨rfl, HB0.out.trans (hb.mono (by simp))⟩
  · have e0 : (bestOf x y d f ss == 0) = false := by simpa using hb
    by_cases hk : k < 0 ∨ 100000 < k
    · rw [if_pos (.inr hk)]
      clear hb
      go_enter Try.func38, Try.ntmps38
      go_wp2_with (first | (go_at_call 37; refine (sBestFit_any _ _ _ _ _ _ _ _ _ HL.out hm HR.out).mono ?_; rintro e w1 ⟨rfl, hb⟩) | (go_at_call 70; (first | refine (l01In_t _ _ _ _ (by omega) (by omega)).mono ?_ | refine (l01In_f _ _ _ _ (by omega)).mono ?_); rintro e w' ⟨rfl, rfl⟩) | (go_at_call 58; (first | refine (within_t _ _ _ _ (by omega) (by omega)).mono ?_ | refine (within_f _ _ _ _ (by omega)).mono ?_); rintro e w' ⟨rfl, rfl⟩))
      go_ret
      exact ⟨rfl, HB0.out.trans (hb.mono (by simp))⟩
    · rw [if_neg (by omega)]
      have k1 : 0 ≤ k := by omega
      have k2 : k ≤ 100000 := by omega
      have p3 : 1 ≤ bestOf x y d f ss := by omega
      clear hb hk
      go_enter Try.func38, Try.ntmps38
      go_wp2_with (first | (go_at_call 37; refine (sBestFit_any _ _ _ _ _ _ _ _ _ HL.out hm HR.out).mono ?_; rintro e w1 ⟨rfl, hb⟩) | (go_at_call 70; (first | refine (l01In_t _ _ _ _ (by omega) (by omega)).mono ?_ | refine (l01In_f _ _ _ _ (by omega)).mono ?_); rintro e w' ⟨rfl, rfl⟩) | (go_at_call 58; (first | refine (within_t _ _ _ _ (by omega) (by omega)).mono ?_ | refine (within_f _ _ _ _ (by omega)).mono ?_); rintro e w' ⟨rfl, rfl⟩))
      go_ret
      exact ⟨rfl, HB0.out.trans (hb.mono (by simp))⟩
end Go.Proofs.Ytoflcjgimkbgpaa
