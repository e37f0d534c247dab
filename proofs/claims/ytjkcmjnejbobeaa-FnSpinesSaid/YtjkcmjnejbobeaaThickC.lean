/-
  The thickness of a card: the plain words, and contracts of Thickness in the program and in the reference.
  By an AI agent.
-/
import Derived.Test.YtjkcmjnejbobeaaThick
import Derived.Test.YtjkcmjnejbobeaaCardL
namespace Go.Proofs.Ytjkcmjnejbobeaa
open Go.ChangeShapes Go.WideShapes Go.ChangeAt Go.RowKit Go.Joins Go.Deep
set_option maxRecDepth 100000
set_option linter.unusedVariables false

/-! ### Thickness -/
/-- The thickest of the first k strips, from 0 on, as Go's max spells it. -/
def tks (ss : List ByteArray) : Nat → Int
  | 0 => 0
  | k + 1 => if tks ss k < thick (ss.getD k ByteArray.empty) then thick (ss.getD k ByteArray.empty) else tks ss k
theorem tks_yes {ss : List ByteArray} {k : Nat} (h : tks ss k < thick (ss.getD k ByteArray.empty)) : tks ss (k + 1) = thick (ss.getD k ByteArray.empty) := by show (if _ then _ else _) = _; rw [if_pos h]
theorem tks_no {ss : List ByteArray} {k : Nat} (h : ¬ tks ss k < thick (ss.getD k ByteArray.empty)) : tks ss (k + 1) = tks ss k := by show (if _ then _ else _) = _; rw [if_neg h]
theorem tks_bd (ss : List ByteArray) (k : Nat) : 0 ≤ tks ss k ∧ tks ss k ≤ 16 := by
  induction k with
  | zero => exact ⟨Int.le_refl _, by show (0 : Int) ≤ 16; omega⟩
  | succ k ih =>
    have := thick_bd (ss.getD k ByteArray.empty)
    by_cases e : tks ss k < thick (ss.getD k ByteArray.empty)
    · rw [tks_yes e]; omega
    · rw [tks_no e]; omega
def thkB (d f : Int) (ss : List ByteArray) (sh : Int) : Bool := cardOkB d f ss && inB sh 1 1000
def thk (d f : Int) (ss : List ByteArray) (sh : Int) : Int := if thkB d f ss sh = true then (tks ss ss.length + 2) * sh else -1
theorem thk_no {d f : Int} {ss : List ByteArray} {sh : Int} (h : cardOkB d f ss = false ∨ sh < 1 ∨ 1000 < sh) : thk d f ss sh = -1 := by
  have : thkB d f ss sh = false := by
    unfold thkB
    rcases h with h | h
    · rw [h]; rfl
    · rw [inB_f h, Bool.and_false]
  unfold thk; rw [this]; rfl
theorem thk_yes {d f : Int} {ss : List ByteArray} {sh : Int} (h : cardOkB d f ss = true) (h1 : 1 ≤ sh) (h2 : sh ≤ 1000) : thk d f ss sh = (tks ss ss.length + 2) * sh := by
  have : thkB d f ss sh = true := by unfold thkB; rw [h, inB_t h1 h2]; rfl
  unfold thk; rw [if_pos this]
theorem thk_bd (d f : Int) (ss : List ByteArray) (sh : Int) : -1 ≤ thk d f ss sh ∧ thk d f ss sh ≤ 18000 ∧ (thkB d f ss sh = true → 2 ≤ thk d f ss sh ∧ 2 * sh ≤ thk d f ss sh ∧ 1 ≤ sh ∧ sh ≤ 1000) := by
  cases h : thkB d f ss sh
  · have : thk d f ss sh = -1 := by unfold thk; rw [h]; rfl
    rw [this]; exact ⟨by omega, by omega, fun h => by cases h⟩
  · have e : thk d f ss sh = (tks ss ss.length + 2) * sh := by unfold thk; rw [if_pos h]
    have hb := tks_bd ss ss.length
    have hs : 1 ≤ sh ∧ sh ≤ 1000 := by unfold thkB at h; simp only [Bool.and_eq_true] at h; exact inB_iff.1 h.2
    rw [e]
    have h1 : (0 + 2) * sh ≤ (tks ss ss.length + 2) * sh := Int.mul_le_mul_of_nonneg_right (by omega) (by omega)
    have h2 : (tks ss ss.length + 2) * sh ≤ 18 * sh := Int.mul_le_mul_of_nonneg_right (by omega) (by omega)
    refine ⟨by omega, by omega, fun _ => ⟨by omega, by omega, hs.1, hs.2⟩⟩

theorem mul_bd {a b : Int} (h0 : 0 ≤ a) (h1 : a ≤ 18) (h2 : 1 ≤ b) (h3 : b ≤ 1000) : 0 ≤ a * b ∧ a * b ≤ 18000 := by
  have e1 : 0 * b ≤ a * b := Int.mul_le_mul_of_nonneg_right h0 (by omega)
  have e2 : a * b ≤ 18 * b := Int.mul_le_mul_of_nonneg_right h1 (by omega)
  omega
set_option maxHeartbeats 1000000 in
theorem iThickness_any (d f : Int) (a : Option Addr) (n c : Nat) (ss : List ByteArray) (sh : Int) (w : World) (hl : ss.length = n) (hm : (n : Int) + tot ss n ≤ 1048576) (hR : SlR w a n (sc ss)) :
    Calls Try.prog 34 #[.agg #[.int .i64 d, .int .i64 f, .slice a n c], .int .i64 sh] w fun e w' => e = .returned (.int .i64 (thk d f ss sh)) ∧ Below w.heap.size w w' := by
  have HB0 := Lib.hid (Below.box w (.cells #[.int .i64 d, .int .i64 f, .slice a n c] 34 (0, 0)))
  have HR := Lib.hid (hR.below HB0.out)
  have HL := Lib.hid hl
  clear hR hl
  cases ho : cardOkB d f ss
  · have HO := Lib.hid ho
    have HV := Lib.hid (thk_no (d := d) (f := f) (ss := ss) (sh := sh) (.inl ho))
    clear ho
    go_enter Try.func34, Try.ntmps34
    go_wp2_with (go_at_call 49; refine (iCardOk_any _ _ _ _ _ _ _ HL.out hm HR.out).mono ?_; rw [HO.out]; rintro e w1 ⟨rfl, hb⟩)
    go_ret
    exact ⟨ret_int HV.out.symm, HB0.out.trans (hb.mono HB0.out.size)⟩
  · have HO := Lib.hid ho
    by_cases hsh : 1 ≤ sh ∧ sh ≤ 1000
    · obtain ⟨h1, h2⟩ := hsh
      have HV := Lib.hid (thk_yes (d := d) (f := f) (ss := ss) ho h1 h2)
      clear ho
      go_enter Try.func34, Try.ntmps34
      go_wp2_with (first | (go_at_call 49; refine (iCardOk_any _ _ _ _ _ _ _ HL.out hm HR.out).mono ?_; rw [HO.out]; rintro e w1 ⟨rfl, hb⟩; have HB1 := Lib.hid hb; obtain ⟨b0, b1, b2⟩ := box3 hb; clear hb) | (go_at_call 39; (first | refine (l01In_t _ _ _ _ (by omega) (by omega)).mono ?_ | refine (l01In_f _ _ _ _ (by omega)).mono ?_); rintro e w' ⟨rfl, rfl⟩) | (go_at_call 41; (first | refine (within_t _ _ _ _ (by omega) (by omega)).mono ?_ | refine (within_f _ _ _ _ (by omega)).mono ?_); rintro e w' ⟨rfl, rfl⟩))
      clear b0 b1 b2
      go_loopw [5, 19] (fun m i wr => ∃ k : Nat, k ≤ n ∧ i = .int .i64 k ∧ m = .int .i64 (tks ss k) ∧ Below (w.alloc (.cells #[.int .i64 d, .int .i64 f, .slice a n c] 34 (0, 0))).heap.size (w.alloc (.cells #[.int .i64 d, .int .i64 f, .slice a n c] 34 (0, 0))) wr) (fun _ i _ => n - (intOf i).toNat)
      case atStart => exact ⟨0, Nat.zero_le _, rfl, rfl, HB1.out⟩
      case round =>
        obtain ⟨k, hk, rfl, rfl, hB⟩ := hrel
        have HB := Lib.hid hB
        clear hB
        obtain ⟨b0, b1, b2⟩ := box3 HB.out
        have htk := tks_bd ss k
        obtain ⟨t0, t1⟩ := htk
        by_cases hlt : k < n
        · obtain ⟨g, rfl, hr⟩ := (HR.out.below HB.out).row (by omega)
          have c0 := hr.cell hlt
          unfold sc at c0
          clear hr
          have hz := tot_at ss (show k < n from hlt)
          have hz1 : (ss.getD k ByteArray.empty).size ≤ 1048576 := by omega
          by_cases hc : tks ss k < thick (ss.getD k ByteArray.empty)
          · have HM := Lib.hid (tks_yes hc)
            generalize ss.getD k ByteArray.empty = q at *
            go_wp2_with (go_at_call 50; refine (iThickestOf_any q _ hz1).mono ?_; rintro e w2 ⟨rfl, hb2⟩; have HB2 := Lib.hid (HB.out.trans (hb2.mono HB.out.size)); clear hb2)
            go_roundw
            case rel => exact ⟨k + 1, by omega, by go_num, by rw [HM.out], HB2.out⟩
            case measure => simp [intOf]; omega
          · have HM := Lib.hid (tks_no hc)
            have hc' : thick (ss.getD k ByteArray.empty) ≤ tks ss k := by omega
            generalize ss.getD k ByteArray.empty = q at *
            go_wp2_with (go_at_call 50; refine (iThickestOf_any q _ hz1).mono ?_; rintro e w2 ⟨rfl, hb2⟩; have HB2 := Lib.hid (HB.out.trans (hb2.mono HB.out.size)); clear hb2)
            go_roundw
            case rel => exact ⟨k + 1, by omega, by go_num, by rw [HM.out], HB2.out⟩
            case measure => simp [intOf]; omega
        · have hk' : k = n := by omega
          subst hk'
          have hm1 := mul_bd t0 (by omega) h1 h2
          have hm2 := mul_bd (show 0 ≤ tks ss k + 2 by omega) (by omega) h1 h2
          have HE : Hid (thk d f ss sh = tks ss k * sh + 2 * sh) := Lib.hid (by rw [HV.out, HL.out, Int.add_mul])
          have HE2 : Hid (thk d f ss sh = (tks ss k + 2) * sh) := Lib.hid (by rw [HV.out, HL.out])
          go_wp2
          go_ret
          exact ⟨ret_int (by first | exact HE2.out.symm | (rw [HE.out]; rfl) | exact HE.out.symm), HB0.out.trans (HB.out.mono HB0.out.size)⟩
    · have HV := Lib.hid (thk_no (d := d) (f := f) (ss := ss) (sh := sh) (.inr (by omega)))
      have hsh' : sh < 1 ∨ 1000 < sh := by omega
      clear ho hsh
      go_enter Try.func34, Try.ntmps34
      go_wp2_with (first | (go_at_call 49; refine (iCardOk_any _ _ _ _ _ _ _ HL.out hm HR.out).mono ?_; rw [HO.out]; rintro e w1 ⟨rfl, hb⟩) | (go_at_call 39; (first | refine (l01In_t _ _ _ _ (by omega) (by omega)).mono ?_ | refine (l01In_f _ _ _ _ (by omega)).mono ?_); rintro e w' ⟨rfl, rfl⟩) | (go_at_call 41; (first | refine (within_t _ _ _ _ (by omega) (by omega)).mono ?_ | refine (within_f _ _ _ _ (by omega)).mono ?_); rintro e w' ⟨rfl, rfl⟩))
      go_ret
      exact ⟨ret_int HV.out.symm, HB0.out.trans (hb.mono HB0.out.size)⟩
set_option maxHeartbeats 1000000 in
theorem sThickness_any (d f : Int) (a : Option Addr) (n c : Nat) (ss : List ByteArray) (sh : Int) (w : World) (hl : ss.length = n) (hm : (n : Int) + tot ss n ≤ 1048576) (hR : SlR w a n (sc ss)) :
    Calls Try.prog 15 #[.agg #[.int .i64 d, .int .i64 f, .slice a n c], .int .i64 sh] w fun e w' => e = .returned (.int .i64 (thk d f ss sh)) ∧ Below w.heap.size w w' := by
  have HB0 := Lib.hid (Below.box w (.cells #[.int .i64 d, .int .i64 f, .slice a n c] 34 (0, 0)))
  have HR := Lib.hid (hR.below HB0.out)
  have HL := Lib.hid hl
  clear hR hl
  cases ho : cardOkB d f ss
  · have HO := Lib.hid ho
    have HV := Lib.hid (thk_no (d := d) (f := f) (ss := ss) (sh := sh) (.inl ho))
    clear ho
    go_enter Try.func15, Try.ntmps15
    go_wp2_with (go_at_call 38; refine (sCardOk_any _ _ _ _ _ _ _ HL.out hm HR.out).mono ?_; rw [HO.out]; rintro e w1 ⟨rfl, hb⟩)
    go_ret
    exact ⟨ret_int HV.out.symm, HB0.out.trans (hb.mono HB0.out.size)⟩
  · have HO := Lib.hid ho
    by_cases hsh : 1 ≤ sh ∧ sh ≤ 1000
    · obtain ⟨h1, h2⟩ := hsh
      have HV := Lib.hid (thk_yes (d := d) (f := f) (ss := ss) ho h1 h2)
      clear ho
      go_enter Try.func15, Try.ntmps15
      go_wp2_with (first | (go_at_call 38; refine (sCardOk_any _ _ _ _ _ _ _ HL.out hm HR.out).mono ?_; rw [HO.out]; rintro e w1 ⟨rfl, hb⟩; have HB1 := Lib.hid hb; obtain ⟨b0, b1, b2⟩ := box3 hb; clear hb) | (go_at_call 39; (first | refine (l01In_t _ _ _ _ (by omega) (by omega)).mono ?_ | refine (l01In_f _ _ _ _ (by omega)).mono ?_); rintro e w' ⟨rfl, rfl⟩) | (go_at_call 41; (first | refine (within_t _ _ _ _ (by omega) (by omega)).mono ?_ | refine (within_f _ _ _ _ (by omega)).mono ?_); rintro e w' ⟨rfl, rfl⟩))
      clear b0 b1 b2
      go_loopw [5, 6] (fun m i wr => ∃ k : Nat, k ≤ n ∧ i = .int .i64 k ∧ m = .int .i64 (tks ss k) ∧ Below (w.alloc (.cells #[.int .i64 d, .int .i64 f, .slice a n c] 34 (0, 0))).heap.size (w.alloc (.cells #[.int .i64 d, .int .i64 f, .slice a n c] 34 (0, 0))) wr) (fun _ i _ => n - (intOf i).toNat)
      case atStart => exact ⟨0, Nat.zero_le _, rfl, rfl, HB1.out⟩
      case round =>
        obtain ⟨k, hk, rfl, rfl, hB⟩ := hrel
        have HB := Lib.hid hB
        clear hB
        obtain ⟨b0, b1, b2⟩ := box3 HB.out
        have htk := tks_bd ss k
        obtain ⟨t0, t1⟩ := htk
        by_cases hlt : k < n
        · obtain ⟨g, rfl, hr⟩ := (HR.out.below HB.out).row (by omega)
          have c0 := hr.cell hlt
          unfold sc at c0
          clear hr
          have hz := tot_at ss (show k < n from hlt)
          have hz1 : (ss.getD k ByteArray.empty).size ≤ 1048576 := by omega
          by_cases hc : tks ss k < thick (ss.getD k ByteArray.empty)
          · have HM := Lib.hid (tks_yes hc)
            generalize ss.getD k ByteArray.empty = q at *
            go_wp2_with (go_at_call 40; refine (sThickestOf_any q _ hz1).mono ?_; rintro e w2 ⟨rfl, hb2⟩; have HB2 := Lib.hid (HB.out.trans (hb2.mono HB.out.size)); clear hb2)
            go_roundw
            case rel => exact ⟨k + 1, by omega, by go_num, by rw [HM.out], HB2.out⟩
            case measure => simp [intOf]; omega
          · have HM := Lib.hid (tks_no hc)
            have hc' : thick (ss.getD k ByteArray.empty) ≤ tks ss k := by omega
            generalize ss.getD k ByteArray.empty = q at *
            go_wp2_with (go_at_call 40; refine (sThickestOf_any q _ hz1).mono ?_; rintro e w2 ⟨rfl, hb2⟩; have HB2 := Lib.hid (HB.out.trans (hb2.mono HB.out.size)); clear hb2)
            go_roundw
            case rel => exact ⟨k + 1, by omega, by go_num, by rw [HM.out], HB2.out⟩
            case measure => simp [intOf]; omega
        · have hk' : k = n := by omega
          subst hk'
          have hm1 := mul_bd t0 (by omega) h1 h2
          have hm2 := mul_bd (show 0 ≤ tks ss k + 2 by omega) (by omega) h1 h2
          have HE : Hid (thk d f ss sh = tks ss k * sh + 2 * sh) := Lib.hid (by rw [HV.out, HL.out, Int.add_mul])
          have HE2 : Hid (thk d f ss sh = (tks ss k + 2) * sh) := Lib.hid (by rw [HV.out, HL.out])
          go_wp2
          go_ret
          exact ⟨ret_int (by first | exact HE2.out.symm | (rw [HE.out]; rfl) | exact HE.out.symm), HB0.out.trans (HB.out.mono HB0.out.size)⟩
    · have HV := Lib.hid (thk_no (d := d) (f := f) (ss := ss) (sh := sh) (.inr (by omega)))
      have hsh' : sh < 1 ∨ 1000 < sh := by omega
      clear ho hsh
      go_enter Try.func15, Try.ntmps15
      go_wp2_with (first | (go_at_call 38; refine (sCardOk_any _ _ _ _ _ _ _ HL.out hm HR.out).mono ?_; rw [HO.out]; rintro e w1 ⟨rfl, hb⟩) | (go_at_call 39; (first | refine (l01In_t _ _ _ _ (by omega) (by omega)).mono ?_ | refine (l01In_f _ _ _ _ (by omega)).mono ?_); rintro e w' ⟨rfl, rfl⟩) | (go_at_call 41; (first | refine (within_t _ _ _ _ (by omega) (by omega)).mono ?_ | refine (within_f _ _ _ _ (by omega)).mono ?_); rintro e w' ⟨rfl, rfl⟩))
      go_ret
      exact ⟨ret_int HV.out.symm, HB0.out.trans (hb.mono HB0.out.size)⟩
end Go.Proofs.Ytjkcmjnejbobeaa
