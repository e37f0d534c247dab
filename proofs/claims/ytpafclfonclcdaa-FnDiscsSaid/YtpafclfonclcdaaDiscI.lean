/-
  Discs: contracts of isWindow, ShownAt, TurnsToShow, divisor and MeetAgain in the program, at valid discs.
  By an AI agent.
-/
import Derived.Test.YtpafclfonclcdaaDiscL
import Derived.BigRegion
import Derived.Test.YtpafclfonclcdaaHold
import Derived.Test.YtpafclfonclcdaaTurnI
import Derived.Deep.RegionHeld3
import Derived.Deep.DeepCutAuto
namespace Go.Proofs.Ytpafclfonclcdaa
open Go.ChangeShapes Go.WideShapes Go.ChangeAt Go.RowKit Go.Joins Go.Deep
set_option maxRecDepth 100000
set_option linter.unusedVariables false

set_option maxHeartbeats 1000000 in
theorem iWindow_yes (d f k : Int) (a : Option Addr) (n c : Nat) (zs : List Int) (w : World) (hl : zs.length = n) (hm : n ≤ 1048576) (hR : SlR w a n (ic zs)) (ho : discOkB d f zs = true) (hk : 0 ≤ k ∧ k ≤ d - 1) :
    Calls Try.prog 28 #[.agg #[.int .i64 d, .int .i64 f, .slice a n c], .int .i64 k] w fun e w' => e = .returned (.bool true) ∧ Below w.heap.size w w' := by
  have HB0 := Lib.hid (Below.box w (.cells #[.int .i64 d, .int .i64 f, .slice a n c] 26 (0, 0)))
  have HR := Lib.hid (hR.below HB0.out)
  have HL := Lib.hid hl
  obtain ⟨⟨q1, q2, q3, q4, q5⟩, _⟩ := discOk_iff.1 ho
  obtain ⟨k1, k2⟩ := hk
  have HO := Lib.hid ho
  clear hR hl ho q5
  go_enter Try.func28, Try.ntmps28
  go_wp2_with (first | (go_at_call 25; (first | refine (within_t _ _ _ _ (by omega) (by omega)).mono ?_ | refine (within_f _ _ _ _ (by omega)).mono ?_); rintro e w' ⟨rfl, rfl⟩) | (go_at_call 12; refine (iDiscOk_any _ _ _ _ _ _ _ HL.out hm HR.out).mono ?_; rw [HO.out]; rintro e w1 ⟨rfl, hb⟩; obtain ⟨b0, b1, b2⟩ := box3 hb; have HB1 := Lib.hid hb; clear hb))
  go_ret
  exact ⟨rfl, HB0.out.trans (HB1.out.mono (by simp))⟩
set_option maxHeartbeats 1000000 in
theorem iShown_yes (n f k c : Nat) (a : Option Addr) (zs : List Int) (w : World) (hl : zs.length = n) (hR : SlR w a n (ic zs)) (ho : discOkB n f zs = true) (hk : k < n) :
    Calls Try.prog 13 #[.agg #[.int .i64 n, .int .i64 f, .slice a n c], .int .i64 k] w fun e w' => e = .returned (.int .i64 (shownP zs n f k)) ∧ Below w.heap.size w w' := by
  have HB0 := Lib.hid (Below.box w (.cells #[.int .i64 n, .int .i64 f, .slice a n c] 26 (0, 0)))
  have HR := Lib.hid (hR.below HB0.out)
  have HL := Lib.hid hl
  obtain ⟨⟨q1, q2, q3, q4, q5⟩, _⟩ := discOk_iff.1 ho
  have HO := Lib.hid ho
  clear hR hl ho q5
  go_enter Try.func13, Try.ntmps13
  go_wp2_with (go_at_call 28; refine (iWindow_yes _ _ _ _ _ _ _ _ HL.out (by omega) HR.out HO.out (by omega)).mono ?_; rintro e w1 ⟨rfl, hb⟩; have HB1 := Lib.hid hb; clear hb)
  obtain ⟨b0, b1, b2⟩ := box3 HB1.out
  have hmlt : (f + k) % n < n := Nat.mod_lt _ (by omega)
  obtain ⟨g, rfl, hr⟩ := (HR.out.below HB1.out).row (by omega)
  have c0 := hr.cell hmlt
  unfold ic at c0
  have HS : Hid (shownP zs n f k = zs.getD ((f + k) % n) 0) := Lib.hid rfl
  have e2 : ((f : Int) + (k : Int)).tmod (n : Int) = (((f + k) % n : Nat) : Int) := by
    rw [Int.tmod_eq_emod_of_nonneg (by omega)]; simp
  clear hr
  generalize (f + k) % n = m at hmlt c0 HS e2
  have e1 : IntKind.i64.wrap ((f : Int) + (k : Int)) = (f : Int) + (k : Int) := IntWalk.i64_in _ (by omega)
  have i0 : (0 : Int) ≤ (m : Int) := Int.natCast_nonneg _
  have i1 : (m : Int) < (n : Int) := by omega
  generalize zs.getD m 0 = x at c0 HS
  go_wp2
  go_quiet (fail)
  go_wp2
  go_ret
  exact ⟨ret_int HS.out.symm, HB0.out.trans (below_drewN (HB1.out.mono (by simp)) _)⟩
def TtsP (zs : List Int) (n f k : Nat) (pic : Int) (w : World) (e : Ending) (w' : World) : Prop :=
  ∃ r : Int, e = .returned (.int .i64 r) ∧ ((∃ t : Nat, t < n ∧ r = t ∧ zs.getD ((f + t + k) % n) 0 = pic ∧ ∀ j, j < t → zs.getD ((f + j + k) % n) 0 ≠ pic) ∨ (r = -1 ∧ ∀ j, j < n → zs.getD ((f + j + k) % n) 0 ≠ pic)) ∧ Below w.heap.size w w'
set_option maxHeartbeats 1000000 in
theorem iTurns_yes (n f k c : Nat) (pic : Int) (a : Option Addr) (zs : List Int) (w : World) (hl : zs.length = n) (hR : SlR w a n (ic zs)) (ho : discOkB n f zs = true) (hk : k < n) :
    Calls Try.prog 14 #[.agg #[.int .i64 n, .int .i64 f, .slice a n c], .int .i64 k, .int .i64 pic] w (TtsP zs n f k pic w) := by
  have HB0 := Lib.hid (Below.box w (.cells #[.int .i64 n, .int .i64 f, .slice a n c] 26 (0, 0)))
  have HR := Lib.hid (hR.below HB0.out)
  have HL := Lib.hid hl
  obtain ⟨⟨q1, q2, q3, q4, q5⟩, _⟩ := discOk_iff.1 ho
  have HO := Lib.hid ho
  clear hR hl ho q5
  go_enter Try.func14, Try.ntmps14
  go_wp2_with (go_at_call 28; refine (iWindow_yes _ _ _ _ _ _ _ _ HL.out (by omega) HR.out HO.out (by omega)).mono ?_; rintro e w1 ⟨rfl, hb⟩; obtain ⟨b0, b1, b2⟩ := box3 hb; have HB1 := Lib.hid hb; clear hb)
  clear b0 b1 b2
  go_loopw [14] (fun i wr => ∃ t : Nat, t ≤ n ∧ i = .int .i64 t ∧ (∀ j, j < t → zs.getD ((f + j + k) % n) 0 ≠ pic) ∧ Below (w.alloc (.cells #[.int .i64 n, .int .i64 f, .slice a n c] 26 (0, 0))).heap.size (w.alloc (.cells #[.int .i64 n, .int .i64 f, .slice a n c] 26 (0, 0))) wr) (fun i _ => n - (intOf i).toNat)
  case atStart => exact ⟨0, Nat.zero_le _, rfl, fun j h => absurd h (Nat.not_lt_zero j), HB1.out⟩
  case round =>
    obtain ⟨t, ht, rfl, hno, hB⟩ := hrel
    have HN := Lib.hid hno
    have HB := Lib.hid hB
    clear hno hB
    obtain ⟨b0, b1, b2⟩ := box3 HB.out
    by_cases hlt : t < n
    · have hmlt : (f + t + k) % n < n := Nat.mod_lt _ (by omega)
      obtain ⟨g, rfl, hr⟩ := (HR.out.below HB.out).row (by omega)
      have c0 := hr.cell hmlt
      unfold ic at c0
      have HM : Hid (∀ P : Int → Prop, P (zs.getD ((f + t + k) % n) 0) → ∃ x, x = zs.getD ((f + t + k) % n) 0 ∧ P x) := Lib.hid (fun P h => ⟨_, rfl, h⟩)
      have HS : Hid (zs.getD ((f + t + k) % n) 0 = zs.getD ((f + t + k) % n) 0) := Lib.hid rfl
      have e2 : ((f : Int) + (t : Int) + (k : Int)).tmod (n : Int) = (((f + t + k) % n : Nat) : Int) := by
        rw [Int.tmod_eq_emod_of_nonneg (by omega)]; simp
      clear hr HM
      have HS2 : Hid (∃ m, m = (f + t + k) % n) := Lib.hid ⟨_, rfl⟩
      obtain ⟨x, hx⟩ : ∃ x, zs.getD ((f + t + k) % n) 0 = x := ⟨_, rfl⟩
      rw [hx] at c0
      have HX := Lib.hid hx
      clear hx HS HS2
      generalize (f + t + k) % n = m at hmlt c0 e2
      have e1 : IntKind.i64.wrap ((f : Int) + (t : Int)) = (f : Int) + (t : Int) := IntWalk.i64_in _ (by omega)
      have e3 : IntKind.i64.wrap ((f : Int) + (t : Int) + (k : Int)) = (f : Int) + (t : Int) + (k : Int) := IntWalk.i64_in _ (by omega)
      have i0 : (0 : Int) ≤ (m : Int) := Int.natCast_nonneg _
      have i1 : (m : Int) < (n : Int) := by omega
      by_cases hp : x = pic
      · have HP := Lib.hid hp
        have hp' : (x == pic) = true := by simpa using hp
        clear hp
        go_wp2
        go_quiet (fail)
        go_wp2
        go_ret
        refine ⟨(t : Int), rfl, .inl ⟨t, hlt, rfl, by rw [HX.out]; exact HP.out, HN.out⟩, HB0.out.trans (below_drewN (HB.out.mono (by simp)) _)⟩
      · have hp' : (x == pic) = false := by simpa using hp
        have X : Hid (∀ j, j < t + 1 → zs.getD ((f + j + k) % n) 0 ≠ pic) := Lib.hid (by
          intro j hj
          by_cases e : j = t
          · rw [e, HX.out]; exact hp
          · exact HN.out j (by omega))
        clear hp HN
        go_wp2
        go_quiet (fail)
        go_wp2
        go_roundw
        case rel => exact ⟨t + 1, by omega, by go_num, X.out, below_drewN HB.out _⟩
        case measure => simp [intOf]; omega
    · have ht' : t = n := by omega
      subst ht'
      go_wp2
      go_ret
      exact ⟨-1, rfl, .inr ⟨rfl, HN.out⟩, HB0.out.trans (HB.out.mono (by simp))⟩
theorem idivisor_any (x y : Nat) (w : World) (hx : x ≤ 1048576) (hy : y ≤ 1048576) :
    Calls Try.prog 27 #[.int .i64 x, .int .i64 y] w fun e w' => e = .returned (.int .i64 (Nat.gcd x y)) ∧ w'.heap = w.heap ∧ Below w.heap.size w w' := by
  go_enter Try.func27, Try.ntmps27
  go_wp2
  go_loopw [0, 1] (fun p q wr => ∃ u v : Nat, u ≤ 1048576 ∧ v ≤ 1048576 ∧ p = .int .i64 u ∧ q = .int .i64 v ∧ Hid (Nat.gcd u v = Nat.gcd x y) ∧ wr.heap = w.heap ∧ Below w.heap.size w wr) (fun _ q _ => (intOf q).toNat)
  case atStart => exact ⟨x, y, hx, hy, rfl, rfl, Lib.hid rfl, rfl, Below.refl _ _⟩
  case round =>
    obtain ⟨u, v, hu, hv, rfl, rfl, hG, hh, hB⟩ := hrel
    have HH := Lib.hid hh
    have HB := Lib.hid hB
    clear hh hB
    by_cases h0 : v = 0
    · subst h0
      have e1 : Hid (((u : Nat) : Int) = (Nat.gcd x y : Int)) := Lib.hid (by rw [← hG.out, Nat.gcd_zero_right])
      have t0 : ((((0 : Nat) : Int)) != 0) = false := by simp
      clear hG
      go_wp2
      go_ret
      exact ⟨ret_int e1.out, HH.out, HB.out⟩
    · have t0 : (((v : Nat) : Int) != 0) = true := by simp; omega
      have t1 : ¬ ((v : Nat) : Int) = 0 := by omega
      have e2 : ((u : Int)).tmod (v : Int) = ((u % v : Nat) : Int) := by
        rw [Int.tmod_eq_emod_of_nonneg (by omega)]; simp
      have e3 : IntKind.i64.wrap ((u % v : Nat) : Int) = ((u % v : Nat) : Int) := IntWalk.i64_in _ (by have := Nat.mod_lt u (by omega : 0 < v); omega)
      have hlt := Nat.mod_lt u (by omega : 0 < v)
      have G2 : Hid (Nat.gcd v (u % v) = Nat.gcd x y) := Lib.hid (by rw [← hG.out, Nat.gcd_comm v (u % v), ← Nat.gcd_rec, Nat.gcd_comm])
      clear hG
      generalize u % v = m at *
      go_wp2
      go_region
      all_goals
        go_wp2
        go_roundw
        case rel => exact ⟨v, m, hv, by omega, rfl, by go_num, G2, HH.out, below_drewN HB.out _⟩
        case measure => simp [intOf]; omega

set_option maxHeartbeats 1000000 in
theorem iMeet_yes (n f c m f' c' : Nat) (a a' : Option Addr) (zs zs' : List Int) (w : World) (hl : zs.length = n) (hR : SlR w a n (ic zs)) (ho : discOkB n f zs = true) (hl' : zs'.length = m) (hR' : SlR w a' m (ic zs')) (ho' : discOkB m f' zs' = true) :
    Calls Try.prog 11 #[.agg #[.int .i64 n, .int .i64 f, .slice a n c], .agg #[.int .i64 m, .int .i64 f', .slice a' m c']] w fun e w' => e = .returned (.int .i64 ((n / Nat.gcd n m * m : Nat) : Int)) ∧ Below w.heap.size w w' := by
  have B0 : Below w.heap.size w ((w.alloc (.cells #[.int .i64 n, .int .i64 f, .slice a n c] 26)).alloc (.cells #[.int .i64 m, .int .i64 f', .slice a' m c'] 26)) := (by (repeat' (first | exact Below.refl _ _ | refine Below.drew ?_ | refine Below.setCell ?_ ?_ _ | refine Below.alloc ?_ ?_ _)) <;> (first | (simp; done) | (simp; omega)))
  have HR := Lib.hid (hR.below B0)
  have HR' := Lib.hid (hR'.below B0)
  have HB0 := Lib.hid B0
  have HL := Lib.hid hl
  have HL' := Lib.hid hl'
  obtain ⟨⟨q1, q2, q3, q4, q5⟩, _⟩ := discOk_iff.1 ho
  obtain ⟨⟨r1, r2, r3, r4, r5⟩, _⟩ := discOk_iff.1 ho'
  have HO := Lib.hid ho
  have HO' := Lib.hid ho'
  clear hR hR' hl hl' ho ho' q5 r5 B0
  obtain ⟨Pr, Qr⟩ := rows2 w (.int .i64 n) (.int .i64 f) (.slice a n c) (.int .i64 m) (.int .i64 f') (.slice a' m c') 26 26
  have P0 := Lib.hid Pr
  have Q0 := Lib.hid Qr
  clear Pr Qr
  go_enter Try.func11, Try.ntmps11
  go_wp2_with fail
  refine (iDiscOk_any _ _ _ _ _ _ _ HL.out (by omega) HR.out).mono ?_
  rw [HO.out]
  rintro e w1 ⟨rfl, hb⟩
  have P1 := Lib.hid (P0.out.below hb P0.out.lt)
  have Q1 := Lib.hid (Q0.out.below hb Q0.out.lt)
  have HR1 := Lib.hid (HR'.out.below hb)
  have HB1 := Lib.hid (HB0.out.trans (hb.mono HB0.out.size))
  clear hb P0 Q0
  have x0 := P1.out.cell (i := 0) (by omega)
  have x1 := P1.out.cell (i := 1) (by omega)
  have x2 := P1.out.cell (i := 2) (by omega)
  have y0 := Q1.out.cell (i := 0) (by omega)
  have y1 := Q1.out.cell (i := 1) (by omega)
  have y2 := Q1.out.cell (i := 2) (by omega)
  unfold tri at x0 x1 x2 y0 y1 y2
  simp at x0 x1 x2 y0 y1 y2
  go_wp2_with fail
  refine (iDiscOk_any _ _ _ _ _ _ _ HL'.out (by omega) HR1.out).mono ?_
  rw [HO'.out]
  rintro e w2 ⟨rfl, hb⟩
  have P2 := Lib.hid (SlR.of_row (P1.out.below hb P1.out.lt))
  have Q2 := Lib.hid (SlR.of_row (Q1.out.below hb Q1.out.lt))
  have HB2 := Lib.hid (HB1.out.trans (hb.mono HB1.out.size))
  clear hb P1 Q1 x0 x1 x2 y0 y1 y2
  obtain ⟨hl1, -, -, hl4⟩ := meet_law (a := n) (b := m) (by omega) (by omega)
  have hg0 : 0 < Nat.gcd n m := Nat.gcd_pos_of_pos_left _ (by omega)
  have hM : n * m ≤ 24 * 24 := Nat.mul_le_mul (by omega) (by omega)
  have hu : n / Nat.gcd n m ≤ n := Nat.div_le_self _ _
  have e1 : ((n : Int)).tdiv (Nat.gcd n m : Int) = ((n / Nat.gcd n m : Nat) : Int) := by rw [Int.tdiv_eq_ediv_of_nonneg (by omega)]; simp
  have e2 : ((n / Nat.gcd n m : Nat) : Int) * (m : Int) = ((n / Nat.gcd n m * m : Nat) : Int) := by simp
  have hv : n / Nat.gcd n m * m ≤ 576 := by omega
  go_wp2_with fail
  have hS := Lib.hid (SB2.mk P2.out Q2.out ((Below.refl _ w2).drew) : SB2 w2 w.heap.size (Value.int .i64 n) (Value.int .i64 f) (Value.slice a n c) (w.heap.size + 1) (Value.int .i64 m) (Value.int .i64 f') (Value.slice a' m c') _)
  obtain ⟨g, hg⟩ : ∃ g, Nat.gcd n m = g := ⟨_, rfl⟩
  rw [hg] at hg0 e1 e2 hl1 hl4 hu hv
  have HG := Lib.hid hg
  have HV : Hid (n / Nat.gcd n m * m = n / g * m) := Lib.hid (by rw [hg])
  clear hg
  obtain ⟨u, hu0⟩ : ∃ u, n / g = u := ⟨_, rfl⟩
  obtain ⟨v, hv0⟩ : ∃ v, n / g * m = v := ⟨_, rfl⟩
  have HW : Hid (n / Nat.gcd n m * m = v) := Lib.hid (HV.out.trans hv0)
  rw [hv0] at e2 hl1 hl4 hv
  rw [hu0] at e1 e2 hu
  clear hu0 hv0
  have e3 : IntKind.i64.wrap (u : Int) = (u : Int) := IntWalk.i64_in _ (by omega)
  have e4 : IntKind.i64.wrap ((u : Int) * (m : Int)) = (v : Int) := by rw [e2]; exact IntWalk.i64_in _ (by omega)
  have hg1 : ¬ (g : Int) = 0 := by omega
  have hg2 : ¬ g = 0 := by omega
  have hg3 : ((g : Int) == 0) = false := by simpa using hg2
  go_region_held3 (fun w' => (w'.cell? ⟨w.heap.size, 0, none⟩ = some (Value.int .i64 n) ∧ w'.cell? ⟨w.heap.size, 1, none⟩ = some (Value.int .i64 f) ∧ w'.cell? ⟨w.heap.size, 2, none⟩ = some (Value.slice a n c) ∧ w'.cell? ⟨w.heap.size + 1, 0, none⟩ = some (Value.int .i64 m) ∧ w'.cell? ⟨w.heap.size + 1, 1, none⟩ = some (Value.int .i64 f') ∧ w'.cell? ⟨w.heap.size + 1, 2, none⟩ = some (Value.slice a' m c')) ∧ Hid (Below w2.heap.size w2 w'))
    (first | exact hS.out | (go_keep; done))
    ((go_at_call 27; refine (idivisor_any _ _ _ (by omega) (by omega)).mono ?_; rw [HG.out]; rintro e wS ⟨rfl, _, bS⟩; have hS := Lib.hid (SB2.next P2.out Q2.out (show SB2 w2 w.heap.size (Value.int .i64 n) (Value.int .i64 f) (Value.slice a n c) (w.heap.size + 1) (Value.int .i64 m) (Value.int .i64 f') (Value.slice a' m c') _ from by assumption) bS); clear bS))
  all_goals
    go_wp2
    go_ret
    exact ⟨ret_int (by first | (rw [HW.out]; done) | (rw [HW.out]; exact IntWalk.i64_in _ (by omega))), HB2.out.trans (hS.out.2.out.mono HB2.out.size)⟩
end Go.Proofs.Ytpafclfonclcdaa
