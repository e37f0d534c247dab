/-
  The Go function laws.FnExactFoldContrast returns true for every input and leaves its arguments as they were; no condition.
  By an AI agent.
-/
import Derived.Test.YtlddbbdgmpeblaaRows
import Derived.WalkKit
import Derived.ProofKit
import Derived.OpenShut
import Derived.Carry
import Derived.ChangeOld
import Derived.Below
import Derived.Lib.SmallJoins
import Derived.Deep.Slices
import Derived.Deep.Fields
import Derived.Lib.Hide
import Derived.Test.YtlddbbdgmpeblaaFold
import Derived.Test.YtlddbbdgmpeblaaHold
import Derived.Deep.RegionHeld3
namespace Go.Proofs.Ytlddbbdgmpeblaa.fnExactFoldContrast
open Go.Proofs.Ytlddbbdgmpeblaa Go.ChangeShapes Go.WideShapes Go.ChangeAt Go.RowKit Go.Joins Go.Deep

set_option linter.unusedVariables false
set_option maxRecDepth 100000

theorem own : ownKnob Try.prog.godebug = none := by kernel_rfl
theorem laidOut : laidOutB Try.prog = true := by kernel_rfl



set_option maxHeartbeats 3200000 in
theorem walk (w : World) (x0 : DCard) (w0 : x0.good w) (a1 : Option Addr) (l1 c1 : Nat) (z1 : List Int) (w1 : IsRow .i64 w a1 l1 c1 z1) :
    Calls Try.prog 7 #[x0.val, .slice a1 l1 c1] w fun e w' => e = .returned (.bool true) ∧ Below w.heap.size w w' := by
  obtain ⟨d, f, a, n, c, ss⟩ := x0
  obtain ⟨_, _, hl, hmx, hsz, hA⟩ := w0
  simp only [DCard.val]
  simp only at hl hmx hsz hA
  obtain ⟨hmx1, zs, hzl, hzA⟩ := w1.arg
  unfold maxLen at hmx1
  clear w1
  by_cases hm1 : l1 ≤ 1048576
  · by_cases hm : (n : Int) + tot ss n ≤ 1048576
    · obtain ⟨F, k, hF⟩ := fcO_ex d f n ss
      have HA := Lib.hid hA
      have HL := Lib.hid hl
      have HZ := Lib.hid hzA
      have HZL := Lib.hid hzl
      have HF := Lib.hid hF
      have hn : n ≤ 1048576 := by omega
      clear hA hl hsz hzA hzl hF
      go_enter Try.func7, Try.ntmps7
      have b1 := Below.box w (.cells #[Value.int .i64 d, Value.int .i64 f, Value.slice a n c] 24 (0, 0))
      have fP : Fresh w.heap.size (some ⟨w.heap.size, 0, none⟩) 3 := Fresh.of (Nat.le_refl _)
      have sP := SlR.box w (Value.int .i64 d) (Value.int .i64 f) (Value.slice a n c) 24
      have FP := Lib.hid (fP)
      have RP := Lib.hid sP
      clear fP sP
      have B1 := Lib.hid b1
      clear b1
      obtain ⟨xP0, xP1, xP2⟩ := RP.out.tri
      go_wp2_with fail
      refine (szCard_ok d f a n c ss 1048576 _ (by omega) hm (HA.out.below B1.out)).mono ?_
      rintro e w2 ⟨rfl, b2⟩
      replace RP := Lib.hid (RP.out.below b2)
      have B2 := Lib.hid (B1.out.trans (b2.mono B1.out.size))
      clear b2 B1
      clear xP0 xP1 xP2
      obtain ⟨xP0, xP1, xP2⟩ := RP.out.tri
      go_wp2_with fail
      refine (toCard_any d f a n c ss _ hn (HA.out.below B2.out)).mono ?_
      rintro e w3 ⟨gA, rfl, hA, rA, b3⟩
      have fA := Fresh.of (N := n) hA
      have sA := SlR.of_row rA
      clear hA rA
      have apPA := Lib.hid (RP.out.apart fA)
      have FA := Lib.hid (fA.mono B2.out.size)
      replace RP := Lib.hid (RP.out.below b3)
      have RA := Lib.hid sA
      clear fA sA
      have B3 := Lib.hid (B2.out.trans (b3.mono B2.out.size))
      clear b3 B2
      clear xP0 xP1 xP2
      obtain ⟨xP0, xP1, xP2⟩ := RP.out.tri
      go_wp2_with fail
      refine (toIntS_any _ l1 _ zs _ hm1 (HZ.out.below B3.out)).mono ?_
      rintro e w4 ⟨gB, rfl, hB, rB, b4⟩
      have fB := Fresh.of (N := l1) hB
      have sB := SlR.of_row rB
      clear hB rB
      have apPB := Lib.hid (RP.out.apart fB)
      have apAB := Lib.hid (RA.out.apart fB)
      have FB := Lib.hid (fB.mono B3.out.size)
      replace RP := Lib.hid (RP.out.below b4)
      replace RA := Lib.hid (RA.out.below b4)
      have RB := Lib.hid sB
      clear fB sB
      have B4 := Lib.hid (B3.out.trans (b4.mono B3.out.size))
      clear b4 B3
      clear xP0 xP1 xP2
      obtain ⟨xP0, xP1, xP2⟩ := RP.out.tri
      go_wp2_with fail
      refine (sFoldContrast_any d f _ n _ ss F k _ l1 _ zs _ HF.out HL.out hm RA.out HZL.out hm1 RB.out).mono ?_
      rintro e w5 ⟨rfl, b5⟩
      replace RP := Lib.hid (RP.out.below b5)
      replace RA := Lib.hid (RA.out.below b5)
      replace RB := Lib.hid (RB.out.below b5)
      have B5 := Lib.hid (B4.out.trans (b5.mono B4.out.size))
      clear b5 B4
      clear xP0 xP1 xP2
      obtain ⟨xP0, xP1, xP2⟩ := RP.out.tri
      clear RA
      clear RB
      go_wp2_with fail
      refine (toCard_any d f a n c ss _ hn (HA.out.below B5.out)).mono ?_
      rintro e w6 ⟨gX, rfl, hX, rX, b6⟩
      have fX := Fresh.of (N := n) hX
      have sX := SlR.of_row rX
      clear hX rX
      have apPX := Lib.hid (RP.out.apart fX)
      have FX := Lib.hid (fX.mono B5.out.size)
      replace RP := Lib.hid (RP.out.below b6)
      have RX := Lib.hid sX
      clear fX sX
      have B6 := Lib.hid (B5.out.trans (b6.mono B5.out.size))
      clear b6 B5
      clear xP0 xP1 xP2
      obtain ⟨xP0, xP1, xP2⟩ := RP.out.tri
      have b7 := Below.box w6 (.cells #[Value.int .i64 d, Value.int .i64 f, Value.slice (some ⟨gX, 0, none⟩) n n] 28 (0, 0))
      have fQ : Fresh w6.heap.size (some ⟨w6.heap.size, 0, none⟩) 3 := Fresh.of (Nat.le_refl _)
      have sQ := SlR.box w6 (Value.int .i64 d) (Value.int .i64 f) (Value.slice (some ⟨gX, 0, none⟩) n n) 28
      have apPQ := Lib.hid (RP.out.apart fQ)
      have apXQ := Lib.hid (RX.out.apart fQ)
      have FQ := Lib.hid (fQ.mono B6.out.size)
      replace RP := Lib.hid (RP.out.below b7)
      replace RX := Lib.hid (RX.out.below b7)
      have RQ := Lib.hid sQ
      clear fQ sQ
      have B7 := Lib.hid (B6.out.trans (b7.mono B6.out.size))
      clear b7 B6
      clear xP0 xP1 xP2
      obtain ⟨xP0, xP1, xP2⟩ := RP.out.tri
      obtain ⟨xQ0, xQ1, xQ2⟩ := RQ.out.tri
      go_wp2_with fail
      refine (toIntS_any _ l1 _ zs _ hm1 (HZ.out.below B7.out)).mono ?_
      rintro e w8 ⟨gY, rfl, hY, rY, b8⟩
      have fY := Fresh.of (N := l1) hY
      have sY := SlR.of_row rY
      clear hY rY
      have apPY := Lib.hid (RP.out.apart fY)
      have apXY := Lib.hid (RX.out.apart fY)
      have apQY := Lib.hid (RQ.out.apart fY)
      have FY := Lib.hid (fY.mono B7.out.size)
      replace RP := Lib.hid (RP.out.below b8)
      replace RX := Lib.hid (RX.out.below b8)
      replace RQ := Lib.hid (RQ.out.below b8)
      have RY := Lib.hid sY
      clear fY sY
      have B8 := Lib.hid (B7.out.trans (b8.mono B7.out.size))
      clear b8 B7
      clear xP0 xP1 xP2
      obtain ⟨xP0, xP1, xP2⟩ := RP.out.tri
      clear xQ0 xQ1 xQ2
      obtain ⟨xQ0, xQ1, xQ2⟩ := RQ.out.tri
      go_wp2_with fail
      refine (iFoldContrast_any d f _ n _ ss F k _ l1 _ zs _ HF.out HL.out hm RX.out HZL.out hm1 RY.out).mono ?_
      rintro e w9 ⟨rfl, b9⟩
      replace RP := Lib.hid (RP.out.below b9)
      replace RX := Lib.hid (RX.out.below b9)
      replace RQ := Lib.hid (RQ.out.below b9)
      replace RY := Lib.hid (RY.out.below b9)
      have B9 := Lib.hid (B8.out.trans (b9.mono B8.out.size))
      clear b9 B8
      clear xP0 xP1 xP2
      obtain ⟨xP0, xP1, xP2⟩ := RP.out.tri
      clear xQ0 xQ1 xQ2
      obtain ⟨xQ0, xQ1, xQ2⟩ := RQ.out.tri
      generalize foldV d f n ss zs F k = r
      have er : (r != r) = false := by simp
      go_wp2_with fail
      have hS := Lib.hid (SB2.mk RP.out RQ.out ((Below.refl _ w9).drew) : SB2 w9 w.heap.size (Value.int .i64 d) (Value.int .i64 f) (Value.slice a n c) w6.heap.size (Value.int .i64 d) (Value.int .i64 f) (Value.slice (some ⟨gX, 0, none⟩) n n) _)
      clear xP0 xP1 xP2
      clear xQ0 xQ1 xQ2
      go_region_held3 (fun w' => (w'.cell? ⟨w.heap.size, 0, none⟩ = some (Value.int .i64 d) ∧ w'.cell? ⟨w.heap.size, 1, none⟩ = some (Value.int .i64 f) ∧ w'.cell? ⟨w.heap.size, 2, none⟩ = some (Value.slice a n c) ∧ w'.cell? ⟨w6.heap.size, 0, none⟩ = some (Value.int .i64 d) ∧ w'.cell? ⟨w6.heap.size, 1, none⟩ = some (Value.int .i64 f) ∧ w'.cell? ⟨w6.heap.size, 2, none⟩ = some (Value.slice (some ⟨gX, 0, none⟩) n n)) ∧ Hid (Below w9.heap.size w9 w'))
        (first | exact hS.out | (go_keep; done))
        (first | (go_at_call 10; refine (toCard_any d f a n c ss _ hn (HA.out.below (B9.out.trans ((show SB2 w9 w.heap.size (Value.int .i64 d) (Value.int .i64 f) (Value.slice a n c) w6.heap.size (Value.int .i64 d) (Value.int .i64 f) (Value.slice (some ⟨gX, 0, none⟩) n n) _ from by assumption).2.out.mono B9.out.size)))).mono ?_; rintro e wS10 ⟨gZ, rfl, hZ, rZ, bS⟩; have hS := Lib.hid (SB2.next RP.out RQ.out (show SB2 w9 w.heap.size (Value.int .i64 d) (Value.int .i64 f) (Value.slice a n c) w6.heap.size (Value.int .i64 d) (Value.int .i64 f) (Value.slice (some ⟨gX, 0, none⟩) n n) _ from by assumption) bS); have RZ := Lib.hid (SlR.of_row rZ); clear hZ rZ; clear bS) | (go_at_call 13; refine (eqCard_same d f _ _ _ _ _ ss _ hn (RX.out.below (show SB2 w9 w.heap.size (Value.int .i64 d) (Value.int .i64 f) (Value.slice a n c) w6.heap.size (Value.int .i64 d) (Value.int .i64 f) (Value.slice (some ⟨gX, 0, none⟩) n n) _ from by assumption).2.out) RZ.out).mono ?_; rintro e wS10 ⟨rfl, bS⟩; have hS := Lib.hid (SB2.next RP.out RQ.out (show SB2 w9 w.heap.size (Value.int .i64 d) (Value.int .i64 f) (Value.slice a n c) w6.heap.size (Value.int .i64 d) (Value.int .i64 f) (Value.slice (some ⟨gX, 0, none⟩) n n) _ from by assumption) bS); have RZ := Lib.hid (RZ.out.below bS); clear bS))
      have b10 := hS.out.2.out
      clear hS
      replace RP := Lib.hid (RP.out.below b10)
      replace RX := Lib.hid (RX.out.below b10)
      replace RQ := Lib.hid (RQ.out.below b10)
      replace RY := Lib.hid (RY.out.below b10)
      have B10 := Lib.hid (B9.out.trans (b10.mono B9.out.size))
      clear b10 B9
      obtain ⟨xP0, xP1, xP2⟩ := RP.out.tri
      obtain ⟨xQ0, xQ1, xQ2⟩ := RQ.out.tri
      go_wp2_with fail
      refine (toIntS_any _ l1 _ zs _ hm1 (HZ.out.below B10.out)).mono ?_
      rintro e w11 ⟨gW, rfl, hW, rW, b11⟩
      have fW := Fresh.of (N := l1) hW
      have sW := SlR.of_row rW
      clear hW rW
      have apPW := Lib.hid (RP.out.apart fW)
      have apXW := Lib.hid (RX.out.apart fW)
      have apQW := Lib.hid (RQ.out.apart fW)
      have apYW := Lib.hid (RY.out.apart fW)
      have FW := Lib.hid (fW.mono B10.out.size)
      replace RP := Lib.hid (RP.out.below b11)
      replace RX := Lib.hid (RX.out.below b11)
      replace RQ := Lib.hid (RQ.out.below b11)
      replace RY := Lib.hid (RY.out.below b11)
      have RW := Lib.hid sW
      clear fW sW
      have B11 := Lib.hid (B10.out.trans (b11.mono B10.out.size))
      clear b11 B10
      clear xP0 xP1 xP2
      obtain ⟨xP0, xP1, xP2⟩ := RP.out.tri
      clear xQ0 xQ1 xQ2
      obtain ⟨xQ0, xQ1, xQ2⟩ := RQ.out.tri
      go_wp2_with fail
      refine (eqIntS_same _ _ _ _ _ _ _ hm1 RY.out RW.out).mono ?_
      rintro e w12 ⟨rfl, b12⟩
      replace RP := Lib.hid (RP.out.below b12)
      replace RX := Lib.hid (RX.out.below b12)
      replace RQ := Lib.hid (RQ.out.below b12)
      replace RY := Lib.hid (RY.out.below b12)
      replace RW := Lib.hid (RW.out.below b12)
      have B12 := Lib.hid (B11.out.trans (b12.mono B11.out.size))
      clear b12 B11
      clear xP0 xP1 xP2
      obtain ⟨xP0, xP1, xP2⟩ := RP.out.tri
      clear xQ0 xQ1 xQ2
      obtain ⟨xQ0, xQ1, xQ2⟩ := RQ.out.tri
      go_wp2_with fail
      go_ret
      exact ⟨rfl, B12.out⟩
    · have HB0 := Lib.hid (Below.box w (.cells #[.int .i64 d, .int .i64 f, .slice a n c] 24 (0, 0)))
      have HA := Lib.hid (hA.below HB0.out)
      have HS := Lib.hid hsz
      clear hA hsz hzA hzl
      go_enter Try.func7, Try.ntmps7
      go_wp2_with fail
      refine (szCard_big d f a n c ss 1048576 _ (by omega) (by omega) hmx HS.out (by omega) HA.out).mono ?_
      rintro e w1 ⟨rfl, b1⟩
      go_wp2_with fail
      go_ret
      exact ⟨rfl, HB0.out.trans (b1.mono HB0.out.size)⟩
  · have HB0 := Lib.hid (Below.box w (.cells #[.int .i64 d, .int .i64 f, .slice a n c] 24 (0, 0)))
    clear hA hsz hzA hzl hl
    go_enter Try.func7, Try.ntmps7
    go_wp2_with fail
    go_ret
    exact ⟨rfl, HB0.out⟩

set_option maxRecDepth 100000 in
theorem lifted (os : Os) (started : os.Started) (H : Type) (enc : TypeId × Value → H) :
    ReturnsInHanded {} Try.checked os 7 .any (Rows.fnExactFoldContrastSpec.pre6 enc Try.prog Try.f7 Rows.fnExactFoldContrastRow.domain false) (Rows.fnExactFoldContrastSpec.post enc Try.prog Try.f7 false true false false) := by
  refine returnsInHanded_of_change (C := Try.checked) own started (by kernel_rfl) Try.func7
    (ChangeSpec.witness6 (enc := enc) (C := Try.checked) false ⟨#[], #[.agg #[.int .i64 0, .int .i64 0, .slice none 0 0], .slice none 0 0], []⟩ 8 (by kernel_rfl) (by kernel_rfl) (by kernel_rfl) (by kernel_rfl)) ?_
  intro W base args ds gs before hval0 hW hcnd _
  have hval : ∀ (j : Nat) t v, Try.f7.params[j]? = some t → args[j]? = some v → Value.okWide Try.prog W .any base t v := hval0
  have hW' := hW
  obtain ⟨p, q, hA0, hV, rfl, hfz, hnd⟩ := hW
  have hA : DataW.TrodAll enc Try.prog W 0 (fun _ => true) true Try.f7.params.toList args.toList ds p := hA0
  rw [Try.params7] at hA hval
  obtain ⟨v0, vs0, d0, ds0, p0, q0, hargs, rfl, rfl, h0, r0⟩ := trodAll_cons hA
  obtain ⟨v1, vs1, d1, ds1, p1, q1, rfl, rfl, rfl, h1, r1⟩ := trodAll_cons r0
  obtain ⟨rfl, rfl, rfl⟩ := trodAll_nil r1
  obtain rfl : args = #[v0, v1] := by cases args; simp_all
  obtain ⟨rfl, rfl⟩ := trodVars_none hV
  have k0 := h0
  have lt0 : ∀ x ∈ p0, x.block < W.heap.size := by obtain ⟨m, hm⟩ := k0; exact DataW.trod_lt m _ _ _ hm
  have k1 := h1
  have lt1 : ∀ x ∈ p1, x.block < W.heap.size := by obtain ⟨m, hm⟩ := k1; exact DataW.trod_lt m _ _ _ hm
  obtain ⟨x0, rfl, w0⟩ := open_Card (hval 0 24 v0 rfl rfl) h0
  obtain ⟨a1, l1, c1, z1, rfl, w1⟩ := open_introw (hval 1 35 v1 rfl rfl) h1
  clear hA0 hval0
  refine (walk W x0 w0 a1 l1 c1 z1 w1).mono fun e W' ⟨he, bel⟩ => ?_
  subst he
  exact ⟨_, rfl, _, _, _, [], _, [], hW', trodAll_mk1 (shut_bool Try.underlying4 _), (trodAll_cons_mk (Below.trod laidOut (by kernel_rfl) (of_decide_eq_true (by kernel_rfl)) k0 bel lt0) (trodAll_cons_mk (Below.trod laidOut (by kernel_rfl) (of_decide_eq_true (by kernel_rfl)) k1 bel lt1) trodAll_mk0)), rfl, bel.frame _, fun h => by cases h⟩

theorem over : Rows.fnExactFoldContrastRow.holds Try.pinned (OpenSpec.ofChange Rows.fnExactFoldContrastSpec) :=
  OpenClaim.holds_of_wide 7 Try.f7 rfl rfl rfl rfl rfl rfl rfl ⟨rfl, rfl, rfl, rfl, rfl⟩ rfl rfl rfl rfl rfl (by kernel_rfl) Try.func7 (by kernel_rfl)
    (of_decide_eq_true (by kernel_rfl)) (by unfold Func.isWrapper; first | (rw [if_pos (by decide +kernel)]; kernel_rfl) | (rw [if_neg (by decide +kernel)]; exact ⟨rfl, rfl⟩))
    (fun os started H enc _ => lifted os started H enc)

/-- The statement. -/
theorem proved : Rows.FnExactFoldContrastSaid :=
  over
#print axioms proved
end Go.Proofs.Ytlddbbdgmpeblaa.fnExactFoldContrast
