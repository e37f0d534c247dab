/-
  The Go function laws.FnExactTurnDisc returns true for every input and leaves its arguments as they were; no condition.
  By an AI agent.
-/
import Derived.Test.YteghmdfiofbmiaaRows
import Derived.WalkKit
import Derived.ProofKit
import Derived.OpenShut
import Derived.Carry
import Derived.ChangeOld
import Derived.Below
import Derived.Lib.SmallJoins
import Derived.Deep.Slices
import Derived.Deep.Fields
import Derived.Lib.Hide
import Derived.Test.YteghmdfiofbmiaaTurnI
import Derived.Test.YteghmdfiofbmiaaHold
import Derived.Deep.RegionHeld3
namespace Go.Proofs.Yteghmdfiofbmiaa.fnExactTurnDisc
open Go.Proofs.Yteghmdfiofbmiaa Go.ChangeShapes Go.WideShapes Go.ChangeAt Go.RowKit Go.Joins Go.Deep

set_option linter.unusedVariables false
set_option maxRecDepth 100000

theorem own : ownKnob Try.prog.godebug = none := by kernel_rfl
theorem laidOut : laidOutB Try.prog = true := by kernel_rfl



set_option maxHeartbeats 6400000 in
theorem walk (w : World) (x0 : DDisc) (w0 : x0.good w) (a1 : Int) (w1 : (Lit.int .i64 a1).wf = true) :
    Calls Try.prog 5 #[x0.val, .int .i64 a1] w fun e w' => e = .returned (.bool true) ∧ Below w.heap.size w w' := by
  obtain ⟨d, f, a, n, c, zs⟩ := x0
  obtain ⟨_, _, hl, hmx, _, hA⟩ := w0
  simp only [DDisc.val]
  simp only at hl hmx hA
  clear w1
  by_cases hm : n ≤ 1048576
  · have HA := Lib.hid hA
    have HL := Lib.hid hl
    clear hA hl
    go_enter Try.func5, Try.ntmps5
    have b1 := Below.box w (.cells #[Value.int .i64 d, Value.int .i64 f, Value.slice a n c] 24 (0, 0))
    have fP : Fresh w.heap.size (some ⟨w.heap.size, 0, none⟩) 3 := Fresh.of (Nat.le_refl _)
    have sP := SlR.box w (Value.int .i64 d) (Value.int .i64 f) (Value.slice a n c) 24
    have FP := Lib.hid (fP)
    have RP := Lib.hid sP
    clear fP sP
    have B1 := Lib.hid b1
    clear b1
    obtain ⟨xP0, xP1, xP2⟩ := RP.out.tri
    go_wp2_with fail
    refine (szDisc_ok d f a n c 1048576 _ (by omega) (by omega)).mono ?_
    rintro e w2 ⟨rfl, b2⟩
    replace RP := Lib.hid (RP.out.below b2)
    have B2 := Lib.hid (B1.out.trans (b2.mono B1.out.size))
    clear b2 B1
    clear xP0 xP1 xP2
    obtain ⟨xP0, xP1, xP2⟩ := RP.out.tri
    go_wp2_with fail
    refine (toDisc_any d f a n c zs _ hm (HA.out.below B2.out)).mono ?_
    rintro e w3 ⟨gA, rfl, hA, rA, b3⟩
    have fA := Fresh.of (N := n) hA
    have sA := SlR.of_row rA
    clear hA rA
    have apPA := Lib.hid (RP.out.apart fA)
    have FA := Lib.hid (fA.mono B2.out.size)
    replace RP := Lib.hid (RP.out.below b3)
    have RA := Lib.hid sA
    clear fA sA
    have B3 := Lib.hid (B2.out.trans (b3.mono B2.out.size))
    clear b3 B2
    clear xP0 xP1 xP2
    obtain ⟨xP0, xP1, xP2⟩ := RP.out.tri
    go_wp2_with fail
    refine (sTurnDisc_any d f a1 gA n _ zs _ HL.out hm RA.out).mono ?_
    rintro e w4 ⟨gW, cW, rfl, hW, rW, b4⟩
    have fW := Fresh.of (N := n) hW
    have sW := SlR.of_row rW
    clear hW rW
    have apPW := Lib.hid (RP.out.apart fW)
    have apAW := Lib.hid (RA.out.apart fW)
    have FW := Lib.hid (fW.mono B3.out.size)
    replace RP := Lib.hid (RP.out.below b4)
    replace RA := Lib.hid (RA.out.below b4)
    have RW := Lib.hid sW
    clear fW sW
    have B4 := Lib.hid (B3.out.trans (b4.mono B3.out.size))
    clear b4 B3
    clear xP0 xP1 xP2
    obtain ⟨xP0, xP1, xP2⟩ := RP.out.tri
    clear RA
    have b5 := Below.box w4 (.cells #[Value.int .i64 d, Value.int .i64 (turned d f a1 zs), Value.slice (some ⟨gW, 0, none⟩) n cW] 27 (0, 0))
    have fM : Fresh w4.heap.size (some ⟨w4.heap.size, 0, none⟩) 3 := Fresh.of (Nat.le_refl _)
    have sM := SlR.box w4 (Value.int .i64 d) (Value.int .i64 (turned d f a1 zs)) (Value.slice (some ⟨gW, 0, none⟩) n cW) 27
    have apPM := Lib.hid (RP.out.apart fM)
    have apWM := Lib.hid (RW.out.apart fM)
    have FM := Lib.hid (fM.mono B4.out.size)
    replace RP := Lib.hid (RP.out.below b5)
    replace RW := Lib.hid (RW.out.below b5)
    have RM := Lib.hid sM
    clear fM sM
    have B5 := Lib.hid (B4.out.trans (b5.mono B4.out.size))
    clear b5 B4
    clear xP0 xP1 xP2
    obtain ⟨xP0, xP1, xP2⟩ := RP.out.tri
    obtain ⟨xM0, xM1, xM2⟩ := RM.out.tri
    go_wp2_with fail
    refine (toDisc_any d f a n c zs _ hm (HA.out.below B5.out)).mono ?_
    rintro e w6 ⟨gX, rfl, hX, rX, b6⟩
    have fX := Fresh.of (N := n) hX
    have sX := SlR.of_row rX
    clear hX rX
    have apPX := Lib.hid (RP.out.apart fX)
    have apWX := Lib.hid (RW.out.apart fX)
    have apMX := Lib.hid (RM.out.apart fX)
    have FX := Lib.hid (fX.mono B5.out.size)
    replace RP := Lib.hid (RP.out.below b6)
    replace RW := Lib.hid (RW.out.below b6)
    replace RM := Lib.hid (RM.out.below b6)
    have RX := Lib.hid sX
    clear fX sX
    have B6 := Lib.hid (B5.out.trans (b6.mono B5.out.size))
    clear b6 B5
    clear xP0 xP1 xP2
    obtain ⟨xP0, xP1, xP2⟩ := RP.out.tri
    clear xM0 xM1 xM2
    obtain ⟨xM0, xM1, xM2⟩ := RM.out.tri
    have b7 := Below.box w6 (.cells #[Value.int .i64 d, Value.int .i64 f, Value.slice (some ⟨gX, 0, none⟩) n n] 27 (0, 0))
    have fQ : Fresh w6.heap.size (some ⟨w6.heap.size, 0, none⟩) 3 := Fresh.of (Nat.le_refl _)
    have sQ := SlR.box w6 (Value.int .i64 d) (Value.int .i64 f) (Value.slice (some ⟨gX, 0, none⟩) n n) 27
    have apPQ := Lib.hid (RP.out.apart fQ)
    have apWQ := Lib.hid (RW.out.apart fQ)
    have apMQ := Lib.hid (RM.out.apart fQ)
    have apXQ := Lib.hid (RX.out.apart fQ)
    have FQ := Lib.hid (fQ.mono B6.out.size)
    replace RP := Lib.hid (RP.out.below b7)
    replace RW := Lib.hid (RW.out.below b7)
    replace RM := Lib.hid (RM.out.below b7)
    replace RX := Lib.hid (RX.out.below b7)
    have RQ := Lib.hid sQ
    clear fQ sQ
    have B7 := Lib.hid (B6.out.trans (b7.mono B6.out.size))
    clear b7 B6
    clear xP0 xP1 xP2
    obtain ⟨xP0, xP1, xP2⟩ := RP.out.tri
    clear xM0 xM1 xM2
    obtain ⟨xM0, xM1, xM2⟩ := RM.out.tri
    obtain ⟨xQ0, xQ1, xQ2⟩ := RQ.out.tri
    go_wp2_with fail
    refine (iTurnDisc_any d f a1 gX n _ zs _ HL.out hm RX.out).mono ?_
    rintro e w8 ⟨gG, cG, rfl, hG, rG, b8⟩
    have fG := Fresh.of (N := n) hG
    have sG := SlR.of_row rG
    clear hG rG
    have apPG := Lib.hid (RP.out.apart fG)
    have apWG := Lib.hid (RW.out.apart fG)
    have apMG := Lib.hid (RM.out.apart fG)
    have apXG := Lib.hid (RX.out.apart fG)
    have apQG := Lib.hid (RQ.out.apart fG)
    have FG := Lib.hid (fG.mono B7.out.size)
    replace RP := Lib.hid (RP.out.below b8)
    replace RW := Lib.hid (RW.out.below b8)
    replace RM := Lib.hid (RM.out.below b8)
    replace RX := Lib.hid (RX.out.below b8)
    replace RQ := Lib.hid (RQ.out.below b8)
    have RG := Lib.hid sG
    clear fG sG
    have B8 := Lib.hid (B7.out.trans (b8.mono B7.out.size))
    clear b8 B7
    clear xP0 xP1 xP2
    obtain ⟨xP0, xP1, xP2⟩ := RP.out.tri
    clear xM0 xM1 xM2
    obtain ⟨xM0, xM1, xM2⟩ := RM.out.tri
    clear xQ0 xQ1 xQ2
    obtain ⟨xQ0, xQ1, xQ2⟩ := RQ.out.tri
    have b9 := Below.box w8 (.cells #[Value.int .i64 d, Value.int .i64 (turned d f a1 zs), Value.slice (some ⟨gG, 0, none⟩) n cG] 27 (0, 0))
    have fN : Fresh w8.heap.size (some ⟨w8.heap.size, 0, none⟩) 3 := Fresh.of (Nat.le_refl _)
    have sN := SlR.box w8 (Value.int .i64 d) (Value.int .i64 (turned d f a1 zs)) (Value.slice (some ⟨gG, 0, none⟩) n cG) 27
    have apPN := Lib.hid (RP.out.apart fN)
    have apWN := Lib.hid (RW.out.apart fN)
    have apMN := Lib.hid (RM.out.apart fN)
    have apXN := Lib.hid (RX.out.apart fN)
    have apQN := Lib.hid (RQ.out.apart fN)
    have apGN := Lib.hid (RG.out.apart fN)
    have FN := Lib.hid (fN.mono B8.out.size)
    replace RP := Lib.hid (RP.out.below b9)
    replace RW := Lib.hid (RW.out.below b9)
    replace RM := Lib.hid (RM.out.below b9)
    replace RX := Lib.hid (RX.out.below b9)
    replace RQ := Lib.hid (RQ.out.below b9)
    replace RG := Lib.hid (RG.out.below b9)
    have RN := Lib.hid sN
    clear fN sN
    have B9 := Lib.hid (B8.out.trans (b9.mono B8.out.size))
    clear b9 B8
    clear xP0 xP1 xP2
    obtain ⟨xP0, xP1, xP2⟩ := RP.out.tri
    clear xM0 xM1 xM2
    obtain ⟨xM0, xM1, xM2⟩ := RM.out.tri
    clear xQ0 xQ1 xQ2
    obtain ⟨xQ0, xQ1, xQ2⟩ := RQ.out.tri
    obtain ⟨xN0, xN1, xN2⟩ := RN.out.tri
    go_wp2_with fail
    refine (eqDisc_same d _ _ _ _ _ _ zs _ hm RG.out RW.out).mono ?_
    rintro e w10 ⟨rfl, b10⟩
    replace RP := Lib.hid (RP.out.below b10)
    replace RW := Lib.hid (RW.out.below b10)
    replace RM := Lib.hid (RM.out.below b10)
    replace RX := Lib.hid (RX.out.below b10)
    replace RQ := Lib.hid (RQ.out.below b10)
    replace RG := Lib.hid (RG.out.below b10)
    replace RN := Lib.hid (RN.out.below b10)
    have B10 := Lib.hid (B9.out.trans (b10.mono B9.out.size))
    clear b10 B9
    clear xP0 xP1 xP2
    obtain ⟨xP0, xP1, xP2⟩ := RP.out.tri
    clear xM0 xM1 xM2
    obtain ⟨xM0, xM1, xM2⟩ := RM.out.tri
    clear xQ0 xQ1 xQ2
    obtain ⟨xQ0, xQ1, xQ2⟩ := RQ.out.tri
    clear xN0 xN1 xN2
    obtain ⟨xN0, xN1, xN2⟩ := RN.out.tri
    go_wp2_with fail
    have hS := Lib.hid (SB2.mk RP.out RQ.out ((Below.refl _ w10).drew) : SB2 w10 w.heap.size (Value.int .i64 d) (Value.int .i64 f) (Value.slice a n c) w6.heap.size (Value.int .i64 d) (Value.int .i64 f) (Value.slice (some ⟨gX, 0, none⟩) n n) _)
    clear xP0 xP1 xP2
    clear xM0 xM1 xM2
    clear xQ0 xQ1 xQ2
    clear xN0 xN1 xN2
    go_region_held3 (fun w' => (w'.cell? ⟨w.heap.size, 0, none⟩ = some (Value.int .i64 d) ∧ w'.cell? ⟨w.heap.size, 1, none⟩ = some (Value.int .i64 f) ∧ w'.cell? ⟨w.heap.size, 2, none⟩ = some (Value.slice a n c) ∧ w'.cell? ⟨w6.heap.size, 0, none⟩ = some (Value.int .i64 d) ∧ w'.cell? ⟨w6.heap.size, 1, none⟩ = some (Value.int .i64 f) ∧ w'.cell? ⟨w6.heap.size, 2, none⟩ = some (Value.slice (some ⟨gX, 0, none⟩) n n)) ∧ Hid (Below w10.heap.size w10 w'))
      (first | exact hS.out | (go_keep; done))
      (first | (go_at_call 14; refine (toDisc_any d f a n c zs _ hm (HA.out.below (B10.out.trans ((show SB2 w10 w.heap.size (Value.int .i64 d) (Value.int .i64 f) (Value.slice a n c) w6.heap.size (Value.int .i64 d) (Value.int .i64 f) (Value.slice (some ⟨gX, 0, none⟩) n n) _ from by assumption).2.out.mono B10.out.size)))).mono ?_; rintro e wS11 ⟨gY, rfl, hY, rY, bS⟩; have hS := Lib.hid (SB2.next RP.out RQ.out (show SB2 w10 w.heap.size (Value.int .i64 d) (Value.int .i64 f) (Value.slice a n c) w6.heap.size (Value.int .i64 d) (Value.int .i64 f) (Value.slice (some ⟨gX, 0, none⟩) n n) _ from by assumption) bS); have RY := Lib.hid (SlR.of_row rY); clear hY rY; clear bS) | (go_at_call 16; refine (eqDisc_same d f _ _ _ _ _ zs _ hm (RX.out.below (show SB2 w10 w.heap.size (Value.int .i64 d) (Value.int .i64 f) (Value.slice a n c) w6.heap.size (Value.int .i64 d) (Value.int .i64 f) (Value.slice (some ⟨gX, 0, none⟩) n n) _ from by assumption).2.out) RY.out).mono ?_; rintro e wS11 ⟨rfl, bS⟩; have hS := Lib.hid (SB2.next RP.out RQ.out (show SB2 w10 w.heap.size (Value.int .i64 d) (Value.int .i64 f) (Value.slice a n c) w6.heap.size (Value.int .i64 d) (Value.int .i64 f) (Value.slice (some ⟨gX, 0, none⟩) n n) _ from by assumption) bS); have RY := Lib.hid (RY.out.below bS); clear bS))
    have b11 := hS.out.2.out
    clear hS
    replace RP := Lib.hid (RP.out.below b11)
    replace RW := Lib.hid (RW.out.below b11)
    replace RM := Lib.hid (RM.out.below b11)
    replace RX := Lib.hid (RX.out.below b11)
    replace RQ := Lib.hid (RQ.out.below b11)
    replace RG := Lib.hid (RG.out.below b11)
    replace RN := Lib.hid (RN.out.below b11)
    have B11 := Lib.hid (B10.out.trans (b11.mono B10.out.size))
    clear b11 B10
    obtain ⟨xP0, xP1, xP2⟩ := RP.out.tri
    obtain ⟨xM0, xM1, xM2⟩ := RM.out.tri
    obtain ⟨xQ0, xQ1, xQ2⟩ := RQ.out.tri
    obtain ⟨xN0, xN1, xN2⟩ := RN.out.tri
    go_wp2_with fail
    refine (markDisc_any d f _ _ _ 1 _ _ (by omega) (by omega) hm RX.out).mono ?_
    rintro e w12 ⟨rfl, m12, o12⟩
    replace RP := Lib.hid (o12.keep RP.out apPX.out)
    replace RW := Lib.hid (o12.keep RW.out apWX.out)
    replace RM := Lib.hid (o12.keep RM.out apMX.out)
    replace RQ := Lib.hid (o12.keep RQ.out apXQ.out.symm)
    replace RG := Lib.hid (o12.keep RG.out apXG.out.symm)
    replace RN := Lib.hid (o12.keep RN.out apXN.out.symm)
    replace RX := Lib.hid m12
    have b12 := o12.below FX.out B11.out.size
    clear m12 o12
    have B12 := Lib.hid (B11.out.trans b12)
    clear b12 B11
    clear xP0 xP1 xP2
    obtain ⟨xP0, xP1, xP2⟩ := RP.out.tri
    clear xM0 xM1 xM2
    obtain ⟨xM0, xM1, xM2⟩ := RM.out.tri
    clear xQ0 xQ1 xQ2
    obtain ⟨xQ0, xQ1, xQ2⟩ := RQ.out.tri
    clear xN0 xN1 xN2
    obtain ⟨xN0, xN1, xN2⟩ := RN.out.tri
    go_wp2_with fail
    refine (eqDisc_same d _ _ _ _ _ _ zs _ hm RG.out RW.out).mono ?_
    rintro e w13 ⟨rfl, b13⟩
    replace RP := Lib.hid (RP.out.below b13)
    replace RW := Lib.hid (RW.out.below b13)
    replace RM := Lib.hid (RM.out.below b13)
    replace RX := Lib.hid (RX.out.below b13)
    replace RQ := Lib.hid (RQ.out.below b13)
    replace RG := Lib.hid (RG.out.below b13)
    replace RN := Lib.hid (RN.out.below b13)
    have B13 := Lib.hid (B12.out.trans (b13.mono B12.out.size))
    clear b13 B12
    clear xP0 xP1 xP2
    obtain ⟨xP0, xP1, xP2⟩ := RP.out.tri
    clear xM0 xM1 xM2
    obtain ⟨xM0, xM1, xM2⟩ := RM.out.tri
    clear xQ0 xQ1 xQ2
    obtain ⟨xQ0, xQ1, xQ2⟩ := RQ.out.tri
    clear xN0 xN1 xN2
    obtain ⟨xN0, xN1, xN2⟩ := RN.out.tri
    go_wp2_with fail
    refine (markDisc_any d _ _ _ _ 1 _ _ (by omega) (by omega) hm RG.out).mono ?_
    rintro e w14 ⟨rfl, m14, o14⟩
    replace RP := Lib.hid (o14.keep RP.out apPG.out)
    replace RW := Lib.hid (o14.keep RW.out apWG.out)
    replace RM := Lib.hid (o14.keep RM.out apMG.out)
    replace RX := Lib.hid (o14.keep RX.out apXG.out)
    replace RQ := Lib.hid (o14.keep RQ.out apQG.out)
    replace RN := Lib.hid (o14.keep RN.out apGN.out.symm)
    replace RG := Lib.hid m14
    have b14 := o14.below FG.out B13.out.size
    clear m14 o14
    have B14 := Lib.hid (B13.out.trans b14)
    clear b14 B13
    clear xP0 xP1 xP2
    obtain ⟨xP0, xP1, xP2⟩ := RP.out.tri
    clear xM0 xM1 xM2
    obtain ⟨xM0, xM1, xM2⟩ := RM.out.tri
    clear xQ0 xQ1 xQ2
    obtain ⟨xQ0, xQ1, xQ2⟩ := RQ.out.tri
    clear xN0 xN1 xN2
    obtain ⟨xN0, xN1, xN2⟩ := RN.out.tri
    go_wp2_with fail
    refine (heldDisc_any d _ _ _ _ 1 _ (by omega) (by omega) hm RG.out).mono ?_
    rintro e w15 ⟨rfl, b15⟩
    replace RP := Lib.hid (RP.out.below b15)
    replace RW := Lib.hid (RW.out.below b15)
    replace RM := Lib.hid (RM.out.below b15)
    replace RX := Lib.hid (RX.out.below b15)
    replace RQ := Lib.hid (RQ.out.below b15)
    replace RG := Lib.hid (RG.out.below b15)
    replace RN := Lib.hid (RN.out.below b15)
    have B15 := Lib.hid (B14.out.trans (b15.mono B14.out.size))
    clear b15 B14
    clear xP0 xP1 xP2
    obtain ⟨xP0, xP1, xP2⟩ := RP.out.tri
    clear xM0 xM1 xM2
    obtain ⟨xM0, xM1, xM2⟩ := RM.out.tri
    clear xQ0 xQ1 xQ2
    obtain ⟨xQ0, xQ1, xQ2⟩ := RQ.out.tri
    clear xN0 xN1 xN2
    obtain ⟨xN0, xN1, xN2⟩ := RN.out.tri
    go_wp2_with fail
    refine (toDisc_any d f a n c zs _ hm (HA.out.below B15.out)).mono ?_
    rintro e w16 ⟨gZ, rfl, hZ, rZ, b16⟩
    have fZ := Fresh.of (N := n) hZ
    have sZ := SlR.of_row rZ
    clear hZ rZ
    have apPZ := Lib.hid (RP.out.apart fZ)
    have apWZ := Lib.hid (RW.out.apart fZ)
    have apMZ := Lib.hid (RM.out.apart fZ)
    have apXZ := Lib.hid (RX.out.apart fZ)
    have apQZ := Lib.hid (RQ.out.apart fZ)
    have apGZ := Lib.hid (RG.out.apart fZ)
    have apNZ := Lib.hid (RN.out.apart fZ)
    have FZ := Lib.hid (fZ.mono B15.out.size)
    replace RP := Lib.hid (RP.out.below b16)
    replace RW := Lib.hid (RW.out.below b16)
    replace RM := Lib.hid (RM.out.below b16)
    replace RX := Lib.hid (RX.out.below b16)
    replace RQ := Lib.hid (RQ.out.below b16)
    replace RG := Lib.hid (RG.out.below b16)
    replace RN := Lib.hid (RN.out.below b16)
    have RZ := Lib.hid sZ
    clear fZ sZ
    have B16 := Lib.hid (B15.out.trans (b16.mono B15.out.size))
    clear b16 B15
    clear xP0 xP1 xP2
    obtain ⟨xP0, xP1, xP2⟩ := RP.out.tri
    clear xM0 xM1 xM2
    obtain ⟨xM0, xM1, xM2⟩ := RM.out.tri
    clear xQ0 xQ1 xQ2
    obtain ⟨xQ0, xQ1, xQ2⟩ := RQ.out.tri
    clear xN0 xN1 xN2
    obtain ⟨xN0, xN1, xN2⟩ := RN.out.tri
    go_wp2_with fail
    refine (iTurnDisc_any d f a1 gZ n _ zs _ HL.out hm RZ.out).mono ?_
    rintro e w17 ⟨gK, cK, rfl, hK, rK, b17⟩
    have fK := Fresh.of (N := n) hK
    have sK := SlR.of_row rK
    clear hK rK
    have apPK := Lib.hid (RP.out.apart fK)
    have apWK := Lib.hid (RW.out.apart fK)
    have apMK := Lib.hid (RM.out.apart fK)
    have apXK := Lib.hid (RX.out.apart fK)
    have apQK := Lib.hid (RQ.out.apart fK)
    have apGK := Lib.hid (RG.out.apart fK)
    have apNK := Lib.hid (RN.out.apart fK)
    have apZK := Lib.hid (RZ.out.apart fK)
    have FK := Lib.hid (fK.mono B16.out.size)
    replace RP := Lib.hid (RP.out.below b17)
    replace RW := Lib.hid (RW.out.below b17)
    replace RM := Lib.hid (RM.out.below b17)
    replace RX := Lib.hid (RX.out.below b17)
    replace RQ := Lib.hid (RQ.out.below b17)
    replace RG := Lib.hid (RG.out.below b17)
    replace RN := Lib.hid (RN.out.below b17)
    replace RZ := Lib.hid (RZ.out.below b17)
    have RK := Lib.hid sK
    clear fK sK
    have B17 := Lib.hid (B16.out.trans (b17.mono B16.out.size))
    clear b17 B16
    clear xP0 xP1 xP2
    obtain ⟨xP0, xP1, xP2⟩ := RP.out.tri
    clear xM0 xM1 xM2
    obtain ⟨xM0, xM1, xM2⟩ := RM.out.tri
    clear xQ0 xQ1 xQ2
    obtain ⟨xQ0, xQ1, xQ2⟩ := RQ.out.tri
    clear xN0 xN1 xN2
    obtain ⟨xN0, xN1, xN2⟩ := RN.out.tri
    have b18 := Below.box w17 (.cells #[Value.int .i64 d, Value.int .i64 (turned d f a1 zs), Value.slice (some ⟨gK, 0, none⟩) n cK] 27 (0, 0))
    have fO : Fresh w17.heap.size (some ⟨w17.heap.size, 0, none⟩) 3 := Fresh.of (Nat.le_refl _)
    have sO := SlR.box w17 (Value.int .i64 d) (Value.int .i64 (turned d f a1 zs)) (Value.slice (some ⟨gK, 0, none⟩) n cK) 27
    have apPO := Lib.hid (RP.out.apart fO)
    have apWO := Lib.hid (RW.out.apart fO)
    have apMO := Lib.hid (RM.out.apart fO)
    have apXO := Lib.hid (RX.out.apart fO)
    have apQO := Lib.hid (RQ.out.apart fO)
    have apGO := Lib.hid (RG.out.apart fO)
    have apNO := Lib.hid (RN.out.apart fO)
    have apZO := Lib.hid (RZ.out.apart fO)
    have apKO := Lib.hid (RK.out.apart fO)
    have FO := Lib.hid (fO.mono B17.out.size)
    replace RP := Lib.hid (RP.out.below b18)
    replace RW := Lib.hid (RW.out.below b18)
    replace RM := Lib.hid (RM.out.below b18)
    replace RX := Lib.hid (RX.out.below b18)
    replace RQ := Lib.hid (RQ.out.below b18)
    replace RG := Lib.hid (RG.out.below b18)
    replace RN := Lib.hid (RN.out.below b18)
    replace RZ := Lib.hid (RZ.out.below b18)
    replace RK := Lib.hid (RK.out.below b18)
    have RO := Lib.hid sO
    clear fO sO
    have B18 := Lib.hid (B17.out.trans (b18.mono B17.out.size))
    clear b18 B17
    clear xP0 xP1 xP2
    obtain ⟨xP0, xP1, xP2⟩ := RP.out.tri
    clear xM0 xM1 xM2
    obtain ⟨xM0, xM1, xM2⟩ := RM.out.tri
    clear xQ0 xQ1 xQ2
    obtain ⟨xQ0, xQ1, xQ2⟩ := RQ.out.tri
    clear xN0 xN1 xN2
    obtain ⟨xN0, xN1, xN2⟩ := RN.out.tri
    obtain ⟨xO0, xO1, xO2⟩ := RO.out.tri
    go_wp2_with fail
    refine (eqDisc_same d _ _ _ _ _ _ zs _ hm RK.out RW.out).mono ?_
    rintro e w19 ⟨rfl, b19⟩
    replace RP := Lib.hid (RP.out.below b19)
    replace RW := Lib.hid (RW.out.below b19)
    replace RM := Lib.hid (RM.out.below b19)
    replace RX := Lib.hid (RX.out.below b19)
    replace RQ := Lib.hid (RQ.out.below b19)
    replace RG := Lib.hid (RG.out.below b19)
    replace RN := Lib.hid (RN.out.below b19)
    replace RZ := Lib.hid (RZ.out.below b19)
    replace RK := Lib.hid (RK.out.below b19)
    replace RO := Lib.hid (RO.out.below b19)
    have B19 := Lib.hid (B18.out.trans (b19.mono B18.out.size))
    clear b19 B18
    clear xP0 xP1 xP2
    obtain ⟨xP0, xP1, xP2⟩ := RP.out.tri
    clear xM0 xM1 xM2
    obtain ⟨xM0, xM1, xM2⟩ := RM.out.tri
    clear xQ0 xQ1 xQ2
    obtain ⟨xQ0, xQ1, xQ2⟩ := RQ.out.tri
    clear xN0 xN1 xN2
    obtain ⟨xN0, xN1, xN2⟩ := RN.out.tri
    clear xO0 xO1 xO2
    obtain ⟨xO0, xO1, xO2⟩ := RO.out.tri
    go_wp2_with fail
    refine (heldDisc_any d _ _ _ _ 1 _ (by omega) (by omega) hm RG.out).mono ?_
    rintro e w20 ⟨rfl, b20⟩
    replace RP := Lib.hid (RP.out.below b20)
    replace RW := Lib.hid (RW.out.below b20)
    replace RM := Lib.hid (RM.out.below b20)
    replace RX := Lib.hid (RX.out.below b20)
    replace RQ := Lib.hid (RQ.out.below b20)
    replace RG := Lib.hid (RG.out.below b20)
    replace RN := Lib.hid (RN.out.below b20)
    replace RZ := Lib.hid (RZ.out.below b20)
    replace RK := Lib.hid (RK.out.below b20)
    replace RO := Lib.hid (RO.out.below b20)
    have B20 := Lib.hid (B19.out.trans (b20.mono B19.out.size))
    clear b20 B19
    clear xP0 xP1 xP2
    obtain ⟨xP0, xP1, xP2⟩ := RP.out.tri
    clear xM0 xM1 xM2
    obtain ⟨xM0, xM1, xM2⟩ := RM.out.tri
    clear xQ0 xQ1 xQ2
    obtain ⟨xQ0, xQ1, xQ2⟩ := RQ.out.tri
    clear xN0 xN1 xN2
    obtain ⟨xN0, xN1, xN2⟩ := RN.out.tri
    clear xO0 xO1 xO2
    obtain ⟨xO0, xO1, xO2⟩ := RO.out.tri
    go_wp2_with fail
    go_ret
    exact ⟨rfl, B20.out⟩
  · have HB0 := Lib.hid (Below.box w (.cells #[.int .i64 d, .int .i64 f, .slice a n c] 24 (0, 0)))
    go_enter Try.func5, Try.ntmps5
    go_wp2_with fail
    refine (szDisc_big d f a n c 1048576 _ (by omega) (by omega) hmx (by omega)).mono ?_
    rintro e w1 ⟨rfl, b1⟩
    go_wp2_with fail
    go_ret
    exact ⟨rfl, HB0.out.trans (b1.mono HB0.out.size)⟩

set_option maxRecDepth 100000 in
theorem lifted (os : Os) (started : os.Started) (H : Type) (enc : TypeId × Value → H) :
    ReturnsInHanded {} Try.checked os 5 .any (Rows.fnExactTurnDiscSpec.pre6 enc Try.prog Try.f5 Rows.fnExactTurnDiscRow.domain false) (Rows.fnExactTurnDiscSpec.post enc Try.prog Try.f5 false true false false) := by
  refine returnsInHanded_of_change (C := Try.checked) own started (by kernel_rfl) Try.func5
    (ChangeSpec.witness6 (enc := enc) (C := Try.checked) false ⟨#[], #[.agg #[.int .i64 0, .int .i64 0, .slice none 0 0], .int .i64 0], []⟩ 8 (by kernel_rfl) (by kernel_rfl) (by kernel_rfl) (by kernel_rfl)) ?_
  intro W base args ds gs before hval0 hW hcnd _
  have hval : ∀ (j : Nat) t v, Try.f5.params[j]? = some t → args[j]? = some v → Value.okWide Try.prog W .any base t v := hval0
  have hW' := hW
  obtain ⟨p, q, hA0, hV, rfl, hfz, hnd⟩ := hW
  have hA : DataW.TrodAll enc Try.prog W 0 (fun _ => true) true Try.f5.params.toList args.toList ds p := hA0
  rw [Try.params5] at hA hval
  obtain ⟨v0, vs0, d0, ds0, p0, q0, hargs, rfl, rfl, h0, r0⟩ := trodAll_cons hA
  obtain ⟨v1, vs1, d1, ds1, p1, q1, rfl, rfl, rfl, h1, r1⟩ := trodAll_cons r0
  obtain ⟨rfl, rfl, rfl⟩ := trodAll_nil r1
  obtain rfl : args = #[v0, v1] := by cases args; simp_all
  obtain ⟨rfl, rfl⟩ := trodVars_none hV
  have k0 := h0
  have lt0 : ∀ x ∈ p0, x.block < W.heap.size := by obtain ⟨m, hm⟩ := k0; exact DataW.trod_lt m _ _ _ hm
  have k1 := h1
  have lt1 : ∀ x ∈ p1, x.block < W.heap.size := by obtain ⟨m, hm⟩ := k1; exact DataW.trod_lt m _ _ _ hm
  obtain ⟨x0, rfl, w0⟩ := open_Disc (hval 0 24 v0 rfl rfl) h0
  obtain ⟨a1, rfl, rfl, rfl, w1⟩ := open_int Try.underlying3 (hval 1 3 v1 rfl rfl) h1
  clear hA0 hval0
  refine (walk W x0 w0 a1 w1).mono fun e W' ⟨he, bel⟩ => ?_
  subst he
  exact ⟨_, rfl, _, _, _, [], _, [], hW', trodAll_mk1 (shut_bool Try.underlying4 _), (trodAll_cons_mk (Below.trod laidOut (by kernel_rfl) (of_decide_eq_true (by kernel_rfl)) k0 bel lt0) (trodAll_cons_mk (Below.trod laidOut (by kernel_rfl) (of_decide_eq_true (by kernel_rfl)) k1 bel lt1) trodAll_mk0)), rfl, bel.frame _, fun h => by cases h⟩

theorem over : Rows.fnExactTurnDiscRow.holds Try.pinned (OpenSpec.ofChange Rows.fnExactTurnDiscSpec) :=
  OpenClaim.holds_of_wide 5 Try.f5 rfl rfl rfl rfl rfl rfl rfl ⟨rfl, rfl, rfl, rfl, rfl⟩ rfl rfl rfl rfl rfl (by kernel_rfl) Try.func5 (by kernel_rfl)
    (of_decide_eq_true (by kernel_rfl)) (by unfold Func.isWrapper; first | (rw [if_pos (by decide +kernel)]; kernel_rfl) | (rw [if_neg (by decide +kernel)]; exact ⟨rfl, rfl⟩))
    (fun os started H enc _ => lifted os started H enc)

/-- The statement. -/
theorem proved : Rows.FnExactTurnDiscSaid :=
  over
#print axioms proved
end Go.Proofs.Yteghmdfiofbmiaa.fnExactTurnDisc
