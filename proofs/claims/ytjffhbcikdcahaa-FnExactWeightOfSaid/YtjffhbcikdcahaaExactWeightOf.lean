/-
  The Go function laws.FnExactWeightOf returns true for every input and leaves its arguments as they were; no condition.
  By an AI agent.
-/
import Derived.Test.YtjffhbcikdcahaaRows
import Derived.WalkKit
import Derived.ProofKit
import Derived.OpenShut
import Derived.Carry
import Derived.ChangeOld
import Derived.Below
import Derived.Lib.SmallJoins
import Derived.Deep.Slices
import Derived.Deep.Fields
import Derived.Lib.Hide
import Derived.Test.YtjffhbcikdcahaaTile
import Derived.Test.YtjffhbcikdcahaaHeld
import Derived.Deep.RegionHeld3
namespace Go.Proofs.Ytjffhbcikdcahaa.fnExactWeightOf
open Go.Proofs.Ytjffhbcikdcahaa Go.ChangeShapes Go.WideShapes Go.ChangeAt Go.RowKit Go.Joins Go.Deep

set_option linter.unusedVariables false
set_option maxRecDepth 100000

theorem own : ownKnob Try.prog.godebug = none := by kernel_rfl
theorem laidOut : laidOutB Try.prog = true := by kernel_rfl



set_option maxHeartbeats 3200000 in
theorem walk (w : World) (x0 : DCard) (w0 : x0.good w) (x1 : DPaper) (w1 : x1.good w) :
    Calls Try.prog 9 #[x0.val, x1.val] w fun e w' => e = .returned (.bool true) ∧ Below w.heap.size w w' := by
  obtain ⟨k, g, s⟩ := x1
  simp only [DPaper.val]
  clear w1
  obtain ⟨d, f, a, n, c, ss⟩ := x0
  obtain ⟨_, _, hl, hmx, hsz, hA⟩ := w0
  simp only [DCard.val]
  simp only at hl hmx hsz hA
  by_cases hm : (n : Int) + tot ss n ≤ 1048576
  · have HA := Lib.hid hA
    have HL := Lib.hid hl
    have hn : n ≤ 1048576 := by omega
    clear hA hl hsz
    go_enter Try.func9, Try.ntmps9
    have b1 := Below.box w (.cells #[Value.int .i64 d, Value.int .i64 f, Value.slice a n c] 41 (0, 0))
    have fP : Fresh w.heap.size (some ⟨w.heap.size, 0, none⟩) 3 := Fresh.of (Nat.le_refl _)
    have sP := SlR.box w (Value.int .i64 d) (Value.int .i64 f) (Value.slice a n c) 41
    have FP := Lib.hid (fP)
    have RP := Lib.hid sP
    clear fP sP
    have B1 := Lib.hid b1
    clear b1
    obtain ⟨xP0, xP1, xP2⟩ := RP.out.tri
    have b2 := Below.box (w.alloc (.cells #[Value.int .i64 d, Value.int .i64 f, Value.slice a n c] 41 (0, 0))) (.cells #[Value.int .i64 k, Value.int .i64 g, Value.int .i64 s] 49 (0, 0))
    have fO : Fresh (w.alloc (.cells #[Value.int .i64 d, Value.int .i64 f, Value.slice a n c] 41 (0, 0))).heap.size (some ⟨(w.alloc (.cells #[Value.int .i64 d, Value.int .i64 f, Value.slice a n c] 41 (0, 0))).heap.size, 0, none⟩) 3 := Fresh.of (Nat.le_refl _)
    have sO := SlR.box (w.alloc (.cells #[Value.int .i64 d, Value.int .i64 f, Value.slice a n c] 41 (0, 0))) (Value.int .i64 k) (Value.int .i64 g) (Value.int .i64 s) 49
    have zO : (w.alloc (.cells #[Value.int .i64 d, Value.int .i64 f, Value.slice a n c] 41 (0, 0))).heap.size = w.heap.size + 1 := by simp
    have sO := (congrArg (fun b => SlR ((w.alloc (.cells #[Value.int .i64 d, Value.int .i64 f, Value.slice a n c] 41 (0, 0))).alloc (.cells #[Value.int .i64 k, Value.int .i64 g, Value.int .i64 s] 49 (0, 0))) (some ⟨b, 0, none⟩) 3 (tri (Value.int .i64 k) (Value.int .i64 g) (Value.int .i64 s))) zO).mp sO
    have fO := (congrArg (fun b => Fresh (w.alloc (.cells #[Value.int .i64 d, Value.int .i64 f, Value.slice a n c] 41 (0, 0))).heap.size (some ⟨b, 0, none⟩) 3) zO).mp fO
    clear zO
    have apPO := Lib.hid (RP.out.apart fO)
    have FO := Lib.hid (fO.mono B1.out.size)
    replace RP := Lib.hid (RP.out.below b2)
    have RO := Lib.hid sO
    clear fO sO
    have B2 := Lib.hid (B1.out.trans (b2.mono B1.out.size))
    clear b2 B1
    clear xP0 xP1 xP2
    obtain ⟨xP0, xP1, xP2⟩ := RP.out.tri
    obtain ⟨xO0, xO1, xO2⟩ := RO.out.tri
    go_wp2_with fail
    refine (szCard_ok d f a n c ss 1048576 _ (by omega) hm (HA.out.below B2.out)).mono ?_
    rintro e w3 ⟨rfl, b3⟩
    replace RP := Lib.hid (RP.out.below b3)
    replace RO := Lib.hid (RO.out.below b3)
    have B3 := Lib.hid (B2.out.trans (b3.mono B2.out.size))
    clear b3 B2
    clear xP0 xP1 xP2
    obtain ⟨xP0, xP1, xP2⟩ := RP.out.tri
    clear xO0 xO1 xO2
    obtain ⟨xO0, xO1, xO2⟩ := RO.out.tri
    go_wp2_with fail
    have hS := Lib.hid ((HS20.mk B3.out RP.out RO.out : HS20 w w.heap.size (Value.int .i64 d) (Value.int .i64 f) (Value.slice a n c) (w.heap.size + 1) (Value.int .i64 k) (Value.int .i64 g) (Value.int .i64 s)  _).next ((Below.refl _ _).drew))
    clear RP
    clear RO
    clear xP0 xP1 xP2
    clear xO0 xO1 xO2
    clear B3
    go_region_held3 (fun w' => (w'.cell? ⟨w.heap.size, 0, none⟩ = some (Value.int .i64 d) ∧ w'.cell? ⟨w.heap.size, 1, none⟩ = some (Value.int .i64 f) ∧ w'.cell? ⟨w.heap.size, 2, none⟩ = some (Value.slice a n c) ∧ w'.cell? ⟨(w.heap.size + 1), 0, none⟩ = some (Value.int .i64 k) ∧ w'.cell? ⟨(w.heap.size + 1), 1, none⟩ = some (Value.int .i64 g) ∧ w'.cell? ⟨(w.heap.size + 1), 2, none⟩ = some (Value.int .i64 s)) ∧ Hid (Below w.heap.size w w' ∧ SlR w' (some ⟨w.heap.size, 0, none⟩) 3 (tri (Value.int .i64 d) (Value.int .i64 f) (Value.slice a n c)) ∧ SlR w' (some ⟨(w.heap.size + 1), 0, none⟩) 3 (tri (Value.int .i64 k) (Value.int .i64 g) (Value.int .i64 s))))
      (first | exact hS.out | (go_keep; done))
      (first | (go_at_call 31; refine (toCard_any d f a n c ss _ hn (HA.out.below (show HS20 w w.heap.size (Value.int .i64 d) (Value.int .i64 f) (Value.slice a n c) (w.heap.size + 1) (Value.int .i64 k) (Value.int .i64 g) (Value.int .i64 s)  _ from by assumption).2.out.1)).mono ?_; rintro e wS ⟨gA, rfl, hA, rA, bS⟩; have hS := Lib.hid (HS20.next (show HS20 w w.heap.size (Value.int .i64 d) (Value.int .i64 f) (Value.slice a n c) (w.heap.size + 1) (Value.int .i64 k) (Value.int .i64 g) (Value.int .i64 s)  _ from by assumption) bS); have RA := Lib.hid (SlR.of_row rA); clear hA rA; clear bS) | (go_at_call 37; refine (toPaper_any k g s _).mono ?_; rintro e wS ⟨rfl, bS⟩; have hS := Lib.hid (HS20.next (show HS20 w w.heap.size (Value.int .i64 d) (Value.int .i64 f) (Value.slice a n c) (w.heap.size + 1) (Value.int .i64 k) (Value.int .i64 g) (Value.int .i64 s)  _ from by assumption) bS); have RA := Lib.hid (RA.out.below bS); clear bS) | (go_at_call 36; refine (sWeightOf_any d f _ n _ ss k g s _ HL.out hm RA.out).mono ?_; rintro e wS ⟨rfl, bS⟩; have hS := Lib.hid (HS20.next (show HS20 w w.heap.size (Value.int .i64 d) (Value.int .i64 f) (Value.slice a n c) (w.heap.size + 1) (Value.int .i64 k) (Value.int .i64 g) (Value.int .i64 s)  _ from by assumption) bS); have RA := Lib.hid (RA.out.below bS); clear bS))
    have B4 := Lib.hid (hS.out.2.out.1)
    have RP := Lib.hid (hS.out.2.out.2.1)
    have RO := Lib.hid (hS.out.2.out.2.2)
    clear hS
    obtain ⟨xP0, xP1, xP2⟩ := RP.out.tri
    obtain ⟨xO0, xO1, xO2⟩ := RO.out.tri
    go_wp2_with fail
    refine (toCard_any d f a n c ss _ hn (HA.out.below B4.out)).mono ?_
    rintro e w5 ⟨gX, rfl, hX, rX, b5⟩
    have fX := Fresh.of (N := n) hX
    have sX := SlR.of_row rX
    clear hX rX
    have apPX := Lib.hid (RP.out.apart fX)
    have apOX := Lib.hid (RO.out.apart fX)
    have FX := Lib.hid (fX.mono B4.out.size)
    replace RP := Lib.hid (RP.out.below b5)
    replace RO := Lib.hid (RO.out.below b5)
    have RX := Lib.hid sX
    clear fX sX
    have B5 := Lib.hid (B4.out.trans (b5.mono B4.out.size))
    clear b5 B4
    clear xP0 xP1 xP2
    obtain ⟨xP0, xP1, xP2⟩ := RP.out.tri
    clear xO0 xO1 xO2
    obtain ⟨xO0, xO1, xO2⟩ := RO.out.tri
    have b6 := Below.box w5 (.cells #[Value.int .i64 d, Value.int .i64 f, Value.slice (some ⟨gX, 0, none⟩) n n] 32 (0, 0))
    have fQ : Fresh w5.heap.size (some ⟨w5.heap.size, 0, none⟩) 3 := Fresh.of (Nat.le_refl _)
    have sQ := SlR.box w5 (Value.int .i64 d) (Value.int .i64 f) (Value.slice (some ⟨gX, 0, none⟩) n n) 32
    have apPQ := Lib.hid (RP.out.apart fQ)
    have apOQ := Lib.hid (RO.out.apart fQ)
    have apXQ := Lib.hid (RX.out.apart fQ)
    have FQ := Lib.hid (fQ.mono B5.out.size)
    replace RP := Lib.hid (RP.out.below b6)
    replace RO := Lib.hid (RO.out.below b6)
    replace RX := Lib.hid (RX.out.below b6)
    have RQ := Lib.hid sQ
    clear fQ sQ
    have B6 := Lib.hid (B5.out.trans (b6.mono B5.out.size))
    clear b6 B5
    clear xP0 xP1 xP2
    obtain ⟨xP0, xP1, xP2⟩ := RP.out.tri
    clear xO0 xO1 xO2
    obtain ⟨xO0, xO1, xO2⟩ := RO.out.tri
    obtain ⟨xQ0, xQ1, xQ2⟩ := RQ.out.tri
    go_wp2_with fail
    have hS := Lib.hid ((HS31.mk B6.out RP.out RO.out RQ.out RX.out : HS31 w w.heap.size (Value.int .i64 d) (Value.int .i64 f) (Value.slice a n c) (w.heap.size + 1) (Value.int .i64 k) (Value.int .i64 g) (Value.int .i64 s) w5.heap.size (Value.int .i64 d) (Value.int .i64 f) (Value.slice (some ⟨gX, 0, none⟩) n n) (some ⟨gX, 0, none⟩) n (sc ss) _).next ((Below.refl _ _).drew))
    clear RP
    clear RO
    clear RX
    clear RQ
    clear xP0 xP1 xP2
    clear xO0 xO1 xO2
    clear xQ0 xQ1 xQ2
    clear B6
    go_region_held3 (fun w' => (w'.cell? ⟨w.heap.size, 0, none⟩ = some (Value.int .i64 d) ∧ w'.cell? ⟨w.heap.size, 1, none⟩ = some (Value.int .i64 f) ∧ w'.cell? ⟨w.heap.size, 2, none⟩ = some (Value.slice a n c) ∧ w'.cell? ⟨(w.heap.size + 1), 0, none⟩ = some (Value.int .i64 k) ∧ w'.cell? ⟨(w.heap.size + 1), 1, none⟩ = some (Value.int .i64 g) ∧ w'.cell? ⟨(w.heap.size + 1), 2, none⟩ = some (Value.int .i64 s) ∧ w'.cell? ⟨w5.heap.size, 0, none⟩ = some (Value.int .i64 d) ∧ w'.cell? ⟨w5.heap.size, 1, none⟩ = some (Value.int .i64 f) ∧ w'.cell? ⟨w5.heap.size, 2, none⟩ = some (Value.slice (some ⟨gX, 0, none⟩) n n)) ∧ Hid (Below w.heap.size w w' ∧ SlR w' (some ⟨w.heap.size, 0, none⟩) 3 (tri (Value.int .i64 d) (Value.int .i64 f) (Value.slice a n c)) ∧ SlR w' (some ⟨(w.heap.size + 1), 0, none⟩) 3 (tri (Value.int .i64 k) (Value.int .i64 g) (Value.int .i64 s)) ∧ SlR w' (some ⟨w5.heap.size, 0, none⟩) 3 (tri (Value.int .i64 d) (Value.int .i64 f) (Value.slice (some ⟨gX, 0, none⟩) n n)) ∧ SlR w' (some ⟨gX, 0, none⟩) n (sc ss)))
      (first | exact hS.out | (go_keep; done))
      (first | (go_at_call 37; refine (toPaper_any k g s _).mono ?_; rintro e wS ⟨rfl, bS⟩; have hS := Lib.hid (HS31.next (show HS31 w w.heap.size (Value.int .i64 d) (Value.int .i64 f) (Value.slice a n c) (w.heap.size + 1) (Value.int .i64 k) (Value.int .i64 g) (Value.int .i64 s) w5.heap.size (Value.int .i64 d) (Value.int .i64 f) (Value.slice (some ⟨gX, 0, none⟩) n n) (some ⟨gX, 0, none⟩) n (sc ss) _ from by assumption) bS); clear bS) | (go_at_call 38; refine (iWeightOf_any d f _ n _ ss k g s _ HL.out hm (show HS31 w w.heap.size (Value.int .i64 d) (Value.int .i64 f) (Value.slice a n c) (w.heap.size + 1) (Value.int .i64 k) (Value.int .i64 g) (Value.int .i64 s) w5.heap.size (Value.int .i64 d) (Value.int .i64 f) (Value.slice (some ⟨gX, 0, none⟩) n n) (some ⟨gX, 0, none⟩) n (sc ss) _ from by assumption).2.out.2.2.2.2).mono ?_; rintro e wS ⟨rfl, bS⟩; have hS := Lib.hid (HS31.next (show HS31 w w.heap.size (Value.int .i64 d) (Value.int .i64 f) (Value.slice a n c) (w.heap.size + 1) (Value.int .i64 k) (Value.int .i64 g) (Value.int .i64 s) w5.heap.size (Value.int .i64 d) (Value.int .i64 f) (Value.slice (some ⟨gX, 0, none⟩) n n) (some ⟨gX, 0, none⟩) n (sc ss) _ from by assumption) bS); clear bS))
    have B7 := Lib.hid (hS.out.2.out.1)
    have RP := Lib.hid (hS.out.2.out.2.1)
    have RO := Lib.hid (hS.out.2.out.2.2.1)
    have RQ := Lib.hid (hS.out.2.out.2.2.2.1)
    have RX := Lib.hid (hS.out.2.out.2.2.2.2)
    clear hS
    obtain ⟨xP0, xP1, xP2⟩ := RP.out.tri
    obtain ⟨xO0, xO1, xO2⟩ := RO.out.tri
    obtain ⟨xQ0, xQ1, xQ2⟩ := RQ.out.tri
    go_wp2_with fail
    have hS := Lib.hid ((HS31.mk B7.out RP.out RO.out RQ.out RX.out : HS31 w w.heap.size (Value.int .i64 d) (Value.int .i64 f) (Value.slice a n c) (w.heap.size + 1) (Value.int .i64 k) (Value.int .i64 g) (Value.int .i64 s) w5.heap.size (Value.int .i64 d) (Value.int .i64 f) (Value.slice (some ⟨gX, 0, none⟩) n n) (some ⟨gX, 0, none⟩) n (sc ss) _).next ((Below.refl _ _).drew))
    clear RP
    clear RO
    clear RQ
    clear RX
    clear xP0 xP1 xP2
    clear xO0 xO1 xO2
    clear xQ0 xQ1 xQ2
    clear B7
    go_region_held3 (fun w' => (w'.cell? ⟨w.heap.size, 0, none⟩ = some (Value.int .i64 d) ∧ w'.cell? ⟨w.heap.size, 1, none⟩ = some (Value.int .i64 f) ∧ w'.cell? ⟨w.heap.size, 2, none⟩ = some (Value.slice a n c) ∧ w'.cell? ⟨(w.heap.size + 1), 0, none⟩ = some (Value.int .i64 k) ∧ w'.cell? ⟨(w.heap.size + 1), 1, none⟩ = some (Value.int .i64 g) ∧ w'.cell? ⟨(w.heap.size + 1), 2, none⟩ = some (Value.int .i64 s) ∧ w'.cell? ⟨w5.heap.size, 0, none⟩ = some (Value.int .i64 d) ∧ w'.cell? ⟨w5.heap.size, 1, none⟩ = some (Value.int .i64 f) ∧ w'.cell? ⟨w5.heap.size, 2, none⟩ = some (Value.slice (some ⟨gX, 0, none⟩) n n)) ∧ Hid (Below w.heap.size w w' ∧ SlR w' (some ⟨w.heap.size, 0, none⟩) 3 (tri (Value.int .i64 d) (Value.int .i64 f) (Value.slice a n c)) ∧ SlR w' (some ⟨(w.heap.size + 1), 0, none⟩) 3 (tri (Value.int .i64 k) (Value.int .i64 g) (Value.int .i64 s)) ∧ SlR w' (some ⟨w5.heap.size, 0, none⟩) 3 (tri (Value.int .i64 d) (Value.int .i64 f) (Value.slice (some ⟨gX, 0, none⟩) n n)) ∧ SlR w' (some ⟨gX, 0, none⟩) n (sc ss)))
      (first | exact hS.out | (go_keep; done))
      (first | (go_at_call 31; refine (toCard_any d f a n c ss _ hn (HA.out.below (show HS31 w w.heap.size (Value.int .i64 d) (Value.int .i64 f) (Value.slice a n c) (w.heap.size + 1) (Value.int .i64 k) (Value.int .i64 g) (Value.int .i64 s) w5.heap.size (Value.int .i64 d) (Value.int .i64 f) (Value.slice (some ⟨gX, 0, none⟩) n n) (some ⟨gX, 0, none⟩) n (sc ss) _ from by assumption).2.out.1)).mono ?_; rintro e wS ⟨gY, rfl, hY, rY, bS⟩; have hS := Lib.hid (HS31.next (show HS31 w w.heap.size (Value.int .i64 d) (Value.int .i64 f) (Value.slice a n c) (w.heap.size + 1) (Value.int .i64 k) (Value.int .i64 g) (Value.int .i64 s) w5.heap.size (Value.int .i64 d) (Value.int .i64 f) (Value.slice (some ⟨gX, 0, none⟩) n n) (some ⟨gX, 0, none⟩) n (sc ss) _ from by assumption) bS); have RY := Lib.hid (SlR.of_row rY); clear hY rY; clear bS) | (go_at_call 32; refine (eqCard_same d f _ _ _ _ _ ss _ hn ((show HS31 w w.heap.size (Value.int .i64 d) (Value.int .i64 f) (Value.slice a n c) (w.heap.size + 1) (Value.int .i64 k) (Value.int .i64 g) (Value.int .i64 s) w5.heap.size (Value.int .i64 d) (Value.int .i64 f) (Value.slice (some ⟨gX, 0, none⟩) n n) (some ⟨gX, 0, none⟩) n (sc ss) _ from by assumption).2.out.2.2.2.2) RY.out).mono ?_; rintro e wS ⟨rfl, bS⟩; have hS := Lib.hid (HS31.next (show HS31 w w.heap.size (Value.int .i64 d) (Value.int .i64 f) (Value.slice a n c) (w.heap.size + 1) (Value.int .i64 k) (Value.int .i64 g) (Value.int .i64 s) w5.heap.size (Value.int .i64 d) (Value.int .i64 f) (Value.slice (some ⟨gX, 0, none⟩) n n) (some ⟨gX, 0, none⟩) n (sc ss) _ from by assumption) bS); have RY := Lib.hid (RY.out.below bS); clear bS))
    have B8 := Lib.hid (hS.out.2.out.1)
    have RP := Lib.hid (hS.out.2.out.2.1)
    have RO := Lib.hid (hS.out.2.out.2.2.1)
    have RQ := Lib.hid (hS.out.2.out.2.2.2.1)
    have RX := Lib.hid (hS.out.2.out.2.2.2.2)
    clear hS
    obtain ⟨xP0, xP1, xP2⟩ := RP.out.tri
    obtain ⟨xO0, xO1, xO2⟩ := RO.out.tri
    obtain ⟨xQ0, xQ1, xQ2⟩ := RQ.out.tri
    go_wp2_with fail
    go_ret
    exact ⟨rfl, B8.out⟩
  · have HB1 := Below.box w (.cells #[.int .i64 d, .int .i64 f, .slice a n c] 41 (0, 0))
    have HB0 := Lib.hid (HB1.trans ((Below.box (w.alloc (.cells #[.int .i64 d, .int .i64 f, .slice a n c] 41 (0, 0))) (.cells #[.int .i64 k, .int .i64 g, .int .i64 s] 49 (0, 0))).mono HB1.size))
    clear HB1
    have HA := Lib.hid (hA.below HB0.out)
    have HS := Lib.hid hsz
    clear hA hsz
    go_enter Try.func9, Try.ntmps9
    go_wp2_with fail
    refine (szCard_big d f a n c ss 1048576 _ (by omega) (by omega) hmx HS.out (by omega) HA.out).mono ?_
    rintro e w1 ⟨rfl, b1⟩
    go_wp2_with fail
    go_ret
    exact ⟨rfl, HB0.out.trans (b1.mono HB0.out.size)⟩

set_option maxRecDepth 100000 in
theorem lifted (os : Os) (started : os.Started) (H : Type) (enc : TypeId × Value → H) :
    ReturnsInHanded {} Try.checked os 9 .any (Rows.fnExactWeightOfSpec.pre6 enc Try.prog Try.f9 Rows.fnExactWeightOfRow.domain false) (Rows.fnExactWeightOfSpec.post enc Try.prog Try.f9 false true false false) := by
  refine returnsInHanded_of_change (C := Try.checked) own started (by kernel_rfl) Try.func9
    (ChangeSpec.witness6 (enc := enc) (C := Try.checked) false ⟨#[], #[.agg #[.int .i64 0, .int .i64 0, .slice none 0 0], .agg #[.int .i64 0, .int .i64 0, .int .i64 0]], []⟩ 8 (by kernel_rfl) (by kernel_rfl) (by kernel_rfl) (by kernel_rfl)) ?_
  intro W base args ds gs before hval0 hW hcnd _
  have hval : ∀ (j : Nat) t v, Try.f9.params[j]? = some t → args[j]? = some v → Value.okWide Try.prog W .any base t v := hval0
  have hW' := hW
  obtain ⟨p, q, hA0, hV, rfl, hfz, hnd⟩ := hW
  have hA : DataW.TrodAll enc Try.prog W 0 (fun _ => true) true Try.f9.params.toList args.toList ds p := hA0
  rw [Try.params9] at hA hval
  obtain ⟨v0, vs0, d0, ds0, p0, q0, hargs, rfl, rfl, h0, r0⟩ := trodAll_cons hA
  obtain ⟨v1, vs1, d1, ds1, p1, q1, rfl, rfl, rfl, h1, r1⟩ := trodAll_cons r0
  obtain ⟨rfl, rfl, rfl⟩ := trodAll_nil r1
  obtain rfl : args = #[v0, v1] := by cases args; simp_all
  obtain ⟨rfl, rfl⟩ := trodVars_none hV
  have k0 := h0
  have lt0 : ∀ x ∈ p0, x.block < W.heap.size := by obtain ⟨m, hm⟩ := k0; exact DataW.trod_lt m _ _ _ hm
  have k1 := h1
  have lt1 : ∀ x ∈ p1, x.block < W.heap.size := by obtain ⟨m, hm⟩ := k1; exact DataW.trod_lt m _ _ _ hm
  obtain ⟨x0, rfl, w0⟩ := open_Card (hval 0 41 v0 rfl rfl) h0
  obtain ⟨x1, rfl, w1⟩ := open_Paper (hval 1 49 v1 rfl rfl) h1
  clear hA0 hval0
  refine (walk W x0 w0 x1 w1).mono fun e W' ⟨he, bel⟩ => ?_
  subst he
  exact ⟨_, rfl, _, _, _, [], _, [], hW', trodAll_mk1 (shut_bool Try.underlying4 _), (trodAll_cons_mk (Below.trod laidOut (by kernel_rfl) (of_decide_eq_true (by kernel_rfl)) k0 bel lt0) (trodAll_cons_mk (Below.trod laidOut (by kernel_rfl) (of_decide_eq_true (by kernel_rfl)) k1 bel lt1) trodAll_mk0)), rfl, bel.frame _, fun h => by cases h⟩

theorem over : Rows.fnExactWeightOfRow.holds Try.pinned (OpenSpec.ofChange Rows.fnExactWeightOfSpec) :=
  OpenClaim.holds_of_wide 9 Try.f9 rfl rfl rfl rfl rfl rfl rfl ⟨rfl, rfl, rfl, rfl, rfl⟩ rfl rfl rfl rfl rfl (by kernel_rfl) Try.func9 (by kernel_rfl)
    (of_decide_eq_true (by kernel_rfl)) (by unfold Func.isWrapper; first | (rw [if_pos (by decide +kernel)]; kernel_rfl) | (rw [if_neg (by decide +kernel)]; exact ⟨rfl, rfl⟩))
    (fun os started H enc _ => lifted os started H enc)

/-- The statement. -/
theorem proved : Rows.FnExactWeightOfSaid :=
  over
#print axioms proved
end Go.Proofs.Ytjffhbcikdcahaa.fnExactWeightOf
