/-
  The Go function laws.FnExactLifeOf returns true for every input and leaves its arguments as they were; no condition.
  By an AI agent.
-/
import Derived.Test.YteghmdfiofbmiaaRows
import Derived.WalkKit
import Derived.ProofKit
import Derived.OpenShut
import Derived.Carry
import Derived.ChangeOld
import Derived.Below
import Derived.Lib.SmallJoins
import Derived.Deep.Slices
import Derived.Deep.Fields
import Derived.Lib.Hide
import Derived.Test.YteghmdfiofbmiaaLife
import Derived.Test.YteghmdfiofbmiaaHeldC
import Derived.Deep.RegionHeld3
namespace Go.Proofs.Yteghmdfiofbmiaa.fnExactLifeOf
open Go.Proofs.Yteghmdfiofbmiaa Go.ChangeShapes Go.WideShapes Go.ChangeAt Go.RowKit Go.Joins Go.Deep

set_option linter.unusedVariables false
set_option maxRecDepth 100000

theorem own : ownKnob Try.prog.godebug = none := by kernel_rfl
theorem laidOut : laidOutB Try.prog = true := by kernel_rfl



set_option maxHeartbeats 3200000 in
theorem walk (w : World) (x0 : DCopy) (w0 : x0.good w) :
    Calls Try.prog 10 #[x0.val] w fun e w' => e = .returned (.bool true) ∧ Below w.heap.size w w' := by
  obtain ⟨d, f, a, n, c, ss, k, g, s, o⟩ := x0
  obtain ⟨hl, hmx, hsz, hA⟩ := w0
  simp only [DCopy.val]
  simp only at hl hmx hsz hA
  by_cases hm : (n : Int) + tot ss n ≤ 1048576
  · have HA := Lib.hid hA
    have HL := Lib.hid hl
    have hn : n ≤ 1048576 := by omega
    clear hA hl hsz
    go_enter Try.func10, Try.ntmps10
    have b1 := Below.box w (.cells #[Value.int .i64 d, Value.int .i64 f, Value.slice a n c, Value.int .i64 k, Value.int .i64 g, Value.int .i64 s, Value.int .i64 o] 69 (0, 0))
    have fP : Fresh w.heap.size (some ⟨w.heap.size, 0, none⟩) 7 := Fresh.of (Nat.le_refl _)
    have sP := SlR.box7 w (Value.int .i64 d) (Value.int .i64 f) (Value.slice a n c) (Value.int .i64 k) (Value.int .i64 g) (Value.int .i64 s) (Value.int .i64 o) 69
    have FP := Lib.hid (fP)
    have RP := Lib.hid sP
    clear fP sP
    have B1 := Lib.hid b1
    clear b1
    obtain ⟨xP0, xP1, xP2, xP3, xP4, xP5, xP6⟩ := RP.out.sept
    go_wp2_with fail
    refine (szCopy_ok d f a n c ss k g s o _ 1048576 (by omega) hm (HA.out.below B1.out)).mono ?_
    rintro e w2 ⟨rfl, b2⟩
    replace RP := Lib.hid (RP.out.below b2)
    have B2 := Lib.hid (B1.out.trans (b2.mono B1.out.size))
    clear b2 B1
    clear xP0 xP1 xP2 xP3 xP4 xP5 xP6
    obtain ⟨xP0, xP1, xP2, xP3, xP4, xP5, xP6⟩ := RP.out.sept
    go_wp2_with fail
    refine (toCopy_any d f a n c ss k g s o _ hn (HA.out.below B2.out)).mono ?_
    rintro e w3 ⟨gA, rfl, hA, rA, b3⟩
    have fA := Fresh.of (N := n) hA
    have sA := SlR.of_row rA
    clear hA rA
    have apPA := Lib.hid (RP.out.apart fA)
    have FA := Lib.hid (fA.mono B2.out.size)
    replace RP := Lib.hid (RP.out.below b3)
    have RA := Lib.hid sA
    clear fA sA
    have B3 := Lib.hid (B2.out.trans (b3.mono B2.out.size))
    clear b3 B2
    clear xP0 xP1 xP2 xP3 xP4 xP5 xP6
    obtain ⟨xP0, xP1, xP2, xP3, xP4, xP5, xP6⟩ := RP.out.sept
    go_wp2_with fail
    refine (sLifeOf_any d f _ n _ ss k g s o _ HL.out hm RA.out).mono ?_
    rintro e w4 ⟨rfl, b4⟩
    replace RP := Lib.hid (RP.out.below b4)
    replace RA := Lib.hid (RA.out.below b4)
    have B4 := Lib.hid (B3.out.trans (b4.mono B3.out.size))
    clear b4 B3
    clear xP0 xP1 xP2 xP3 xP4 xP5 xP6
    obtain ⟨xP0, xP1, xP2, xP3, xP4, xP5, xP6⟩ := RP.out.sept
    clear RA
    go_wp2_with fail
    refine (toCopy_any d f a n c ss k g s o _ hn (HA.out.below B4.out)).mono ?_
    rintro e w5 ⟨gX, rfl, hX, rX, b5⟩
    have fX := Fresh.of (N := n) hX
    have sX := SlR.of_row rX
    clear hX rX
    have apPX := Lib.hid (RP.out.apart fX)
    have FX := Lib.hid (fX.mono B4.out.size)
    replace RP := Lib.hid (RP.out.below b5)
    have RX := Lib.hid sX
    clear fX sX
    have B5 := Lib.hid (B4.out.trans (b5.mono B4.out.size))
    clear b5 B4
    clear xP0 xP1 xP2 xP3 xP4 xP5 xP6
    obtain ⟨xP0, xP1, xP2, xP3, xP4, xP5, xP6⟩ := RP.out.sept
    have b6 := Below.box w5 (.cells #[Value.int .i64 d, Value.int .i64 f, Value.slice (some ⟨gX, 0, none⟩) n n, Value.int .i64 k, Value.int .i64 g, Value.int .i64 s, Value.int .i64 o] 74 (0, 0))
    have fQ : Fresh w5.heap.size (some ⟨w5.heap.size, 0, none⟩) 7 := Fresh.of (Nat.le_refl _)
    have sQ := SlR.box7 w5 (Value.int .i64 d) (Value.int .i64 f) (Value.slice (some ⟨gX, 0, none⟩) n n) (Value.int .i64 k) (Value.int .i64 g) (Value.int .i64 s) (Value.int .i64 o) 74
    have apPQ := Lib.hid (RP.out.apart fQ)
    have apXQ := Lib.hid (RX.out.apart fQ)
    have FQ := Lib.hid (fQ.mono B5.out.size)
    replace RP := Lib.hid (RP.out.below b6)
    replace RX := Lib.hid (RX.out.below b6)
    have RQ := Lib.hid sQ
    clear fQ sQ
    have B6 := Lib.hid (B5.out.trans (b6.mono B5.out.size))
    clear b6 B5
    clear xP0 xP1 xP2 xP3 xP4 xP5 xP6
    obtain ⟨xP0, xP1, xP2, xP3, xP4, xP5, xP6⟩ := RP.out.sept
    obtain ⟨xQ0, xQ1, xQ2, xQ3, xQ4, xQ5, xQ6⟩ := RQ.out.sept
    go_wp2_with fail
    refine (iLifeOf_any d f _ n _ ss k g s o _ HL.out hm RX.out).mono ?_
    rintro e w7 ⟨rfl, b7⟩
    replace RP := Lib.hid (RP.out.below b7)
    replace RX := Lib.hid (RX.out.below b7)
    replace RQ := Lib.hid (RQ.out.below b7)
    have B7 := Lib.hid (B6.out.trans (b7.mono B6.out.size))
    clear b7 B6
    clear xP0 xP1 xP2 xP3 xP4 xP5 xP6
    obtain ⟨xP0, xP1, xP2, xP3, xP4, xP5, xP6⟩ := RP.out.sept
    clear xQ0 xQ1 xQ2 xQ3 xQ4 xQ5 xQ6
    obtain ⟨xQ0, xQ1, xQ2, xQ3, xQ4, xQ5, xQ6⟩ := RQ.out.sept
    generalize lifeOf d f ss k g s o = r
    have er : (r != r) = false := by simp
    go_wp2_with fail
    have hS := Lib.hid ((HT21.mk B7.out RP.out RQ.out RX.out : HT21 w w.heap.size (Value.int .i64 d) (Value.int .i64 f) (Value.slice a n c) (Value.int .i64 k) (Value.int .i64 g) (Value.int .i64 s) (Value.int .i64 o) w5.heap.size (Value.int .i64 d) (Value.int .i64 f) (Value.slice (some ⟨gX, 0, none⟩) n n) (Value.int .i64 k) (Value.int .i64 g) (Value.int .i64 s) (Value.int .i64 o) (some ⟨gX, 0, none⟩) n (sc ss) _).next ((Below.refl _ _).drew))
    clear RP
    clear RX
    clear RQ
    clear xP0 xP1 xP2 xP3 xP4 xP5 xP6
    clear xQ0 xQ1 xQ2 xQ3 xQ4 xQ5 xQ6
    clear B7
    go_region_held3 (fun w' => (w'.cell? ⟨w.heap.size, 0, none⟩ = some (Value.int .i64 d) ∧ w'.cell? ⟨w.heap.size, 1, none⟩ = some (Value.int .i64 f) ∧ w'.cell? ⟨w.heap.size, 2, none⟩ = some (Value.slice a n c) ∧ w'.cell? ⟨w.heap.size, 3, none⟩ = some (Value.int .i64 k) ∧ w'.cell? ⟨w.heap.size, 4, none⟩ = some (Value.int .i64 g) ∧ w'.cell? ⟨w.heap.size, 5, none⟩ = some (Value.int .i64 s) ∧ w'.cell? ⟨w.heap.size, 6, none⟩ = some (Value.int .i64 o) ∧ w'.cell? ⟨w5.heap.size, 0, none⟩ = some (Value.int .i64 d) ∧ w'.cell? ⟨w5.heap.size, 1, none⟩ = some (Value.int .i64 f) ∧ w'.cell? ⟨w5.heap.size, 2, none⟩ = some (Value.slice (some ⟨gX, 0, none⟩) n n) ∧ w'.cell? ⟨w5.heap.size, 3, none⟩ = some (Value.int .i64 k) ∧ w'.cell? ⟨w5.heap.size, 4, none⟩ = some (Value.int .i64 g) ∧ w'.cell? ⟨w5.heap.size, 5, none⟩ = some (Value.int .i64 s) ∧ w'.cell? ⟨w5.heap.size, 6, none⟩ = some (Value.int .i64 o)) ∧ Hid (Below w.heap.size w w' ∧ SlR w' (some ⟨w.heap.size, 0, none⟩) 7 (sept (Value.int .i64 d) (Value.int .i64 f) (Value.slice a n c) (Value.int .i64 k) (Value.int .i64 g) (Value.int .i64 s) (Value.int .i64 o)) ∧ SlR w' (some ⟨w5.heap.size, 0, none⟩) 7 (sept (Value.int .i64 d) (Value.int .i64 f) (Value.slice (some ⟨gX, 0, none⟩) n n) (Value.int .i64 k) (Value.int .i64 g) (Value.int .i64 s) (Value.int .i64 o)) ∧ SlR w' (some ⟨gX, 0, none⟩) n (sc ss)))
      (first | exact hS.out | (go_keep; done))
      (first | (go_at_call 49; refine (toCopy_any d f a n c ss k g s o _ hn (HA.out.below (show HT21 w w.heap.size (Value.int .i64 d) (Value.int .i64 f) (Value.slice a n c) (Value.int .i64 k) (Value.int .i64 g) (Value.int .i64 s) (Value.int .i64 o) w5.heap.size (Value.int .i64 d) (Value.int .i64 f) (Value.slice (some ⟨gX, 0, none⟩) n n) (Value.int .i64 k) (Value.int .i64 g) (Value.int .i64 s) (Value.int .i64 o) (some ⟨gX, 0, none⟩) n (sc ss) _ from by assumption).2.out.1)).mono ?_; rintro e wS ⟨gY, rfl, hY, rY, bS⟩; have hS := Lib.hid (HT21.next (show HT21 w w.heap.size (Value.int .i64 d) (Value.int .i64 f) (Value.slice a n c) (Value.int .i64 k) (Value.int .i64 g) (Value.int .i64 s) (Value.int .i64 o) w5.heap.size (Value.int .i64 d) (Value.int .i64 f) (Value.slice (some ⟨gX, 0, none⟩) n n) (Value.int .i64 k) (Value.int .i64 g) (Value.int .i64 s) (Value.int .i64 o) (some ⟨gX, 0, none⟩) n (sc ss) _ from by assumption) bS); have RY := Lib.hid (SlR.of_row rY); clear hY rY; clear bS) | (go_at_call 51; refine (eqCopy_same d f _ _ _ _ _ ss k g s o _ hn ((show HT21 w w.heap.size (Value.int .i64 d) (Value.int .i64 f) (Value.slice a n c) (Value.int .i64 k) (Value.int .i64 g) (Value.int .i64 s) (Value.int .i64 o) w5.heap.size (Value.int .i64 d) (Value.int .i64 f) (Value.slice (some ⟨gX, 0, none⟩) n n) (Value.int .i64 k) (Value.int .i64 g) (Value.int .i64 s) (Value.int .i64 o) (some ⟨gX, 0, none⟩) n (sc ss) _ from by assumption).2.out.2.2.2) RY.out).mono ?_; rintro e wS ⟨rfl, bS⟩; have hS := Lib.hid (HT21.next (show HT21 w w.heap.size (Value.int .i64 d) (Value.int .i64 f) (Value.slice a n c) (Value.int .i64 k) (Value.int .i64 g) (Value.int .i64 s) (Value.int .i64 o) w5.heap.size (Value.int .i64 d) (Value.int .i64 f) (Value.slice (some ⟨gX, 0, none⟩) n n) (Value.int .i64 k) (Value.int .i64 g) (Value.int .i64 s) (Value.int .i64 o) (some ⟨gX, 0, none⟩) n (sc ss) _ from by assumption) bS); have RY := Lib.hid (RY.out.below bS); clear bS))
    have B8 := Lib.hid (hS.out.2.out.1)
    have RP := Lib.hid (hS.out.2.out.2.1)
    have RQ := Lib.hid (hS.out.2.out.2.2.1)
    have RX := Lib.hid (hS.out.2.out.2.2.2)
    clear hS
    obtain ⟨xP0, xP1, xP2, xP3, xP4, xP5, xP6⟩ := RP.out.sept
    obtain ⟨xQ0, xQ1, xQ2, xQ3, xQ4, xQ5, xQ6⟩ := RQ.out.sept
    go_wp2_with fail
    go_ret
    exact ⟨rfl, B8.out⟩
  · have HB0 := Lib.hid (Below.box w (.cells #[.int .i64 d, .int .i64 f, .slice a n c, .int .i64 k, .int .i64 g, .int .i64 s, .int .i64 o] 69 (0, 0)))
    have HA := Lib.hid (hA.below HB0.out)
    have HS := Lib.hid hsz
    clear hA hsz
    go_enter Try.func10, Try.ntmps10
    go_wp2_with fail
    refine (szCopy_big d f a n c ss k g s o _ 1048576 (by omega) (by omega) hmx HS.out (by omega) HA.out).mono ?_
    rintro e w1 ⟨rfl, b1⟩
    go_wp2_with fail
    go_ret
    exact ⟨rfl, HB0.out.trans (b1.mono HB0.out.size)⟩

set_option maxRecDepth 100000 in
theorem lifted (os : Os) (started : os.Started) (H : Type) (enc : TypeId × Value → H) :
    ReturnsInHanded {} Try.checked os 10 .any (Rows.fnExactLifeOfSpec.pre6 enc Try.prog Try.f10 Rows.fnExactLifeOfRow.domain false) (Rows.fnExactLifeOfSpec.post enc Try.prog Try.f10 false true false false) := by
  refine returnsInHanded_of_change (C := Try.checked) own started (by kernel_rfl) Try.func10
    (ChangeSpec.witness6 (enc := enc) (C := Try.checked) false ⟨#[], #[.agg #[.int .i64 0, .int .i64 0, .slice none 0 0, .int .i64 0, .int .i64 0, .int .i64 0, .int .i64 0]], []⟩ 8 (by kernel_rfl) (by kernel_rfl) (by kernel_rfl) (by kernel_rfl)) ?_
  intro W base args ds gs before hval0 hW hcnd _
  have hval : ∀ (j : Nat) t v, Try.f10.params[j]? = some t → args[j]? = some v → Value.okWide Try.prog W .any base t v := hval0
  have hW' := hW
  obtain ⟨p, q, hA0, hV, rfl, hfz, hnd⟩ := hW
  have hA : DataW.TrodAll enc Try.prog W 0 (fun _ => true) true Try.f10.params.toList args.toList ds p := hA0
  rw [Try.params10] at hA hval
  obtain ⟨v0, vs0, d0, ds0, p0, q0, hargs, rfl, rfl, h0, r0⟩ := trodAll_cons hA
  obtain ⟨rfl, rfl, rfl⟩ := trodAll_nil r0
  obtain rfl : args = #[v0] := by cases args; simp_all
  obtain ⟨rfl, rfl⟩ := trodVars_none hV
  have k0 := h0
  have lt0 : ∀ x ∈ p0, x.block < W.heap.size := by obtain ⟨m, hm⟩ := k0; exact DataW.trod_lt m _ _ _ hm
  obtain ⟨x0, rfl, w0⟩ := open_Copy (hval 0 69 v0 rfl rfl) h0
  clear hA0 hval0
  refine (walk W x0 w0).mono fun e W' ⟨he, bel⟩ => ?_
  subst he
  exact ⟨_, rfl, _, _, _, [], _, [], hW', trodAll_mk1 (shut_bool Try.underlying4 _), (trodAll_cons_mk (Below.trod laidOut (by kernel_rfl) (of_decide_eq_true (by kernel_rfl)) k0 bel lt0) trodAll_mk0), rfl, bel.frame _, fun h => by cases h⟩

theorem over : Rows.fnExactLifeOfRow.holds Try.pinned (OpenSpec.ofChange Rows.fnExactLifeOfSpec) :=
  OpenClaim.holds_of_wide 10 Try.f10 rfl rfl rfl rfl rfl rfl rfl ⟨rfl, rfl, rfl, rfl, rfl⟩ rfl rfl rfl rfl rfl (by kernel_rfl) Try.func10 (by kernel_rfl)
    (of_decide_eq_true (by kernel_rfl)) (by unfold Func.isWrapper; first | (rw [if_pos (by decide +kernel)]; kernel_rfl) | (rw [if_neg (by decide +kernel)]; exact ⟨rfl, rfl⟩))
    (fun os started H enc _ => lifted os started H enc)

/-- The statement. -/
theorem proved : Rows.FnExactLifeOfSaid :=
  over
#print axioms proved
end Go.Proofs.Yteghmdfiofbmiaa.fnExactLifeOf
