/-
  The Go function laws.FnExactSheetsFor returns true for every input and leaves its arguments as they were; no condition.
  By an AI agent.
-/
import Derived.Test.YtjffhbcikdcahaaRows
import Derived.WalkKit
import Derived.ProofKit
import Derived.OpenShut
import Derived.Carry
import Derived.ChangeOld
import Derived.Below
import Derived.Lib.SmallJoins
import Derived.Deep.Slices
import Derived.Deep.Fields
import Derived.Lib.Hide
import Derived.Test.YtjffhbcikdcahaaSheet
import Derived.Deep.RegionHeld3
namespace Go.Proofs.Ytjffhbcikdcahaa.fnExactSheetsFor
open Go.Proofs.Ytjffhbcikdcahaa Go.ChangeShapes Go.WideShapes Go.ChangeAt Go.RowKit Go.Joins Go.Deep

set_option linter.unusedVariables false
set_option maxRecDepth 100000

theorem own : ownKnob Try.prog.godebug = none := by kernel_rfl
theorem laidOut : laidOutB Try.prog = true := by kernel_rfl



set_option maxHeartbeats 1600000 in
theorem walk (w : World) (a0 : Int) (w0 : (Lit.int .i64 a0).wf = true) (a1 : Int) (w1 : (Lit.int .i64 a1).wf = true) (x2 : DCard) (w2 : x2.good w) (a3 : Int) (w3 : (Lit.int .i64 a3).wf = true) :
    Calls Try.prog 8 #[.int .i64 a0, .int .i64 a1, x2.val, .int .i64 a3] w fun e w' => e = .returned (.bool true) ∧ Below w.heap.size w w' := by
  obtain ⟨d, f, a, n, c, ss⟩ := x2
  obtain ⟨_, _, hl, hmx, hsz, hA⟩ := w2
  simp only [DCard.val]
  simp only at hl hmx hsz hA
  by_cases hm : (n : Int) + tot ss n ≤ 1048576
  · have HA := Lib.hid hA
    have HL := Lib.hid hl
    have hn : n ≤ 1048576 := by omega
    clear hA hl hsz
    go_enter Try.func8, Try.ntmps8
    have b1 := Below.box w (.cells #[Value.int .i64 d, Value.int .i64 f, Value.slice a n c] 41 (0, 0))
    have fP : Fresh w.heap.size (some ⟨w.heap.size, 0, none⟩) 3 := Fresh.of (Nat.le_refl _)
    have sP := SlR.box w (Value.int .i64 d) (Value.int .i64 f) (Value.slice a n c) 41
    have FP := Lib.hid (fP)
    have RP := Lib.hid sP
    clear fP sP
    have B1 := Lib.hid b1
    clear b1
    obtain ⟨xP0, xP1, xP2⟩ := RP.out.tri
    go_wp2_with fail
    refine (szCard_ok d f a n c ss 1048576 _ (by omega) hm (HA.out.below B1.out)).mono ?_
    rintro e w2 ⟨rfl, b2⟩
    replace RP := Lib.hid (RP.out.below b2)
    have B2 := Lib.hid (B1.out.trans (b2.mono B1.out.size))
    clear b2 B1
    clear xP0 xP1 xP2
    obtain ⟨xP0, xP1, xP2⟩ := RP.out.tri
    go_wp2_with fail
    refine (toCard_any d f a n c ss _ hn (HA.out.below B2.out)).mono ?_
    rintro e w3 ⟨gA, rfl, hA, rA, b3⟩
    have fA := Fresh.of (N := n) hA
    have sA := SlR.of_row rA
    clear hA rA
    have apPA := Lib.hid (RP.out.apart fA)
    have FA := Lib.hid (fA.mono B2.out.size)
    replace RP := Lib.hid (RP.out.below b3)
    have RA := Lib.hid sA
    clear fA sA
    have B3 := Lib.hid (B2.out.trans (b3.mono B2.out.size))
    clear b3 B2
    clear xP0 xP1 xP2
    obtain ⟨xP0, xP1, xP2⟩ := RP.out.tri
    go_wp2_with fail
    refine (sSheetsFor_any a0 a1 a3 d f _ n _ ss _ HL.out hm RA.out).mono ?_
    rintro e w4 ⟨rfl, b4⟩
    replace RP := Lib.hid (RP.out.below b4)
    replace RA := Lib.hid (RA.out.below b4)
    have B4 := Lib.hid (B3.out.trans (b4.mono B3.out.size))
    clear b4 B3
    clear xP0 xP1 xP2
    obtain ⟨xP0, xP1, xP2⟩ := RP.out.tri
    clear RA
    go_wp2_with fail
    refine (toCard_any d f a n c ss _ hn (HA.out.below B4.out)).mono ?_
    rintro e w5 ⟨gX, rfl, hX, rX, b5⟩
    have fX := Fresh.of (N := n) hX
    have sX := SlR.of_row rX
    clear hX rX
    have apPX := Lib.hid (RP.out.apart fX)
    have FX := Lib.hid (fX.mono B4.out.size)
    replace RP := Lib.hid (RP.out.below b5)
    have RX := Lib.hid sX
    clear fX sX
    have B5 := Lib.hid (B4.out.trans (b5.mono B4.out.size))
    clear b5 B4
    clear xP0 xP1 xP2
    obtain ⟨xP0, xP1, xP2⟩ := RP.out.tri
    have b6 := Below.box w5 (.cells #[Value.int .i64 d, Value.int .i64 f, Value.slice (some ⟨gX, 0, none⟩) n n] 32 (0, 0))
    have fQ : Fresh w5.heap.size (some ⟨w5.heap.size, 0, none⟩) 3 := Fresh.of (Nat.le_refl _)
    have sQ := SlR.box w5 (Value.int .i64 d) (Value.int .i64 f) (Value.slice (some ⟨gX, 0, none⟩) n n) 32
    have apPQ := Lib.hid (RP.out.apart fQ)
    have apXQ := Lib.hid (RX.out.apart fQ)
    have FQ := Lib.hid (fQ.mono B5.out.size)
    replace RP := Lib.hid (RP.out.below b6)
    replace RX := Lib.hid (RX.out.below b6)
    have RQ := Lib.hid sQ
    clear fQ sQ
    have B6 := Lib.hid (B5.out.trans (b6.mono B5.out.size))
    clear b6 B5
    clear xP0 xP1 xP2
    obtain ⟨xP0, xP1, xP2⟩ := RP.out.tri
    obtain ⟨xQ0, xQ1, xQ2⟩ := RQ.out.tri
    go_wp2_with fail
    refine (iSheetsFor_any a0 a1 a3 d f _ n _ ss _ HL.out hm RX.out).mono ?_
    rintro e w7 ⟨rfl, b7⟩
    replace RP := Lib.hid (RP.out.below b7)
    replace RX := Lib.hid (RX.out.below b7)
    replace RQ := Lib.hid (RQ.out.below b7)
    have B7 := Lib.hid (B6.out.trans (b7.mono B6.out.size))
    clear b7 B6
    clear xP0 xP1 xP2
    obtain ⟨xP0, xP1, xP2⟩ := RP.out.tri
    clear xQ0 xQ1 xQ2
    obtain ⟨xQ0, xQ1, xQ2⟩ := RQ.out.tri
    go_wp2_with fail
    have HSd : Hid (CS w w.heap.size (Value.int .i64 d) (Value.int .i64 f) (Value.slice a n c) w5.heap.size (Value.int .i64 d) (Value.int .i64 f) (Value.slice (some ⟨gX, 0, none⟩) n n) (some ⟨gX, 0, none⟩) n (sc ss) w7.drew) := Lib.hid (CS.next (CS.mk B7.out RX.out RP.out RQ.out) ((Below.refl _ _).drew))
    go_region_held3 (fun w' => (w'.cell? ⟨w.heap.size, 0, none⟩ = some (Value.int .i64 d) ∧ w'.cell? ⟨w.heap.size, 1, none⟩ = some (Value.int .i64 f) ∧ w'.cell? ⟨w.heap.size, 2, none⟩ = some (Value.slice a n c) ∧ w'.cell? ⟨w5.heap.size, 0, none⟩ = some (Value.int .i64 d) ∧ w'.cell? ⟨w5.heap.size, 1, none⟩ = some (Value.int .i64 f) ∧ w'.cell? ⟨w5.heap.size, 2, none⟩ = some (Value.slice (some ⟨gX, 0, none⟩) n n)) ∧ Hid (Below w.heap.size w w' ∧ SlR w' (some ⟨gX, 0, none⟩) n (sc ss) ∧ SlR w' (some ⟨w.heap.size, 0, none⟩) 3 (tri (Value.int .i64 d) (Value.int .i64 f) (Value.slice a n c)) ∧ SlR w' (some ⟨w5.heap.size, 0, none⟩) 3 (tri (Value.int .i64 d) (Value.int .i64 f) (Value.slice (some ⟨gX, 0, none⟩) n n))))
      (first | exact HSd.out | exact hS2.out | exact hS3.out | (go_keep; done))
      (first | (go_at_call 31; refine (toCard_any d f a n c ss _ hn (HA.out.below ((show CS w w.heap.size (Value.int .i64 d) (Value.int .i64 f) (Value.slice a n c) w5.heap.size (Value.int .i64 d) (Value.int .i64 f) (Value.slice (some ⟨gX, 0, none⟩) n n) (some ⟨gX, 0, none⟩) n (sc ss) _ from by assumption)).2.out.1)).mono ?_; rintro e w2 ⟨gY, rfl, hY, rY, bY⟩; have hS2 := Lib.hid (CS.next (show CS w w.heap.size (Value.int .i64 d) (Value.int .i64 f) (Value.slice a n c) w5.heap.size (Value.int .i64 d) (Value.int .i64 f) (Value.slice (some ⟨gX, 0, none⟩) n n) (some ⟨gX, 0, none⟩) n (sc ss) _ from by assumption) bY); have RYs := Lib.hid (SlR.of_row rY); clear hY rY bY) | (go_at_call 32; refine (eqCard_same d f _ _ _ _ _ ss _ hn (hS2.out.2.out.2.1) RYs.out).mono ?_; rintro e w3 ⟨rfl, bZ⟩; have hS3 := Lib.hid (CS.next hS2.out bZ); clear bZ))
    have B8 := Lib.hid (hS3.out.2.out.1)
    go_wp2_with fail
    go_ret
    exact ⟨rfl, B8.out⟩
  · have HB0 := Lib.hid (Below.box w (.cells #[.int .i64 d, .int .i64 f, .slice a n c] 41 (0, 0)))
    have HA := Lib.hid (hA.below HB0.out)
    have HS := Lib.hid hsz
    clear hA hsz
    go_enter Try.func8, Try.ntmps8
    go_wp2_with fail
    refine (szCard_big d f a n c ss 1048576 _ (by omega) (by omega) hmx HS.out (by omega) HA.out).mono ?_
    rintro e w1 ⟨rfl, b1⟩
    go_wp2_with fail
    go_ret
    exact ⟨rfl, HB0.out.trans (b1.mono HB0.out.size)⟩

set_option maxRecDepth 100000 in
theorem lifted (os : Os) (started : os.Started) (H : Type) (enc : TypeId × Value → H) :
    ReturnsInHanded {} Try.checked os 8 .any (Rows.fnExactSheetsForSpec.pre6 enc Try.prog Try.f8 Rows.fnExactSheetsForRow.domain false) (Rows.fnExactSheetsForSpec.post enc Try.prog Try.f8 false true false false) := by
  refine returnsInHanded_of_change (C := Try.checked) own started (by kernel_rfl) Try.func8
    (ChangeSpec.witness6 (enc := enc) (C := Try.checked) false ⟨#[], #[.int .i64 0, .int .i64 0, .agg #[.int .i64 0, .int .i64 0, .slice none 0 0], .int .i64 0], []⟩ 8 (by kernel_rfl) (by kernel_rfl) (by kernel_rfl) (by kernel_rfl)) ?_
  intro W base args ds gs before hval0 hW hcnd _
  have hval : ∀ (j : Nat) t v, Try.f8.params[j]? = some t → args[j]? = some v → Value.okWide Try.prog W .any base t v := hval0
  have hW' := hW
  obtain ⟨p, q, hA0, hV, rfl, hfz, hnd⟩ := hW
  have hA : DataW.TrodAll enc Try.prog W 0 (fun _ => true) true Try.f8.params.toList args.toList ds p := hA0
  rw [Try.params8] at hA hval
  obtain ⟨v0, vs0, d0, ds0, p0, q0, hargs, rfl, rfl, h0, r0⟩ := trodAll_cons hA
  obtain ⟨v1, vs1, d1, ds1, p1, q1, rfl, rfl, rfl, h1, r1⟩ := trodAll_cons r0
  obtain ⟨v2, vs2, d2, ds2, p2, q2, rfl, rfl, rfl, h2, r2⟩ := trodAll_cons r1
  obtain ⟨v3, vs3, d3, ds3, p3, q3, rfl, rfl, rfl, h3, r3⟩ := trodAll_cons r2
  obtain ⟨rfl, rfl, rfl⟩ := trodAll_nil r3
  obtain rfl : args = #[v0, v1, v2, v3] := by cases args; simp_all
  obtain ⟨rfl, rfl⟩ := trodVars_none hV
  have k0 := h0
  have lt0 : ∀ x ∈ p0, x.block < W.heap.size := by obtain ⟨m, hm⟩ := k0; exact DataW.trod_lt m _ _ _ hm
  have k1 := h1
  have lt1 : ∀ x ∈ p1, x.block < W.heap.size := by obtain ⟨m, hm⟩ := k1; exact DataW.trod_lt m _ _ _ hm
  have k2 := h2
  have lt2 : ∀ x ∈ p2, x.block < W.heap.size := by obtain ⟨m, hm⟩ := k2; exact DataW.trod_lt m _ _ _ hm
  have k3 := h3
  have lt3 : ∀ x ∈ p3, x.block < W.heap.size := by obtain ⟨m, hm⟩ := k3; exact DataW.trod_lt m _ _ _ hm
  obtain ⟨a0, rfl, rfl, rfl, w0⟩ := open_int Try.underlying3 (hval 0 3 v0 rfl rfl) h0
  obtain ⟨a1, rfl, rfl, rfl, w1⟩ := open_int Try.underlying3 (hval 1 3 v1 rfl rfl) h1
  obtain ⟨x2, rfl, w2⟩ := open_Card (hval 2 41 v2 rfl rfl) h2
  obtain ⟨a3, rfl, rfl, rfl, w3⟩ := open_int Try.underlying3 (hval 3 3 v3 rfl rfl) h3
  clear hA0 hval0
  refine (walk W a0 w0 a1 w1 x2 w2 a3 w3).mono fun e W' ⟨he, bel⟩ => ?_
  subst he
  exact ⟨_, rfl, _, _, _, [], _, [], hW', trodAll_mk1 (shut_bool Try.underlying4 _), (trodAll_cons_mk (Below.trod laidOut (by kernel_rfl) (of_decide_eq_true (by kernel_rfl)) k0 bel lt0) (trodAll_cons_mk (Below.trod laidOut (by kernel_rfl) (of_decide_eq_true (by kernel_rfl)) k1 bel lt1) (trodAll_cons_mk (Below.trod laidOut (by kernel_rfl) (of_decide_eq_true (by kernel_rfl)) k2 bel lt2) (trodAll_cons_mk (Below.trod laidOut (by kernel_rfl) (of_decide_eq_true (by kernel_rfl)) k3 bel lt3) trodAll_mk0)))), rfl, bel.frame _, fun h => by cases h⟩

theorem over : Rows.fnExactSheetsForRow.holds Try.pinned (OpenSpec.ofChange Rows.fnExactSheetsForSpec) :=
  OpenClaim.holds_of_wide 8 Try.f8 rfl rfl rfl rfl rfl rfl rfl ⟨rfl, rfl, rfl, rfl, rfl⟩ rfl rfl rfl rfl rfl (by kernel_rfl) Try.func8 (by kernel_rfl)
    (of_decide_eq_true (by kernel_rfl)) (by unfold Func.isWrapper; first | (rw [if_pos (by decide +kernel)]; kernel_rfl) | (rw [if_neg (by decide +kernel)]; exact ⟨rfl, rfl⟩))
    (fun os started H enc _ => lifted os started H enc)

/-- The statement. -/
theorem proved : Rows.FnExactSheetsForSaid :=
  over
#print axioms proved
end Go.Proofs.Ytjffhbcikdcahaa.fnExactSheetsFor
