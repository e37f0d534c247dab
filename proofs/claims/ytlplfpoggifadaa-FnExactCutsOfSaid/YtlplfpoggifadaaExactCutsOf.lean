/-
  The Go function laws.FnExactCutsOf returns true for every input and leaves its arguments as they were; no condition.
  By an AI agent.
-/
import Derived.Test.YtlplfpoggifadaaRows
import Derived.WalkKit
import Derived.ProofKit
import Derived.OpenShut
import Derived.Carry
import Derived.ChangeOld
import Derived.Below
import Derived.Lib.SmallJoins
import Derived.Deep.Slices
import Derived.Deep.Fields
import Derived.Lib.Hide
import Derived.Test.YtlplfpoggifadaaCutsI
import Derived.Test.YtlplfpoggifadaaHold
import Derived.Deep.RegionHeld3
namespace Go.Proofs.Ytlplfpoggifadaa.fnExactCutsOf
open Go.Proofs.Ytlplfpoggifadaa Go.ChangeShapes Go.WideShapes Go.ChangeAt Go.RowKit Go.Joins Go.Deep

set_option linter.unusedVariables false
set_option maxRecDepth 100000

theorem own : ownKnob Try.prog.godebug = none := by kernel_rfl
theorem laidOut : laidOutB Try.prog = true := by kernel_rfl



set_option maxHeartbeats 3200000 in
theorem walk (w : World) (x0 : DCard) (w0 : x0.good w) :
    Calls Try.prog 3 #[x0.val] w fun e w' => e = .returned (.bool true) ∧ Below w.heap.size w w' := by
  obtain ⟨d, f, a, n, c, ss⟩ := x0
  obtain ⟨_, _, hl, hmx, hsz, hA⟩ := w0
  simp only [DCard.val]
  simp only at hl hmx hsz hA
  by_cases hm : (n : Int) + tot ss n ≤ 1048576
  · obtain ⟨L, hL⟩ : ∃ L, cutsR d f n ss = L := ⟨_, rfl⟩
    have hLm : L.length ≤ 1048576 := by rw [← hL]; have := cutsR_len d f n ss hl; omega
    have HCL := Lib.hid hL
    have HA := Lib.hid hA
    have HL := Lib.hid hl
    have hn : n ≤ 1048576 := by omega
    clear hA hl hsz hL
    go_enter Try.func3, Try.ntmps3
    have b1 := Below.box w (.cells #[Value.int .i64 d, Value.int .i64 f, Value.slice a n c] 24 (0, 0))
    have fP : Fresh w.heap.size (some ⟨w.heap.size, 0, none⟩) 3 := Fresh.of (Nat.le_refl _)
    have sP := SlR.box w (Value.int .i64 d) (Value.int .i64 f) (Value.slice a n c) 24
    have FP := Lib.hid (fP)
    have RP := Lib.hid sP
    clear fP sP
    have B1 := Lib.hid b1
    clear b1
    obtain ⟨xP0, xP1, xP2⟩ := RP.out.tri
    go_wp2_with fail
    refine (szCard_ok d f a n c ss 1048576 _ (by omega) hm (HA.out.below B1.out)).mono ?_
    rintro e w2 ⟨rfl, b2⟩
    replace RP := Lib.hid (RP.out.below b2)
    have B2 := Lib.hid (B1.out.trans (b2.mono B1.out.size))
    clear b2 B1
    clear xP0 xP1 xP2
    obtain ⟨xP0, xP1, xP2⟩ := RP.out.tri
    go_wp2_with fail
    refine (toCard_any d f a n c ss _ hn (HA.out.below B2.out)).mono ?_
    rintro e w3 ⟨gA, rfl, hA, rA, b3⟩
    have fA := Fresh.of (N := n) hA
    have sA := SlR.of_row rA
    clear hA rA
    have apPA := Lib.hid (RP.out.apart fA)
    have FA := Lib.hid (fA.mono B2.out.size)
    replace RP := Lib.hid (RP.out.below b3)
    have RA := Lib.hid sA
    clear fA sA
    have B3 := Lib.hid (B2.out.trans (b3.mono B2.out.size))
    clear b3 B2
    clear xP0 xP1 xP2
    obtain ⟨xP0, xP1, xP2⟩ := RP.out.tri
    go_wp2_with fail
    refine ((show Calls _ _ _ _ (GetC L _) from HCL.out ▸ sCutsOf_any d f _ n _ ss _ HL.out hm RA.out)).mono ?_
    rintro e w4 ⟨aW, cW, rfl, rW, hW, b4⟩
    have fW := hW
    have sW := rW
    clear hW rW
    have apPW := Lib.hid (RP.out.apart fW)
    have apAW := Lib.hid (RA.out.apart fW)
    have FW := Lib.hid (fW.mono B3.out.size)
    replace RP := Lib.hid (RP.out.below b4)
    replace RA := Lib.hid (RA.out.below b4)
    have RW := Lib.hid sW
    clear fW sW
    have B4 := Lib.hid (B3.out.trans (b4.mono B3.out.size))
    clear b4 B3
    clear xP0 xP1 xP2
    obtain ⟨xP0, xP1, xP2⟩ := RP.out.tri
    clear RA
    go_wp2_with fail
    refine (toCard_any d f a n c ss _ hn (HA.out.below B4.out)).mono ?_
    rintro e w5 ⟨gX, rfl, hX, rX, b5⟩
    have fX := Fresh.of (N := n) hX
    have sX := SlR.of_row rX
    clear hX rX
    have apPX := Lib.hid (RP.out.apart fX)
    have apWX := Lib.hid (RW.out.apart fX)
    have FX := Lib.hid (fX.mono B4.out.size)
    replace RP := Lib.hid (RP.out.below b5)
    replace RW := Lib.hid (RW.out.below b5)
    have RX := Lib.hid sX
    clear fX sX
    have B5 := Lib.hid (B4.out.trans (b5.mono B4.out.size))
    clear b5 B4
    clear xP0 xP1 xP2
    obtain ⟨xP0, xP1, xP2⟩ := RP.out.tri
    have b6 := Below.box w5 (.cells #[Value.int .i64 d, Value.int .i64 f, Value.slice (some ⟨gX, 0, none⟩) n n] 28 (0, 0))
    have fQ : Fresh w5.heap.size (some ⟨w5.heap.size, 0, none⟩) 3 := Fresh.of (Nat.le_refl _)
    have sQ := SlR.box w5 (Value.int .i64 d) (Value.int .i64 f) (Value.slice (some ⟨gX, 0, none⟩) n n) 28
    have apPQ := Lib.hid (RP.out.apart fQ)
    have apWQ := Lib.hid (RW.out.apart fQ)
    have apXQ := Lib.hid (RX.out.apart fQ)
    have FQ := Lib.hid (fQ.mono B5.out.size)
    replace RP := Lib.hid (RP.out.below b6)
    replace RW := Lib.hid (RW.out.below b6)
    replace RX := Lib.hid (RX.out.below b6)
    have RQ := Lib.hid sQ
    clear fQ sQ
    have B6 := Lib.hid (B5.out.trans (b6.mono B5.out.size))
    clear b6 B5
    clear xP0 xP1 xP2
    obtain ⟨xP0, xP1, xP2⟩ := RP.out.tri
    obtain ⟨xQ0, xQ1, xQ2⟩ := RQ.out.tri
    go_wp2_with fail
    refine ((show Calls _ _ _ _ (GetC L _) from HCL.out ▸ iCutsOf_any d f _ n _ ss _ HL.out hm RX.out)).mono ?_
    rintro e w7 ⟨aG, cG, rfl, rG, hG, b7⟩
    have fG := hG
    have sG := rG
    clear hG rG
    have apPG := Lib.hid (RP.out.apart fG)
    have apWG := Lib.hid (RW.out.apart fG)
    have apXG := Lib.hid (RX.out.apart fG)
    have apQG := Lib.hid (RQ.out.apart fG)
    have FG := Lib.hid (fG.mono B6.out.size)
    replace RP := Lib.hid (RP.out.below b7)
    replace RW := Lib.hid (RW.out.below b7)
    replace RX := Lib.hid (RX.out.below b7)
    replace RQ := Lib.hid (RQ.out.below b7)
    have RG := Lib.hid sG
    clear fG sG
    have B7 := Lib.hid (B6.out.trans (b7.mono B6.out.size))
    clear b7 B6
    clear xP0 xP1 xP2
    obtain ⟨xP0, xP1, xP2⟩ := RP.out.tri
    clear xQ0 xQ1 xQ2
    obtain ⟨xQ0, xQ1, xQ2⟩ := RQ.out.tri
    go_wp2_with fail
    refine (eqCutS_sl _ _ 0 _ _ L _ hLm RG.out RW.out).mono ?_
    rintro e w8 ⟨rfl, b8⟩
    replace RP := Lib.hid (RP.out.below b8)
    replace RW := Lib.hid (RW.out.below b8)
    replace RX := Lib.hid (RX.out.below b8)
    replace RQ := Lib.hid (RQ.out.below b8)
    replace RG := Lib.hid (RG.out.below b8)
    have B8 := Lib.hid (B7.out.trans (b8.mono B7.out.size))
    clear b8 B7
    clear xP0 xP1 xP2
    obtain ⟨xP0, xP1, xP2⟩ := RP.out.tri
    clear xQ0 xQ1 xQ2
    obtain ⟨xQ0, xQ1, xQ2⟩ := RQ.out.tri
    go_wp2_with fail
    have hS := Lib.hid (SB2.mk RP.out RQ.out ((Below.refl _ w8).drew) : SB2 w8 w.heap.size (Value.int .i64 d) (Value.int .i64 f) (Value.slice a n c) w5.heap.size (Value.int .i64 d) (Value.int .i64 f) (Value.slice (some ⟨gX, 0, none⟩) n n) _)
    clear xP0 xP1 xP2
    clear xQ0 xQ1 xQ2
    go_region_held3 (fun w' => (w'.cell? ⟨w.heap.size, 0, none⟩ = some (Value.int .i64 d) ∧ w'.cell? ⟨w.heap.size, 1, none⟩ = some (Value.int .i64 f) ∧ w'.cell? ⟨w.heap.size, 2, none⟩ = some (Value.slice a n c) ∧ w'.cell? ⟨w5.heap.size, 0, none⟩ = some (Value.int .i64 d) ∧ w'.cell? ⟨w5.heap.size, 1, none⟩ = some (Value.int .i64 f) ∧ w'.cell? ⟨w5.heap.size, 2, none⟩ = some (Value.slice (some ⟨gX, 0, none⟩) n n)) ∧ Hid (Below w8.heap.size w8 w'))
      (first | exact hS.out | (go_keep; done))
      (first | (go_at_call 11; refine (toCard_any d f a n c ss _ hn (HA.out.below (B8.out.trans ((show SB2 w8 w.heap.size (Value.int .i64 d) (Value.int .i64 f) (Value.slice a n c) w5.heap.size (Value.int .i64 d) (Value.int .i64 f) (Value.slice (some ⟨gX, 0, none⟩) n n) _ from by assumption).2.out.mono B8.out.size)))).mono ?_; rintro e wS9 ⟨gZ, rfl, hZ, rZ, bS⟩; have hS := Lib.hid (SB2.next RP.out RQ.out (show SB2 w8 w.heap.size (Value.int .i64 d) (Value.int .i64 f) (Value.slice a n c) w5.heap.size (Value.int .i64 d) (Value.int .i64 f) (Value.slice (some ⟨gX, 0, none⟩) n n) _ from by assumption) bS); have RZ := Lib.hid (SlR.of_row rZ); clear hZ rZ; clear bS) | (go_at_call 14; refine (eqCard_same d f _ _ _ _ _ ss _ hn (RX.out.below (show SB2 w8 w.heap.size (Value.int .i64 d) (Value.int .i64 f) (Value.slice a n c) w5.heap.size (Value.int .i64 d) (Value.int .i64 f) (Value.slice (some ⟨gX, 0, none⟩) n n) _ from by assumption).2.out) RZ.out).mono ?_; rintro e wS9 ⟨rfl, bS⟩; have hS := Lib.hid (SB2.next RP.out RQ.out (show SB2 w8 w.heap.size (Value.int .i64 d) (Value.int .i64 f) (Value.slice a n c) w5.heap.size (Value.int .i64 d) (Value.int .i64 f) (Value.slice (some ⟨gX, 0, none⟩) n n) _ from by assumption) bS); have RZ := Lib.hid (RZ.out.below bS); clear bS))
    have b9 := hS.out.2.out
    clear hS
    replace RP := Lib.hid (RP.out.below b9)
    replace RW := Lib.hid (RW.out.below b9)
    replace RX := Lib.hid (RX.out.below b9)
    replace RQ := Lib.hid (RQ.out.below b9)
    replace RG := Lib.hid (RG.out.below b9)
    have B9 := Lib.hid (B8.out.trans (b9.mono B8.out.size))
    clear b9 B8
    obtain ⟨xP0, xP1, xP2⟩ := RP.out.tri
    obtain ⟨xQ0, xQ1, xQ2⟩ := RQ.out.tri
    go_wp2_with fail
    refine (markCard_any d f _ n _ 1 _ _ (by omega) (by omega) hn RX.out).mono ?_
    rintro e w10 ⟨dX, rfl, m10, o10⟩
    replace RP := Lib.hid (o10.keep RP.out apPX.out)
    replace RW := Lib.hid (o10.keep RW.out apWX.out)
    replace RQ := Lib.hid (o10.keep RQ.out apXQ.out.symm)
    replace RG := Lib.hid (o10.keep RG.out apXG.out.symm)
    replace RX := Lib.hid m10
    have b10 := o10.below FX.out B9.out.size
    clear m10 o10
    have B10 := Lib.hid (B9.out.trans b10)
    clear b10 B9
    clear xP0 xP1 xP2
    obtain ⟨xP0, xP1, xP2⟩ := RP.out.tri
    clear xQ0 xQ1 xQ2
    obtain ⟨xQ0, xQ1, xQ2⟩ := RQ.out.tri
    go_wp2_with fail
    refine (eqCutS_sl _ _ 0 _ _ L _ hLm RG.out RW.out).mono ?_
    rintro e w11 ⟨rfl, b11⟩
    replace RP := Lib.hid (RP.out.below b11)
    replace RW := Lib.hid (RW.out.below b11)
    replace RX := Lib.hid (RX.out.below b11)
    replace RQ := Lib.hid (RQ.out.below b11)
    replace RG := Lib.hid (RG.out.below b11)
    have B11 := Lib.hid (B10.out.trans (b11.mono B10.out.size))
    clear b11 B10
    clear xP0 xP1 xP2
    obtain ⟨xP0, xP1, xP2⟩ := RP.out.tri
    clear xQ0 xQ1 xQ2
    obtain ⟨xQ0, xQ1, xQ2⟩ := RQ.out.tri
    clear RQ
    clear RX
    go_wp2_with fail
    refine (markCutS_sl _ _ _ 1 _ _ (by omega) (by omega) hLm RG.out).mono ?_
    rintro e w12 ⟨rfl, m12, o12⟩
    replace RP := Lib.hid (o12.keep RP.out apPG.out)
    replace RW := Lib.hid (o12.keep RW.out apWG.out)
    replace RG := Lib.hid m12
    have b12 := o12.below FG.out B11.out.size
    clear m12 o12
    have B12 := Lib.hid (B11.out.trans b12)
    clear b12 B11
    clear xP0 xP1 xP2
    obtain ⟨xP0, xP1, xP2⟩ := RP.out.tri
    go_wp2_with fail
    refine (heldCutS_any _ _ _ 1 _ (by omega) (by omega) hLm RG.out).mono ?_
    rintro e w13 ⟨rfl, rfl⟩
    go_wp2_with fail
    refine (toCard_any d f a n c ss _ hn (HA.out.below B12.out)).mono ?_
    rintro e w14 ⟨gC, rfl, hC, rC, b14⟩
    have fC := Fresh.of (N := n) hC
    have sC := SlR.of_row rC
    clear hC rC
    have apPC := Lib.hid (RP.out.apart fC)
    have apWC := Lib.hid (RW.out.apart fC)
    have apGC := Lib.hid (RG.out.apart fC)
    have FC := Lib.hid (fC.mono B12.out.size)
    replace RP := Lib.hid (RP.out.below b14)
    replace RW := Lib.hid (RW.out.below b14)
    replace RG := Lib.hid (RG.out.below b14)
    have RC := Lib.hid sC
    clear fC sC
    have B14 := Lib.hid (B12.out.trans (b14.mono B12.out.size))
    clear b14 B12
    clear xP0 xP1 xP2
    obtain ⟨xP0, xP1, xP2⟩ := RP.out.tri
    go_wp2_with fail
    refine ((show Calls _ _ _ _ (GetC L _) from HCL.out ▸ iCutsOf_any d f _ n _ ss _ HL.out hm RC.out)).mono ?_
    rintro e w15 ⟨aK, cK, rfl, rK, hK, b15⟩
    have fK := hK
    have sK := rK
    clear hK rK
    have apPK := Lib.hid (RP.out.apart fK)
    have apWK := Lib.hid (RW.out.apart fK)
    have apGK := Lib.hid (RG.out.apart fK)
    have apCK := Lib.hid (RC.out.apart fK)
    have FK := Lib.hid (fK.mono B14.out.size)
    replace RP := Lib.hid (RP.out.below b15)
    replace RW := Lib.hid (RW.out.below b15)
    replace RG := Lib.hid (RG.out.below b15)
    replace RC := Lib.hid (RC.out.below b15)
    have RK := Lib.hid sK
    clear fK sK
    have B15 := Lib.hid (B14.out.trans (b15.mono B14.out.size))
    clear b15 B14
    clear xP0 xP1 xP2
    obtain ⟨xP0, xP1, xP2⟩ := RP.out.tri
    go_wp2_with fail
    refine (eqCutS_sl _ _ 0 _ _ L _ hLm RK.out RW.out).mono ?_
    rintro e w16 ⟨rfl, b16⟩
    replace RP := Lib.hid (RP.out.below b16)
    replace RW := Lib.hid (RW.out.below b16)
    replace RG := Lib.hid (RG.out.below b16)
    replace RC := Lib.hid (RC.out.below b16)
    replace RK := Lib.hid (RK.out.below b16)
    have B16 := Lib.hid (B15.out.trans (b16.mono B15.out.size))
    clear b16 B15
    clear xP0 xP1 xP2
    obtain ⟨xP0, xP1, xP2⟩ := RP.out.tri
    go_wp2_with fail
    refine (heldCutS_any _ _ _ 1 _ (by omega) (by omega) hLm RG.out).mono ?_
    rintro e w17 ⟨rfl, rfl⟩
    go_wp2_with fail
    go_ret
    exact ⟨rfl, B16.out⟩
  · have HB0 := Lib.hid (Below.box w (.cells #[.int .i64 d, .int .i64 f, .slice a n c] 24 (0, 0)))
    have HA := Lib.hid (hA.below HB0.out)
    have HS := Lib.hid hsz
    clear hA hsz
    go_enter Try.func3, Try.ntmps3
    go_wp2_with fail
    refine (szCard_big d f a n c ss 1048576 _ (by omega) (by omega) hmx HS.out (by omega) HA.out).mono ?_
    rintro e w1 ⟨rfl, b1⟩
    go_wp2_with fail
    go_ret
    exact ⟨rfl, HB0.out.trans (b1.mono HB0.out.size)⟩

set_option maxRecDepth 100000 in
theorem lifted (os : Os) (started : os.Started) (H : Type) (enc : TypeId × Value → H) :
    ReturnsInHanded {} Try.checked os 3 .any (Rows.fnExactCutsOfSpec.pre6 enc Try.prog Try.f3 Rows.fnExactCutsOfRow.domain false) (Rows.fnExactCutsOfSpec.post enc Try.prog Try.f3 false true false false) := by
  refine returnsInHanded_of_change (C := Try.checked) own started (by kernel_rfl) Try.func3
    (ChangeSpec.witness6 (enc := enc) (C := Try.checked) false ⟨#[], #[.agg #[.int .i64 0, .int .i64 0, .slice none 0 0]], []⟩ 8 (by kernel_rfl) (by kernel_rfl) (by kernel_rfl) (by kernel_rfl)) ?_
  intro W base args ds gs before hval0 hW hcnd _
  have hval : ∀ (j : Nat) t v, Try.f3.params[j]? = some t → args[j]? = some v → Value.okWide Try.prog W .any base t v := hval0
  have hW' := hW
  obtain ⟨p, q, hA0, hV, rfl, hfz, hnd⟩ := hW
  have hA : DataW.TrodAll enc Try.prog W 0 (fun _ => true) true Try.f3.params.toList args.toList ds p := hA0
  rw [Try.params3] at hA hval
  obtain ⟨v0, vs0, d0, ds0, p0, q0, hargs, rfl, rfl, h0, r0⟩ := trodAll_cons hA
  obtain ⟨rfl, rfl, rfl⟩ := trodAll_nil r0
  obtain rfl : args = #[v0] := by cases args; simp_all
  obtain ⟨rfl, rfl⟩ := trodVars_none hV
  have k0 := h0
  have lt0 : ∀ x ∈ p0, x.block < W.heap.size := by obtain ⟨m, hm⟩ := k0; exact DataW.trod_lt m _ _ _ hm
  obtain ⟨x0, rfl, w0⟩ := open_Card (hval 0 24 v0 rfl rfl) h0
  clear hA0 hval0
  refine (walk W x0 w0).mono fun e W' ⟨he, bel⟩ => ?_
  subst he
  exact ⟨_, rfl, _, _, _, [], _, [], hW', trodAll_mk1 (shut_bool Try.underlying4 _), (trodAll_cons_mk (Below.trod laidOut (by kernel_rfl) (of_decide_eq_true (by kernel_rfl)) k0 bel lt0) trodAll_mk0), rfl, bel.frame _, fun h => by cases h⟩

theorem over : Rows.fnExactCutsOfRow.holds Try.pinned (OpenSpec.ofChange Rows.fnExactCutsOfSpec) :=
  OpenClaim.holds_of_wide 3 Try.f3 rfl rfl rfl rfl rfl rfl rfl ⟨rfl, rfl, rfl, rfl, rfl⟩ rfl rfl rfl rfl rfl (by kernel_rfl) Try.func3 (by kernel_rfl)
    (of_decide_eq_true (by kernel_rfl)) (by unfold Func.isWrapper; first | (rw [if_pos (by decide +kernel)]; kernel_rfl) | (rw [if_neg (by decide +kernel)]; exact ⟨rfl, rfl⟩))
    (fun os started H enc _ => lifted os started H enc)

/-- The statement. -/
theorem proved : Rows.FnExactCutsOfSaid :=
  over
#print axioms proved
end Go.Proofs.Ytlplfpoggifadaa.fnExactCutsOf
