/-
  The Go function laws.FnExactShortestOrder returns true for every input and leaves its arguments as they were; no condition.
  By an AI agent.
-/
import Derived.Test.YtlplfpoggifadaaRows
import Derived.WalkKit
import Derived.ProofKit
import Derived.OpenShut
import Derived.Carry
import Derived.ChangeOld
import Derived.Below
import Derived.Lib.SmallJoins
import Derived.Deep.Slices
import Derived.Deep.Fields
import Derived.Lib.Hide
import Derived.Test.YtlplfpoggifadaaOrd
import Derived.Test.YtlplfpoggifadaaShS
import Derived.Test.YtlplfpoggifadaaCutM
namespace Go.Proofs.Ytlplfpoggifadaa.fnExactShortestOrder
open Go.Proofs.Ytlplfpoggifadaa Go.ChangeShapes Go.WideShapes Go.ChangeAt Go.RowKit Go.Joins Go.Deep

set_option linter.unusedVariables false
set_option maxRecDepth 100000

theorem own : ownKnob Try.prog.godebug = none := by kernel_rfl
theorem laidOut : laidOutB Try.prog = true := by kernel_rfl



set_option maxHeartbeats 3200000 in
theorem walk (w : World) (x0 : DS_Cut) (w0 : x0.good w) :
    Calls Try.prog 4 #[x0.val] w fun e w' => e = .returned (.bool true) ∧ Below w.heap.size w w' := by
  obtain ⟨a, n, c, ps⟩ := x0
  obtain ⟨hl, _, hmx, hP⟩ := w0
  simp only [DS_Cut.val]
  simp only at hl hmx hP
  unfold maxLen at hmx
  by_cases hm : n ≤ 1048576
  · have HP := Lib.hid hP
    have HL := Lib.hid hl
    clear hP hl
    go_enter Try.func4, Try.ntmps4
    go_wp2_with (first | (go_at_call 18; go_in))
    have hLm : (shR ps).length ≤ 1048576 := by have := shR_len ps; omega
    refine (toCutS_any a n c ps _ HL.out hm HP.out).mono ?_
    rintro e w1 ⟨gA, rfl, hA, rA, b1⟩
    have fA : Fresh _ (some ⟨gA, 0, none⟩) 1 := Fresh.of hA
    have sA := rA
    clear hA rA
    have FA := Lib.hid (fA)
    have RA := Lib.hid sA
    clear fA sA
    have B1 := Lib.hid b1
    clear b1
    go_wp2_with fail
    refine (sShortestOrder_any _ _ _ ps _ HL.out hm RA.out).mono ?_
    rintro e w2 ⟨aW, cW, rfl, rW, hW, b2⟩
    have fW := hW
    have sW := rW
    clear hW rW
    have apAW := Lib.hid (RA.out.apart1 fW)
    have FW := Lib.hid (fW.mono B1.out.size)
    replace RA := Lib.hid (RA.out.below b2 RA.out.lt)
    have RW := Lib.hid sW
    clear fW sW
    have B2 := Lib.hid (B1.out.trans (b2.mono B1.out.size))
    clear b2 B1
    clear RA
    go_wp2_with fail
    refine (toCutS_any a n c ps _ HL.out hm (CArg_below HL.out HP.out B2.out)).mono ?_
    rintro e w3 ⟨gX, rfl, hX, rX, b3⟩
    have fX : Fresh _ (some ⟨gX, 0, none⟩) 1 := Fresh.of hX
    have sX := rX
    clear hX rX
    have apWX := Lib.hid (RW.out.apart fX)
    have FX := Lib.hid (fX.mono B2.out.size)
    replace RW := Lib.hid (RW.out.below b3)
    have RX := Lib.hid sX
    clear fX sX
    have B3 := Lib.hid (B2.out.trans (b3.mono B2.out.size))
    clear b3 B2
    go_wp2_with fail
    refine (iShortestOrder_any _ _ _ ps _ HL.out hm RX.out).mono ?_
    rintro e w4 ⟨aG, cG, rfl, rG, hG, b4⟩
    have fG := hG
    have sG := rG
    clear hG rG
    have apWG := Lib.hid (RW.out.apart fG)
    have apXG := Lib.hid (RX.out.apart1 fG)
    have FG := Lib.hid (fG.mono B3.out.size)
    replace RW := Lib.hid (RW.out.below b4)
    replace RX := Lib.hid (RX.out.below b4 RX.out.lt)
    have RG := Lib.hid sG
    clear fG sG
    have B4 := Lib.hid (B3.out.trans (b4.mono B3.out.size))
    clear b4 B3
    go_wp2_with fail
    refine (eqIntS_same _ _ _ _ _ _ _ hLm RG.out RW.out).mono ?_
    rintro e w5 ⟨rfl, b5⟩
    replace RW := Lib.hid (RW.out.below b5)
    replace RX := Lib.hid (RX.out.below b5 RX.out.lt)
    replace RG := Lib.hid (RG.out.below b5)
    have B5 := Lib.hid (B4.out.trans (b5.mono B4.out.size))
    clear b5 B4
    go_wp2_with fail
    refine (toCutS_any a n c ps _ HL.out hm (CArg_below HL.out HP.out B5.out)).mono ?_
    rintro e w6 ⟨gY, rfl, hY, rY, b6⟩
    have fY : Fresh _ (some ⟨gY, 0, none⟩) 1 := Fresh.of hY
    have sY := rY
    clear hY rY
    have apWY := Lib.hid (RW.out.apart fY)
    have apXY := Lib.hid (RX.out.apart1 fY)
    have apGY := Lib.hid (RG.out.apart fY)
    have FY := Lib.hid (fY.mono B5.out.size)
    replace RW := Lib.hid (RW.out.below b6)
    replace RX := Lib.hid (RX.out.below b6 RX.out.lt)
    replace RG := Lib.hid (RG.out.below b6)
    have RY := Lib.hid sY
    clear fY sY
    have B6 := Lib.hid (B5.out.trans (b6.mono B5.out.size))
    clear b6 B5
    go_wp2_with fail
    refine (eqCutS_same _ _ _ _ _ _ _ HL.out hm RX.out RY.out).mono ?_
    rintro e w7 ⟨rfl, b7⟩
    replace RW := Lib.hid (RW.out.below b7)
    replace RX := Lib.hid (RX.out.below b7 RX.out.lt)
    replace RG := Lib.hid (RG.out.below b7)
    replace RY := Lib.hid (RY.out.below b7 RY.out.lt)
    have B7 := Lib.hid (B6.out.trans (b7.mono B6.out.size))
    clear b7 B6
    clear RY
    go_wp2_with fail
    refine (markCutS_any _ _ _ 1 _ _ (by omega) (by omega) hm RX.out).mono ?_
    rintro e w8 ⟨rfl, m8, o8⟩
    replace RW := Lib.hid ((Marked.ofOnly o8).keep RW.out apWX.out)
    replace RG := Lib.hid ((Marked.ofOnly o8).keep RG.out apXG.out.symm)
    replace RX := Lib.hid m8
    have b8 := (Marked.ofOnly o8).below FX.out B7.out.size
    clear m8 o8
    have B8 := Lib.hid (B7.out.trans b8)
    clear b8 B7
    clear RX
    go_wp2_with fail
    refine (eqIntS_same _ _ _ _ _ _ _ hLm RG.out RW.out).mono ?_
    rintro e w9 ⟨rfl, b9⟩
    replace RW := Lib.hid (RW.out.below b9)
    replace RG := Lib.hid (RG.out.below b9)
    have B9 := Lib.hid (B8.out.trans (b9.mono B8.out.size))
    clear b9 B8
    go_wp2_with fail
    refine (markIntS_any _ _ _ 1 _ _ (by omega) (by omega) hLm RG.out).mono ?_
    rintro e w10 ⟨rfl, m10, o10⟩
    replace RW := Lib.hid (o10.keep RW.out apWG.out)
    replace RG := Lib.hid m10
    have b10 := o10.below FG.out B9.out.size
    clear m10 o10
    have B10 := Lib.hid (B9.out.trans b10)
    clear b10 B9
    go_wp2_with fail
    refine (heldIntS_any _ _ _ 1 _ (by omega) (by omega) hLm RG.out).mono ?_
    rintro e w11 ⟨rfl, rfl⟩
    go_wp2_with fail
    refine (toCutS_any a n c ps _ HL.out hm (CArg_below HL.out HP.out B10.out)).mono ?_
    rintro e w12 ⟨gZ, rfl, hZ, rZ, b12⟩
    have fZ : Fresh _ (some ⟨gZ, 0, none⟩) 1 := Fresh.of hZ
    have sZ := rZ
    clear hZ rZ
    have apWZ := Lib.hid (RW.out.apart fZ)
    have apGZ := Lib.hid (RG.out.apart fZ)
    have FZ := Lib.hid (fZ.mono B10.out.size)
    replace RW := Lib.hid (RW.out.below b12)
    replace RG := Lib.hid (RG.out.below b12)
    have RZ := Lib.hid sZ
    clear fZ sZ
    have B12 := Lib.hid (B10.out.trans (b12.mono B10.out.size))
    clear b12 B10
    go_wp2_with fail
    refine (iShortestOrder_any _ _ _ ps _ HL.out hm RZ.out).mono ?_
    rintro e w13 ⟨aK, cK, rfl, rK, hK, b13⟩
    have fK := hK
    have sK := rK
    clear hK rK
    have apWK := Lib.hid (RW.out.apart fK)
    have apGK := Lib.hid (RG.out.apart fK)
    have apZK := Lib.hid (RZ.out.apart1 fK)
    have FK := Lib.hid (fK.mono B12.out.size)
    replace RW := Lib.hid (RW.out.below b13)
    replace RG := Lib.hid (RG.out.below b13)
    replace RZ := Lib.hid (RZ.out.below b13 RZ.out.lt)
    have RK := Lib.hid sK
    clear fK sK
    have B13 := Lib.hid (B12.out.trans (b13.mono B12.out.size))
    clear b13 B12
    go_wp2_with fail
    refine (eqIntS_same _ _ _ _ _ _ _ hLm RK.out RW.out).mono ?_
    rintro e w14 ⟨rfl, b14⟩
    replace RW := Lib.hid (RW.out.below b14)
    replace RG := Lib.hid (RG.out.below b14)
    replace RZ := Lib.hid (RZ.out.below b14 RZ.out.lt)
    replace RK := Lib.hid (RK.out.below b14)
    have B14 := Lib.hid (B13.out.trans (b14.mono B13.out.size))
    clear b14 B13
    go_wp2_with fail
    refine (heldIntS_any _ _ _ 1 _ (by omega) (by omega) hLm RG.out).mono ?_
    rintro e w15 ⟨rfl, rfl⟩
    go_wp2_with fail
    go_ret
    exact ⟨rfl, B14.out⟩
  · go_enter Try.func4, Try.ntmps4
    go_wp2_with (first | (go_at_call 18; go_in))
    go_ret
    exact ⟨rfl, Below.refl _ _⟩

set_option maxRecDepth 100000 in
theorem lifted (os : Os) (started : os.Started) (H : Type) (enc : TypeId × Value → H) :
    ReturnsInHanded {} Try.checked os 4 .any (Rows.fnExactShortestOrderSpec.pre6 enc Try.prog Try.f4 Rows.fnExactShortestOrderRow.domain false) (Rows.fnExactShortestOrderSpec.post enc Try.prog Try.f4 false true false false) := by
  refine returnsInHanded_of_change (C := Try.checked) own started (by kernel_rfl) Try.func4
    (ChangeSpec.witness6 (enc := enc) (C := Try.checked) false ⟨#[], #[.slice none 0 0], []⟩ 8 (by kernel_rfl) (by kernel_rfl) (by kernel_rfl) (by kernel_rfl)) ?_
  intro W base args ds gs before hval0 hW hcnd _
  have hval : ∀ (j : Nat) t v, Try.f4.params[j]? = some t → args[j]? = some v → Value.okWide Try.prog W .any base t v := hval0
  have hW' := hW
  obtain ⟨p, q, hA0, hV, rfl, hfz, hnd⟩ := hW
  have hA : DataW.TrodAll enc Try.prog W 0 (fun _ => true) true Try.f4.params.toList args.toList ds p := hA0
  rw [Try.params4] at hA hval
  obtain ⟨v0, vs0, d0, ds0, p0, q0, hargs, rfl, rfl, h0, r0⟩ := trodAll_cons hA
  obtain ⟨rfl, rfl, rfl⟩ := trodAll_nil r0
  obtain rfl : args = #[v0] := by cases args; simp_all
  obtain ⟨rfl, rfl⟩ := trodVars_none hV
  have k0 := h0
  have lt0 : ∀ x ∈ p0, x.block < W.heap.size := by obtain ⟨m, hm⟩ := k0; exact DataW.trod_lt m _ _ _ hm
  obtain ⟨x0, rfl, w0⟩ := open_S_Cut (hval 0 35 v0 rfl rfl) h0
  clear hA0 hval0
  refine (walk W x0 w0).mono fun e W' ⟨he, bel⟩ => ?_
  subst he
  exact ⟨_, rfl, _, _, _, [], _, [], hW', trodAll_mk1 (shut_bool Try.underlying4 _), (trodAll_cons_mk (Below.trod laidOut (by kernel_rfl) (of_decide_eq_true (by kernel_rfl)) k0 bel lt0) trodAll_mk0), rfl, bel.frame _, fun h => by cases h⟩

theorem over : Rows.fnExactShortestOrderRow.holds Try.pinned (OpenSpec.ofChange Rows.fnExactShortestOrderSpec) :=
  OpenClaim.holds_of_wide 4 Try.f4 rfl rfl rfl rfl rfl rfl rfl ⟨rfl, rfl, rfl, rfl, rfl⟩ rfl rfl rfl rfl rfl (by kernel_rfl) Try.func4 (by kernel_rfl)
    (of_decide_eq_true (by kernel_rfl)) (by unfold Func.isWrapper; first | (rw [if_pos (by decide +kernel)]; kernel_rfl) | (rw [if_neg (by decide +kernel)]; exact ⟨rfl, rfl⟩))
    (fun os started H enc _ => lifted os started H enc)

/-- The statement. -/
theorem proved : Rows.FnExactShortestOrderSaid :=
  over
#print axioms proved
end Go.Proofs.Ytlplfpoggifadaa.fnExactShortestOrder
