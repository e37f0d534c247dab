/-
  The Go function laws.FnExactUsePaper returns true for every input and leaves its arguments as they were; no condition.
  By an AI agent.
-/
import Derived.Test.YtfekgafcbohmeaaRows
import Derived.WalkKit
import Derived.ProofKit
import Derived.OpenShut
import Derived.Carry
import Derived.ChangeOld
import Derived.Below
import Derived.Lib.SmallJoins
import Derived.Deep.Slices
import Derived.Deep.Fields
import Derived.Lib.Hide
import Derived.Test.YtfekgafcbohmeaaBase
import Derived.Test.YtfekgafcbohmeaaPaperS
import Derived.Test.YtfekgafcbohmeaaPaperE
import Derived.Test.YtfekgafcbohmeaaPaperU
import Derived.Test.YtfekgafcbohmeaaPaperM
namespace Go.Proofs.Ytfekgafcbohmeaa.fnExactUsePaper
open Go.Proofs.Ytfekgafcbohmeaa Go.ChangeShapes Go.WideShapes Go.ChangeAt Go.RowKit Go.Joins Go.Deep

set_option linter.unusedVariables false

theorem own : ownKnob Try.prog.godebug = none := by kernel_rfl
theorem laidOut : laidOutB Try.prog = true := by kernel_rfl



set_option maxHeartbeats 1600000 in
theorem walk (w : World) (x0 : DS_Paper) (w0 : x0.good w) (a1 : Int) (w1 : (Lit.int .i64 a1).wf = true) (a2 : Int) (w2 : (Lit.int .i64 a2).wf = true) :
    Calls Try.prog 13 #[x0.val, .int .i64 a1, .int .i64 a2] w fun e w' => e = .returned (.bool true) ∧ Below w.heap.size w w' := by
  obtain ⟨a, n, c, ps⟩ := x0
  obtain ⟨hl, _, hmx, hP⟩ := w0
  simp only [DS_Paper.val]
  simp only at hl hmx hP
  unfold maxLen at hmx
  clear w1 w2
  by_cases hm : n ≤ 1048576
  · have HP := Lib.hid hP
    have HL := Lib.hid hl
    have HU : Hid ((useP ps a1 a2).length = n) := Lib.hid ((useP_length ps a1 a2).trans hl)
    clear hP hl
    go_enter Try.func13, Try.ntmps13
    go_wp2_with (first | (go_at_call 32; go_in))
    refine (toPaperS_any a n c ps _ HL.out hm HP.out).mono ?_
    rintro e w1 ⟨gA, rfl, hA, rA, b1⟩
    have HA := Lib.hid (hA)
    have RA := Lib.hid rA
    clear hA rA
    have B1 := Lib.hid b1
    clear b1
    go_wp2_with fail
    refine (sUsePaper_any _ _ _ _ _ _ _ HL.out hm RA.out).mono ?_
    rintro e w2 ⟨gW, cW, rfl, hW, rW, b2⟩
    have neAW := Lib.hid (Nat.ne_of_lt (Nat.lt_of_lt_of_le RA.out.lt hW))
    have HW := Lib.hid (Nat.le_trans B1.out.size hW)
    replace RA := Lib.hid (RA.out.below b2 RA.out.lt)
    have RW := Lib.hid rW
    clear hW rW
    have B2 := Lib.hid (B1.out.trans (b2.mono B1.out.size))
    clear b2 B1
    clear RA
    go_wp2_with fail
    refine (toPaperS_any a n c ps _ HL.out hm (PArg_below HL.out HP.out B2.out)).mono ?_
    rintro e w3 ⟨gX, rfl, hX, rX, b3⟩
    have neWX := Lib.hid (Nat.ne_of_lt (Nat.lt_of_lt_of_le RW.out.lt hX))
    have HX := Lib.hid (Nat.le_trans B2.out.size hX)
    replace RW := Lib.hid (RW.out.below b3 RW.out.lt)
    have RX := Lib.hid rX
    clear hX rX
    have B3 := Lib.hid (B2.out.trans (b3.mono B2.out.size))
    clear b3 B2
    go_wp2_with fail
    refine (iUsePaper_any _ _ _ _ _ _ _ HL.out hm RX.out).mono ?_
    rintro e w4 ⟨gG, cG, rfl, hG, rG, b4⟩
    have neWG := Lib.hid (Nat.ne_of_lt (Nat.lt_of_lt_of_le RW.out.lt hG))
    have neXG := Lib.hid (Nat.ne_of_lt (Nat.lt_of_lt_of_le RX.out.lt hG))
    have HG := Lib.hid (Nat.le_trans B3.out.size hG)
    replace RW := Lib.hid (RW.out.below b4 RW.out.lt)
    replace RX := Lib.hid (RX.out.below b4 RX.out.lt)
    have RG := Lib.hid rG
    clear hG rG
    have B4 := Lib.hid (B3.out.trans (b4.mono B3.out.size))
    clear b4 B3
    go_wp2_with fail
    refine (eqPaperS_same _ _ _ _ _ _ _ HU.out hm RG.out RW.out).mono ?_
    rintro e w5 ⟨rfl, b5⟩
    replace RW := Lib.hid (RW.out.below b5 RW.out.lt)
    replace RX := Lib.hid (RX.out.below b5 RX.out.lt)
    replace RG := Lib.hid (RG.out.below b5 RG.out.lt)
    have B5 := Lib.hid (B4.out.trans (b5.mono B4.out.size))
    clear b5 B4
    go_wp2_with fail
    refine (toPaperS_any a n c ps _ HL.out hm (PArg_below HL.out HP.out B5.out)).mono ?_
    rintro e w6 ⟨gY, rfl, hY, rY, b6⟩
    have neWY := Lib.hid (Nat.ne_of_lt (Nat.lt_of_lt_of_le RW.out.lt hY))
    have neXY := Lib.hid (Nat.ne_of_lt (Nat.lt_of_lt_of_le RX.out.lt hY))
    have neGY := Lib.hid (Nat.ne_of_lt (Nat.lt_of_lt_of_le RG.out.lt hY))
    have HY := Lib.hid (Nat.le_trans B5.out.size hY)
    replace RW := Lib.hid (RW.out.below b6 RW.out.lt)
    replace RX := Lib.hid (RX.out.below b6 RX.out.lt)
    replace RG := Lib.hid (RG.out.below b6 RG.out.lt)
    have RY := Lib.hid rY
    clear hY rY
    have B6 := Lib.hid (B5.out.trans (b6.mono B5.out.size))
    clear b6 B5
    go_wp2_with fail
    refine (eqPaperS_same _ _ _ _ _ _ _ HL.out hm RX.out RY.out).mono ?_
    rintro e w7 ⟨rfl, b7⟩
    replace RW := Lib.hid (RW.out.below b7 RW.out.lt)
    replace RX := Lib.hid (RX.out.below b7 RX.out.lt)
    replace RG := Lib.hid (RG.out.below b7 RG.out.lt)
    replace RY := Lib.hid (RY.out.below b7 RY.out.lt)
    have B7 := Lib.hid (B6.out.trans (b7.mono B6.out.size))
    clear b7 B6
    clear RY
    go_wp2_with fail
    refine (markPaperS_any _ _ _ 1 _ _ (by omega) (by omega) hm RX.out).mono ?_
    rintro e w8 ⟨rfl, m8, o8⟩
    replace RW := Lib.hid (o8.row RW.out neWX.out)
    replace RX := Lib.hid m8
    replace RG := Lib.hid (o8.row RG.out (Ne.symm neXG.out))
    clear m8
    have b8 := o8.below (HX.out)
    clear o8
    have B8 := Lib.hid (B7.out.trans b8)
    clear b8 B7
    go_wp2_with fail
    refine (eqPaperS_same _ _ _ _ _ _ _ HU.out hm RG.out RW.out).mono ?_
    rintro e w9 ⟨rfl, b9⟩
    replace RW := Lib.hid (RW.out.below b9 RW.out.lt)
    replace RX := Lib.hid (RX.out.below b9 RX.out.lt)
    replace RG := Lib.hid (RG.out.below b9 RG.out.lt)
    have B9 := Lib.hid (B8.out.trans (b9.mono B8.out.size))
    clear b9 B8
    go_wp2_with fail
    refine (markPaperS_any _ _ _ 1 _ _ (by omega) (by omega) hm RG.out).mono ?_
    rintro e w10 ⟨rfl, m10, o10⟩
    replace RW := Lib.hid (o10.row RW.out neWG.out)
    replace RX := Lib.hid (o10.row RX.out neXG.out)
    replace RG := Lib.hid m10
    clear m10
    have b10 := o10.below (HG.out)
    clear o10
    have B10 := Lib.hid (B9.out.trans b10)
    clear b10 B9
    go_wp2_with fail
    refine (heldPaperS_any _ _ _ 1 _ (by omega) (by omega) hm RG.out).mono ?_
    rintro e w11 ⟨rfl, rfl⟩
    go_wp2_with fail
    refine (toPaperS_any a n c ps _ HL.out hm (PArg_below HL.out HP.out B10.out)).mono ?_
    rintro e w12 ⟨gZ, rfl, hZ, rZ, b12⟩
    have neWZ := Lib.hid (Nat.ne_of_lt (Nat.lt_of_lt_of_le RW.out.lt hZ))
    have neXZ := Lib.hid (Nat.ne_of_lt (Nat.lt_of_lt_of_le RX.out.lt hZ))
    have neGZ := Lib.hid (Nat.ne_of_lt (Nat.lt_of_lt_of_le RG.out.lt hZ))
    have HZ := Lib.hid (Nat.le_trans B10.out.size hZ)
    replace RW := Lib.hid (RW.out.below b12 RW.out.lt)
    replace RX := Lib.hid (RX.out.below b12 RX.out.lt)
    replace RG := Lib.hid (RG.out.below b12 RG.out.lt)
    have RZ := Lib.hid rZ
    clear hZ rZ
    have B12 := Lib.hid (B10.out.trans (b12.mono B10.out.size))
    clear b12 B10
    go_wp2_with fail
    refine (iUsePaper_any _ _ _ _ _ _ _ HL.out hm RZ.out).mono ?_
    rintro e w13 ⟨gK, cK, rfl, hK, rK, b13⟩
    have neWK := Lib.hid (Nat.ne_of_lt (Nat.lt_of_lt_of_le RW.out.lt hK))
    have neXK := Lib.hid (Nat.ne_of_lt (Nat.lt_of_lt_of_le RX.out.lt hK))
    have neGK := Lib.hid (Nat.ne_of_lt (Nat.lt_of_lt_of_le RG.out.lt hK))
    have neZK := Lib.hid (Nat.ne_of_lt (Nat.lt_of_lt_of_le RZ.out.lt hK))
    have HK := Lib.hid (Nat.le_trans B12.out.size hK)
    replace RW := Lib.hid (RW.out.below b13 RW.out.lt)
    replace RX := Lib.hid (RX.out.below b13 RX.out.lt)
    replace RG := Lib.hid (RG.out.below b13 RG.out.lt)
    replace RZ := Lib.hid (RZ.out.below b13 RZ.out.lt)
    have RK := Lib.hid rK
    clear hK rK
    have B13 := Lib.hid (B12.out.trans (b13.mono B12.out.size))
    clear b13 B12
    go_wp2_with fail
    refine (eqPaperS_same _ _ _ _ _ _ _ HU.out hm RK.out RW.out).mono ?_
    rintro e w14 ⟨rfl, b14⟩
    replace RW := Lib.hid (RW.out.below b14 RW.out.lt)
    replace RX := Lib.hid (RX.out.below b14 RX.out.lt)
    replace RG := Lib.hid (RG.out.below b14 RG.out.lt)
    replace RZ := Lib.hid (RZ.out.below b14 RZ.out.lt)
    replace RK := Lib.hid (RK.out.below b14 RK.out.lt)
    have B14 := Lib.hid (B13.out.trans (b14.mono B13.out.size))
    clear b14 B13
    go_wp2_with fail
    refine (heldPaperS_any _ _ _ 1 _ (by omega) (by omega) hm RG.out).mono ?_
    rintro e w15 ⟨rfl, rfl⟩
    go_wp2_with fail
    go_ret
    exact ⟨rfl, B14.out⟩
  · go_enter Try.func13, Try.ntmps13
    go_wp2_with (first | (go_at_call 32; go_in))
    go_ret
    exact ⟨rfl, Below.refl _ _⟩

set_option maxRecDepth 100000 in
theorem lifted (os : Os) (started : os.Started) (H : Type) (enc : TypeId × Value → H) :
    ReturnsInHanded {} Try.checked os 13 .any (Rows.fnExactUsePaperSpec.pre6 enc Try.prog Try.f13 Rows.fnExactUsePaperRow.domain false) (Rows.fnExactUsePaperSpec.post enc Try.prog Try.f13 false true false false) := by
  refine returnsInHanded_of_change (C := Try.checked) own started (by kernel_rfl) Try.func13
    (ChangeSpec.witness6 (enc := enc) (C := Try.checked) false ⟨#[], #[.slice none 0 0, .int .i64 0, .int .i64 0], []⟩ 8 (by kernel_rfl) (by kernel_rfl) (by kernel_rfl) (by kernel_rfl)) ?_
  intro W base args ds gs before hval0 hW hcnd _
  have hval : ∀ (j : Nat) t v, Try.f13.params[j]? = some t → args[j]? = some v → Value.okWide Try.prog W .any base t v := hval0
  have hW' := hW
  obtain ⟨p, q, hA0, hV, rfl, hfz, hnd⟩ := hW
  have hA : DataW.TrodAll enc Try.prog W 0 (fun _ => true) true Try.f13.params.toList args.toList ds p := hA0
  rw [Try.params13] at hA hval
  obtain ⟨v0, vs0, d0, ds0, p0, q0, hargs, rfl, rfl, h0, r0⟩ := trodAll_cons hA
  obtain ⟨v1, vs1, d1, ds1, p1, q1, rfl, rfl, rfl, h1, r1⟩ := trodAll_cons r0
  obtain ⟨v2, vs2, d2, ds2, p2, q2, rfl, rfl, rfl, h2, r2⟩ := trodAll_cons r1
  obtain ⟨rfl, rfl, rfl⟩ := trodAll_nil r2
  obtain rfl : args = #[v0, v1, v2] := by cases args; simp_all
  obtain ⟨rfl, rfl⟩ := trodVars_none hV
  have k0 := h0
  have lt0 : ∀ x ∈ p0, x.block < W.heap.size := by obtain ⟨m, hm⟩ := k0; exact DataW.trod_lt m _ _ _ hm
  have k1 := h1
  have lt1 : ∀ x ∈ p1, x.block < W.heap.size := by obtain ⟨m, hm⟩ := k1; exact DataW.trod_lt m _ _ _ hm
  have k2 := h2
  have lt2 : ∀ x ∈ p2, x.block < W.heap.size := by obtain ⟨m, hm⟩ := k2; exact DataW.trod_lt m _ _ _ hm
  obtain ⟨x0, rfl, w0⟩ := open_S_Paper (hval 0 42 v0 rfl rfl) h0
  obtain ⟨a1, rfl, rfl, rfl, w1⟩ := open_int Try.underlying3 (hval 1 3 v1 rfl rfl) h1
  obtain ⟨a2, rfl, rfl, rfl, w2⟩ := open_int Try.underlying3 (hval 2 3 v2 rfl rfl) h2
  clear hA0 hval0
  refine (walk W x0 w0 a1 w1 a2 w2).mono fun e W' ⟨he, bel⟩ => ?_
  subst he
  exact ⟨_, rfl, _, _, _, [], _, [], hW', trodAll_mk1 (shut_bool Try.underlying4 _), (trodAll_cons_mk (Below.trod laidOut (by kernel_rfl) (of_decide_eq_true (by kernel_rfl)) k0 bel lt0) (trodAll_cons_mk (Below.trod laidOut (by kernel_rfl) (of_decide_eq_true (by kernel_rfl)) k1 bel lt1) (trodAll_cons_mk (Below.trod laidOut (by kernel_rfl) (of_decide_eq_true (by kernel_rfl)) k2 bel lt2) trodAll_mk0))), rfl, bel.frame _, fun h => by cases h⟩

theorem over : Rows.fnExactUsePaperRow.holds Try.pinned (OpenSpec.ofChange Rows.fnExactUsePaperSpec) :=
  OpenClaim.holds_of_wide 13 Try.f13 rfl rfl rfl rfl rfl rfl rfl ⟨rfl, rfl, rfl, rfl, rfl⟩ rfl rfl rfl rfl rfl (by kernel_rfl) Try.func13 (by kernel_rfl)
    (of_decide_eq_true (by kernel_rfl)) (by unfold Func.isWrapper; first | (rw [if_pos (by decide +kernel)]; kernel_rfl) | (rw [if_neg (by decide +kernel)]; exact ⟨rfl, rfl⟩))
    (fun os started H enc _ => lifted os started H enc)

/-- The statement. -/
theorem proved : Rows.FnExactUsePaperSaid :=
  over
#print axioms proved
end Go.Proofs.Ytfekgafcbohmeaa.fnExactUsePaper
