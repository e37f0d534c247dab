/-
  The Go function laws.FnExactWayOf returns true for every input and leaves its arguments as they were; no condition.
  By an AI agent.
-/
import Derived.Test.YteghmdfiofbmiaaRows
import Derived.WalkKit
import Derived.ProofKit
import Derived.OpenShut
import Derived.Carry
import Derived.ChangeOld
import Derived.Below
import Derived.Lib.SmallJoins
import Derived.Deep.Slices
import Derived.Deep.Fields
import Derived.Lib.Hide
import Derived.Test.YteghmdfiofbmiaaWayI
import Derived.Test.YteghmdfiofbmiaaCutE
namespace Go.Proofs.Yteghmdfiofbmiaa.fnExactWayOf
open Go.Proofs.Yteghmdfiofbmiaa Go.ChangeShapes Go.WideShapes Go.ChangeAt Go.RowKit Go.Joins Go.Deep

set_option linter.unusedVariables false
set_option maxRecDepth 100000

theorem own : ownKnob Try.prog.godebug = none := by kernel_rfl
theorem laidOut : laidOutB Try.prog = true := by kernel_rfl



set_option maxHeartbeats 1600000 in
theorem walk (w : World) (x0 : DS_Cut) (w0 : x0.good w) (a1 : Option Addr) (l1 c1 : Nat) (z1 : List Int) (w1 : IsRow .i64 w a1 l1 c1 z1) :
    Calls Try.prog 6 #[x0.val, .slice a1 l1 c1] w fun e w' => e = .returned (.bool true) ∧ Below w.heap.size w w' := by
  obtain ⟨a, n, c, ps⟩ := x0
  obtain ⟨hl, _, hmx, hP⟩ := w0
  simp only [DS_Cut.val]
  simp only at hl hmx hP
  unfold maxLen at hmx
  obtain ⟨hmx1, zs, hl1, hA⟩ := w1.arg
  unfold maxLen at hmx1
  clear w1
  by_cases hm1 : l1 ≤ 1048576
  · by_cases hm : n ≤ 1048576
    · have HP := Lib.hid hP
      have HL := Lib.hid hl
      have HJ := Lib.hid hA
      have HL1 := Lib.hid hl1
      clear hP hl hA hl1
      go_enter Try.func6, Try.ntmps6
      go_wp2_with (first | (go_at_call 28; go_in))
      refine (toCutS_any a n c ps _ HL.out hm HP.out).mono ?_
      rintro e w1 ⟨gA, rfl, hA, rA, b1⟩
      have HA := Lib.hid (hA)
      have RA := Lib.hid rA
      clear hA rA
      have B1 := Lib.hid b1
      clear b1
      go_wp2_with fail
      refine (toIntS_any a1 l1 c1 zs _ hm1 (HJ.out.below B1.out)).mono ?_
      rintro e w2 ⟨gO, rfl, hO, rO, b2⟩
      have neAO := Lib.hid (Nat.ne_of_lt (Nat.lt_of_lt_of_le RA.out.lt hO))
      have HO := Lib.hid (Nat.le_trans B1.out.size hO)
      replace RA := Lib.hid (RA.out.below b2 RA.out.lt)
      have RO := Lib.hid rO
      clear hO rO
      have B2 := Lib.hid (B1.out.trans (b2.mono B1.out.size))
      clear b2 B1
      go_wp2_with fail
      refine (sWayOf_any _ _ _ ps _ _ _ zs _ HL.out hm RA.out HL1.out hm1 (.of_row RO.out)).mono ?_
      rintro e w3 ⟨rfl, b3⟩
      replace RA := Lib.hid (RA.out.below b3 RA.out.lt)
      replace RO := Lib.hid (RO.out.below b3 RO.out.lt)
      have B3 := Lib.hid (B2.out.trans (b3.mono B2.out.size))
      clear b3 B2
      clear RA
      clear RO
      go_wp2_with fail
      refine (toCutS_any a n c ps _ HL.out hm (CArg_below HL.out HP.out B3.out)).mono ?_
      rintro e w4 ⟨gX, rfl, hX, rX, b4⟩
      have HX := Lib.hid (Nat.le_trans B3.out.size hX)
      have RX := Lib.hid rX
      clear hX rX
      have B4 := Lib.hid (B3.out.trans (b4.mono B3.out.size))
      clear b4 B3
      go_wp2_with fail
      refine (toIntS_any a1 l1 c1 zs _ hm1 (HJ.out.below B4.out)).mono ?_
      rintro e w5 ⟨gY, rfl, hY, rY, b5⟩
      have neXY := Lib.hid (Nat.ne_of_lt (Nat.lt_of_lt_of_le RX.out.lt hY))
      have HY := Lib.hid (Nat.le_trans B4.out.size hY)
      replace RX := Lib.hid (RX.out.below b5 RX.out.lt)
      have RY := Lib.hid rY
      clear hY rY
      have B5 := Lib.hid (B4.out.trans (b5.mono B4.out.size))
      clear b5 B4
      go_wp2_with fail
      refine (iWayOf_any _ _ _ ps _ _ _ zs _ HL.out hm RX.out HL1.out hm1 (.of_row RY.out)).mono ?_
      rintro e w6 ⟨rfl, b6⟩
      replace RX := Lib.hid (RX.out.below b6 RX.out.lt)
      replace RY := Lib.hid (RY.out.below b6 RY.out.lt)
      have B6 := Lib.hid (B5.out.trans (b6.mono B5.out.size))
      clear b6 B5
      generalize wayOf ps zs = r
      have er : (r != r) = false := by simp
      go_wp2_with fail
      refine (toCutS_any a n c ps _ HL.out hm (CArg_below HL.out HP.out B6.out)).mono ?_
      rintro e w7 ⟨gZ, rfl, hZ, rZ, b7⟩
      have neXZ := Lib.hid (Nat.ne_of_lt (Nat.lt_of_lt_of_le RX.out.lt hZ))
      have neYZ := Lib.hid (Nat.ne_of_lt (Nat.lt_of_lt_of_le RY.out.lt hZ))
      have HZ := Lib.hid (Nat.le_trans B6.out.size hZ)
      replace RX := Lib.hid (RX.out.below b7 RX.out.lt)
      replace RY := Lib.hid (RY.out.below b7 RY.out.lt)
      have RZ := Lib.hid rZ
      clear hZ rZ
      have B7 := Lib.hid (B6.out.trans (b7.mono B6.out.size))
      clear b7 B6
      go_wp2_with fail
      refine (eqCutS_same _ _ _ _ _ _ _ HL.out hm RX.out RZ.out).mono ?_
      rintro e w8 ⟨rfl, b8⟩
      replace RX := Lib.hid (RX.out.below b8 RX.out.lt)
      replace RY := Lib.hid (RY.out.below b8 RY.out.lt)
      replace RZ := Lib.hid (RZ.out.below b8 RZ.out.lt)
      have B8 := Lib.hid (B7.out.trans (b8.mono B7.out.size))
      clear b8 B7
      clear RZ
      go_wp2_with fail
      refine (toIntS_any a1 l1 c1 zs _ hm1 (HJ.out.below B8.out)).mono ?_
      rintro e w9 ⟨gV, rfl, hV, rV, b9⟩
      have neXV := Lib.hid (Nat.ne_of_lt (Nat.lt_of_lt_of_le RX.out.lt hV))
      have neYV := Lib.hid (Nat.ne_of_lt (Nat.lt_of_lt_of_le RY.out.lt hV))
      have HV := Lib.hid (Nat.le_trans B8.out.size hV)
      replace RX := Lib.hid (RX.out.below b9 RX.out.lt)
      replace RY := Lib.hid (RY.out.below b9 RY.out.lt)
      have RV := Lib.hid rV
      clear hV rV
      have B9 := Lib.hid (B8.out.trans (b9.mono B8.out.size))
      clear b9 B8
      go_wp2_with fail
      refine (eqIntS_same _ _ _ _ _ zs _ hm1 (.of_row RY.out) (.of_row RV.out)).mono ?_
      rintro e w10 ⟨rfl, b10⟩
      replace RX := Lib.hid (RX.out.below b10 RX.out.lt)
      replace RY := Lib.hid (RY.out.below b10 RY.out.lt)
      replace RV := Lib.hid (RV.out.below b10 RV.out.lt)
      have B10 := Lib.hid (B9.out.trans (b10.mono B9.out.size))
      clear b10 B9
      go_wp2_with fail
      go_ret
      exact ⟨rfl, B10.out⟩
    · go_enter Try.func6, Try.ntmps6
      go_wp2_with (first | (go_at_call 28; go_in))
      go_ret
      exact ⟨rfl, Below.refl _ _⟩
  · go_enter Try.func6, Try.ntmps6
    go_wp2_with fail
    go_ret
    exact ⟨rfl, Below.refl _ _⟩

set_option maxRecDepth 100000 in
theorem lifted (os : Os) (started : os.Started) (H : Type) (enc : TypeId × Value → H) :
    ReturnsInHanded {} Try.checked os 6 .any (Rows.fnExactWayOfSpec.pre6 enc Try.prog Try.f6 Rows.fnExactWayOfRow.domain false) (Rows.fnExactWayOfSpec.post enc Try.prog Try.f6 false true false false) := by
  refine returnsInHanded_of_change (C := Try.checked) own started (by kernel_rfl) Try.func6
    (ChangeSpec.witness6 (enc := enc) (C := Try.checked) false ⟨#[], #[.slice none 0 0, .slice none 0 0], []⟩ 8 (by kernel_rfl) (by kernel_rfl) (by kernel_rfl) (by kernel_rfl)) ?_
  intro W base args ds gs before hval0 hW hcnd _
  have hval : ∀ (j : Nat) t v, Try.f6.params[j]? = some t → args[j]? = some v → Value.okWide Try.prog W .any base t v := hval0
  have hW' := hW
  obtain ⟨p, q, hA0, hV, rfl, hfz, hnd⟩ := hW
  have hA : DataW.TrodAll enc Try.prog W 0 (fun _ => true) true Try.f6.params.toList args.toList ds p := hA0
  rw [Try.params6] at hA hval
  obtain ⟨v0, vs0, d0, ds0, p0, q0, hargs, rfl, rfl, h0, r0⟩ := trodAll_cons hA
  obtain ⟨v1, vs1, d1, ds1, p1, q1, rfl, rfl, rfl, h1, r1⟩ := trodAll_cons r0
  obtain ⟨rfl, rfl, rfl⟩ := trodAll_nil r1
  obtain rfl : args = #[v0, v1] := by cases args; simp_all
  obtain ⟨rfl, rfl⟩ := trodVars_none hV
  have k0 := h0
  have lt0 : ∀ x ∈ p0, x.block < W.heap.size := by obtain ⟨m, hm⟩ := k0; exact DataW.trod_lt m _ _ _ hm
  have k1 := h1
  have lt1 : ∀ x ∈ p1, x.block < W.heap.size := by obtain ⟨m, hm⟩ := k1; exact DataW.trod_lt m _ _ _ hm
  obtain ⟨x0, rfl, w0⟩ := open_S_Cut (hval 0 42 v0 rfl rfl) h0
  obtain ⟨a1, l1, c1, z1, rfl, w1⟩ := open_introw (hval 1 22 v1 rfl rfl) h1
  clear hA0 hval0
  refine (walk W x0 w0 a1 l1 c1 z1 w1).mono fun e W' ⟨he, bel⟩ => ?_
  subst he
  exact ⟨_, rfl, _, _, _, [], _, [], hW', trodAll_mk1 (shut_bool Try.underlying4 _), (trodAll_cons_mk (Below.trod laidOut (by kernel_rfl) (of_decide_eq_true (by kernel_rfl)) k0 bel lt0) (trodAll_cons_mk (Below.trod laidOut (by kernel_rfl) (of_decide_eq_true (by kernel_rfl)) k1 bel lt1) trodAll_mk0)), rfl, bel.frame _, fun h => by cases h⟩

theorem over : Rows.fnExactWayOfRow.holds Try.pinned (OpenSpec.ofChange Rows.fnExactWayOfSpec) :=
  OpenClaim.holds_of_wide 6 Try.f6 rfl rfl rfl rfl rfl rfl rfl ⟨rfl, rfl, rfl, rfl, rfl⟩ rfl rfl rfl rfl rfl (by kernel_rfl) Try.func6 (by kernel_rfl)
    (of_decide_eq_true (by kernel_rfl)) (by unfold Func.isWrapper; first | (rw [if_pos (by decide +kernel)]; kernel_rfl) | (rw [if_neg (by decide +kernel)]; exact ⟨rfl, rfl⟩))
    (fun os started H enc _ => lifted os started H enc)

/-- The statement. -/
theorem proved : Rows.FnExactWayOfSaid :=
  over
#print axioms proved
end Go.Proofs.Yteghmdfiofbmiaa.fnExactWayOf
