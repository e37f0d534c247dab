/-
  The Go function laws.FnExactTotalCut returns true for every input and leaves its arguments as they were; no condition.
  By an AI agent.
-/
import Derived.Test.YtfekgafcbohmeaaRows
import Derived.WalkKit
import Derived.ProofKit
import Derived.OpenShut
import Derived.Carry
import Derived.ChangeOld
import Derived.Below
import Derived.Lib.SmallJoins
import Derived.Deep.Slices
import Derived.Deep.Fields
import Derived.Lib.Hide
import Derived.Test.YtfekgafcbohmeaaBase
import Derived.Test.YtfekgafcbohmeaaCutS
import Derived.Test.YtfekgafcbohmeaaCutT
import Derived.Test.YtfekgafcbohmeaaCutE
namespace Go.Proofs.Ytfekgafcbohmeaa.fnExactTotalCut
open Go.Proofs.Ytfekgafcbohmeaa Go.ChangeShapes Go.WideShapes Go.ChangeAt Go.RowKit Go.Joins Go.Deep

set_option linter.unusedVariables false

theorem own : ownKnob Try.prog.godebug = none := by kernel_rfl
theorem laidOut : laidOutB Try.prog = true := by kernel_rfl



set_option maxHeartbeats 1000000 in
theorem walk (w : World) (x0 : DS_Cut) (w0 : x0.good w) :
    Calls Try.prog 14 #[x0.val] w fun e w' => e = .returned (.bool true) ∧ Below w.heap.size w w' := by
  obtain ⟨a, n, c, ps⟩ := x0
  obtain ⟨hl, _, hmx, hP⟩ := w0
  simp only [DS_Cut.val]
  simp only at hl hmx hP
  unfold maxLen at hmx

  by_cases hm : n ≤ 1048576
  · have HP := Lib.hid hP
    have HL := Lib.hid hl
    clear hP hl
    go_enter Try.func14, Try.ntmps14
    go_wp2_with (first | (go_at_call 43; go_in))
    refine (toCutS_any a n c ps _ HL.out hm HP.out).mono ?_
    rintro e w1 ⟨g1, rfl, hg1, R1, B1⟩
    have R1 := Lib.hid R1
    have B1 := Lib.hid B1
    go_wp2_with fail
    refine (sTotalCut_any _ _ _ _ _ HL.out hm R1.out).mono ?_
    rintro e w2 ⟨rfl, b2⟩
    have B2 := Lib.hid (B1.out.trans (b2.mono B1.out.size))
    clear b2 B1 R1
    go_wp2_with fail
    refine (toCutS_any a n c ps _ HL.out hm (CArg_below HL.out HP.out B2.out)).mono ?_
    rintro e w3 ⟨g3, rfl, hg3, R3, b3⟩
    have R3 := Lib.hid R3
    have B3 := Lib.hid (B2.out.trans (b3.mono B2.out.size))
    clear b3 B2
    go_wp2_with fail
    refine (iTotalCut_any _ _ _ _ _ HL.out hm R3.out).mono ?_
    rintro e w4 ⟨rfl, b4⟩
    have R4 := Lib.hid (R3.out.below b4 R3.out.lt)
    have B4 := Lib.hid (B3.out.trans (b4.mono B3.out.size))
    clear b4 B3 R3
    go_wp2_with fail
    refine (toCutS_any a n c ps _ HL.out hm (CArg_below HL.out HP.out B4.out)).mono ?_
    rintro e w5 ⟨g5, rfl, hg5, R5, b5⟩
    have R5 := Lib.hid R5
    have R6 := Lib.hid (R4.out.below b5 R4.out.lt)
    have B5 := Lib.hid (B4.out.trans (b5.mono B4.out.size))
    clear b5 B4 R4
    go_wp2_with fail
    refine (eqCutS_same _ _ _ _ _ _ _ HL.out hm R6.out R5.out).mono ?_
    rintro e w6 ⟨rfl, b6⟩
    have B6 := Lib.hid (B5.out.trans (b6.mono B5.out.size))
    clear b6 B5 R5 R6
    go_wp2_with fail
    go_ret
    exact ⟨rfl, B6.out⟩
  · go_enter Try.func14, Try.ntmps14
    go_wp2_with (first | (go_at_call 43; go_in))
    go_ret
    exact ⟨rfl, Below.refl _ _⟩

set_option maxRecDepth 100000 in
theorem lifted (os : Os) (started : os.Started) (H : Type) (enc : TypeId × Value → H) :
    ReturnsInHanded {} Try.checked os 14 .any (Rows.fnExactTotalCutSpec.pre6 enc Try.prog Try.f14 Rows.fnExactTotalCutRow.domain false) (Rows.fnExactTotalCutSpec.post enc Try.prog Try.f14 false true false false) := by
  refine returnsInHanded_of_change (C := Try.checked) own started (by kernel_rfl) Try.func14
    (ChangeSpec.witness6 (enc := enc) (C := Try.checked) false ⟨#[], #[.slice none 0 0], []⟩ 8 (by kernel_rfl) (by kernel_rfl) (by kernel_rfl) (by kernel_rfl)) ?_
  intro W base args ds gs before hval0 hW hcnd _
  have hval : ∀ (j : Nat) t v, Try.f14.params[j]? = some t → args[j]? = some v → Value.okWide Try.prog W .any base t v := hval0
  have hW' := hW
  obtain ⟨p, q, hA0, hV, rfl, hfz, hnd⟩ := hW
  have hA : DataW.TrodAll enc Try.prog W 0 (fun _ => true) true Try.f14.params.toList args.toList ds p := hA0
  rw [Try.params14] at hA hval
  obtain ⟨v0, vs0, d0, ds0, p0, q0, hargs, rfl, rfl, h0, r0⟩ := trodAll_cons hA
  obtain ⟨rfl, rfl, rfl⟩ := trodAll_nil r0
  obtain rfl : args = #[v0] := by cases args; simp_all
  obtain ⟨rfl, rfl⟩ := trodVars_none hV
  have k0 := h0
  have lt0 : ∀ x ∈ p0, x.block < W.heap.size := by obtain ⟨m, hm⟩ := k0; exact DataW.trod_lt m _ _ _ hm
  obtain ⟨x0, rfl, w0⟩ := open_S_Cut (hval 0 54 v0 rfl rfl) h0
  clear hA0 hval0
  refine (walk W x0 w0).mono fun e W' ⟨he, bel⟩ => ?_
  subst he
  exact ⟨_, rfl, _, _, _, [], _, [], hW', trodAll_mk1 (shut_bool Try.underlying4 _), (trodAll_cons_mk (Below.trod laidOut (by kernel_rfl) (of_decide_eq_true (by kernel_rfl)) k0 bel lt0) trodAll_mk0), rfl, bel.frame _, fun h => by cases h⟩

theorem over : Rows.fnExactTotalCutRow.holds Try.pinned (OpenSpec.ofChange Rows.fnExactTotalCutSpec) :=
  OpenClaim.holds_of_wide 14 Try.f14 rfl rfl rfl rfl rfl rfl rfl ⟨rfl, rfl, rfl, rfl, rfl⟩ rfl rfl rfl rfl rfl (by kernel_rfl) Try.func14 (by kernel_rfl)
    (of_decide_eq_true (by kernel_rfl)) (by unfold Func.isWrapper; first | (rw [if_pos (by decide +kernel)]; kernel_rfl) | (rw [if_neg (by decide +kernel)]; exact ⟨rfl, rfl⟩))
    (fun os started H enc _ => lifted os started H enc)

/-- The statement. -/
theorem proved : Rows.FnExactTotalCutSaid :=
  over
#print axioms proved
end Go.Proofs.Ytfekgafcbohmeaa.fnExactTotalCut
