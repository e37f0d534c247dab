/-
  The Go function laws.FnExactCardsIn returns true for every input and leaves its arguments as they were; no condition.
  By an AI agent.
-/
import Derived.Test.YtkmegaaaekbmaaaRows
import Derived.WalkKit
import Derived.ProofKit
import Derived.OpenShut
import Derived.Carry
import Derived.ChangeOld
import Derived.Below
import Derived.Lib.SmallJoins
import Derived.Deep.Slices
import Derived.Deep.Fields
import Derived.Lib.Hide
import Derived.Test.YtkmegaaaekbmaaaBookC
namespace Go.Proofs.Ytkmegaaaekbmaaa.fnExactCardsIn
open Go.Proofs.Ytkmegaaaekbmaaa Go.ChangeShapes Go.WideShapes Go.ChangeAt Go.RowKit Go.Joins Go.Deep

set_option linter.unusedVariables false
set_option maxRecDepth 100000

theorem own : ownKnob Try.prog.godebug = none := by kernel_rfl
theorem laidOut : laidOutB Try.prog = true := by kernel_rfl



set_option maxHeartbeats 1600000 in
theorem walk (w : World) (a0 : Int) (w0 : (Lit.int .i64 a0).wf = true) (x1 : DS_Card) (w1 : x1.good w) (a2 : Int) (w2 : (Lit.int .i64 a2).wf = true) :
    Calls Try.prog 8 #[.int .i64 a0, x1.val, .int .i64 a2] w fun e w' => e = .returned (.bool true) ∧ Below w.heap.size w w' := by
  obtain ⟨a, n, c, xs⟩ := x1
  obtain ⟨hl, hmx, hfit, hA⟩ := w1
  simp only [DS_Card.val]
  simp only at hl hmx hfit hA
  unfold maxLen at hmx
  have HA := Lib.hid hA
  have HL := Lib.hid hl
  have HF := Lib.hid hfit
  clear hA hl hfit
  by_cases hm : (n : Int) + sumCard xs n ≤ 1048576
  · have hn : n ≤ 1048576 := by omega
    have HM : Hid (∀ i, i < n → (xs.getD i default).modest) := Lib.hid (by
      intro i hi
      have h1 := bulkCard_le xs hi
      unfold bulkCard at h1
      exact ⟨(HF.out i hi).1, by omega⟩)
    have HN : Hid (∀ i, i < n → (xs.getD i default).n ≤ 1048576) := Lib.hid (fun i hi => by have := (HM.out i hi).2; omega)
    go_enter Try.func8, Try.ntmps8
    go_wp2_with fail
    refine (szCardS_ok a n c xs 1048576 _ (by omega) hm HA.out).mono ?_
    rintro e w1 ⟨rfl, b1⟩
    have B1 := Lib.hid (b1)
    clear b1
    go_wp2_with fail
    refine (toCardS_any a n c xs _ hn HN.out (HA.out.below B1.out)).mono ?_
    rintro e w2 ⟨gA, rfl, hA, rA, b2⟩
    have RA := Lib.hid (rA)
    have B2 := Lib.hid (B1.out.trans (b2.mono B1.out.size))
    clear b2 B1
    go_wp2_with fail
    refine (sCardsIn_any a0 gA n n xs a2 _ HL.out hn HM.out RA.out w0).mono ?_
    rintro e w3 ⟨rfl, b3⟩
    replace RA := Lib.hid (RA.out.below b3)
    have B3 := Lib.hid (B2.out.trans (b3.mono B2.out.size))
    clear b3 B2
    clear RA
    go_wp2_with fail
    refine (toCardS_any a n c xs _ hn HN.out (HA.out.below B3.out)).mono ?_
    rintro e w4 ⟨gX, rfl, hX, rX, b4⟩
    have RX := Lib.hid (rX)
    have B4 := Lib.hid (B3.out.trans (b4.mono B3.out.size))
    clear b4 B3
    go_wp2_with fail
    refine (iCardsIn_any a0 gX n n xs a2 _ HL.out hn HM.out RX.out w0).mono ?_
    rintro e w5 ⟨rfl, b5⟩
    replace RX := Lib.hid (RX.out.below b5)
    have B5 := Lib.hid (B4.out.trans (b5.mono B4.out.size))
    clear b5 B4
    generalize ciR a0 xs a2 = r
    have er : (r != r) = false := by simp
    go_wp2_with fail
    refine (toCardS_any a n c xs _ hn HN.out (HA.out.below B5.out)).mono ?_
    rintro e w6 ⟨gY, rfl, hY, rY, b6⟩
    replace RX := Lib.hid (RX.out.below b6)
    have RY := Lib.hid (rY)
    have B6 := Lib.hid (B5.out.trans (b6.mono B5.out.size))
    clear b6 B5
    go_wp2_with fail
    refine (eqCardS_same gX gY n n n xs _ hn HN.out RX.out RY.out).mono ?_
    rintro e w7 ⟨rfl, b7⟩
    replace RX := Lib.hid (RX.out.below b7)
    replace RY := Lib.hid (RY.out.below b7)
    have B7 := Lib.hid (B6.out.trans (b7.mono B6.out.size))
    clear b7 B6
    go_wp2_with fail
    go_ret
    exact ⟨rfl, B7.out⟩
  · go_enter Try.func8, Try.ntmps8
    go_wp2_with fail
    refine (szCardS_big a n c xs 1048576 _ (by omega) (by omega) hmx HF.out (by omega) HA.out).mono ?_
    rintro e w1 ⟨rfl, b1⟩
    go_wp2_with fail
    go_ret
    exact ⟨rfl, b1⟩

set_option maxRecDepth 100000 in
theorem lifted (os : Os) (started : os.Started) (H : Type) (enc : TypeId × Value → H) :
    ReturnsInHanded {} Try.checked os 8 .any (Rows.fnExactCardsInSpec.pre6 enc Try.prog Try.f8 Rows.fnExactCardsInRow.domain false) (Rows.fnExactCardsInSpec.post enc Try.prog Try.f8 false true false false) := by
  refine returnsInHanded_of_change (C := Try.checked) own started (by kernel_rfl) Try.func8
    (ChangeSpec.witness6 (enc := enc) (C := Try.checked) false ⟨#[], #[.int .i64 0, .slice none 0 0, .int .i64 0], []⟩ 8 (by kernel_rfl) (by kernel_rfl) (by kernel_rfl) (by kernel_rfl)) ?_
  intro W base args ds gs before hval0 hW hcnd _
  have hval : ∀ (j : Nat) t v, Try.f8.params[j]? = some t → args[j]? = some v → Value.okWide Try.prog W .any base t v := hval0
  have hW' := hW
  obtain ⟨p, q, hA0, hV, rfl, hfz, hnd⟩ := hW
  have hA : DataW.TrodAll enc Try.prog W 0 (fun _ => true) true Try.f8.params.toList args.toList ds p := hA0
  rw [Try.params8] at hA hval
  obtain ⟨v0, vs0, d0, ds0, p0, q0, hargs, rfl, rfl, h0, r0⟩ := trodAll_cons hA
  obtain ⟨v1, vs1, d1, ds1, p1, q1, rfl, rfl, rfl, h1, r1⟩ := trodAll_cons r0
  obtain ⟨v2, vs2, d2, ds2, p2, q2, rfl, rfl, rfl, h2, r2⟩ := trodAll_cons r1
  obtain ⟨rfl, rfl, rfl⟩ := trodAll_nil r2
  obtain rfl : args = #[v0, v1, v2] := by cases args; simp_all
  obtain ⟨rfl, rfl⟩ := trodVars_none hV
  have k0 := h0
  have lt0 : ∀ x ∈ p0, x.block < W.heap.size := by obtain ⟨m, hm⟩ := k0; exact DataW.trod_lt m _ _ _ hm
  have k1 := h1
  have lt1 : ∀ x ∈ p1, x.block < W.heap.size := by obtain ⟨m, hm⟩ := k1; exact DataW.trod_lt m _ _ _ hm
  have k2 := h2
  have lt2 : ∀ x ∈ p2, x.block < W.heap.size := by obtain ⟨m, hm⟩ := k2; exact DataW.trod_lt m _ _ _ hm
  obtain ⟨a0, rfl, rfl, rfl, w0⟩ := open_int Try.underlying3 (hval 0 3 v0 rfl rfl) h0
  obtain ⟨x1, rfl, w1⟩ := open_S_Card (hval 1 39 v1 rfl rfl) h1
  obtain ⟨a2, rfl, rfl, rfl, w2⟩ := open_int Try.underlying3 (hval 2 3 v2 rfl rfl) h2
  clear hA0 hval0
  refine (walk W a0 w0 x1 w1 a2 w2).mono fun e W' ⟨he, bel⟩ => ?_
  subst he
  exact ⟨_, rfl, _, _, _, [], _, [], hW', trodAll_mk1 (shut_bool Try.underlying4 _), (trodAll_cons_mk (Below.trod laidOut (by kernel_rfl) (of_decide_eq_true (by kernel_rfl)) k0 bel lt0) (trodAll_cons_mk (Below.trod laidOut (by kernel_rfl) (of_decide_eq_true (by kernel_rfl)) k1 bel lt1) (trodAll_cons_mk (Below.trod laidOut (by kernel_rfl) (of_decide_eq_true (by kernel_rfl)) k2 bel lt2) trodAll_mk0))), rfl, bel.frame _, fun h => by cases h⟩

theorem over : Rows.fnExactCardsInRow.holds Try.pinned (OpenSpec.ofChange Rows.fnExactCardsInSpec) :=
  OpenClaim.holds_of_wide 8 Try.f8 rfl rfl rfl rfl rfl rfl rfl ⟨rfl, rfl, rfl, rfl, rfl⟩ rfl rfl rfl rfl rfl (by kernel_rfl) Try.func8 (by kernel_rfl)
    (of_decide_eq_true (by kernel_rfl)) (by unfold Func.isWrapper; first | (rw [if_pos (by decide +kernel)]; kernel_rfl) | (rw [if_neg (by decide +kernel)]; exact ⟨rfl, rfl⟩))
    (fun os started H enc _ => lifted os started H enc)

/-- The statement. -/
theorem proved : Rows.FnExactCardsInSaid :=
  over
#print axioms proved
end Go.Proofs.Ytkmegaaaekbmaaa.fnExactCardsIn
