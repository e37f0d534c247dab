/-
  The Go function laws.FnExactBookSwells returns true for every input and leaves its arguments as they were; no condition.
  By an AI agent.
-/
import Derived.Test.YtkmegaaaekbmaaaRows
import Derived.WalkKit
import Derived.ProofKit
import Derived.OpenShut
import Derived.Carry
import Derived.ChangeOld
import Derived.Below
import Derived.Lib.SmallJoins
import Derived.Deep.Slices
import Derived.Deep.Fields
import Derived.Lib.Hide
import Derived.Test.YtkmegaaaekbmaaaBookB
namespace Go.Proofs.Ytkmegaaaekbmaaa.fnExactBookSwells
open Go.Proofs.Ytkmegaaaekbmaaa Go.ChangeShapes Go.WideShapes Go.ChangeAt Go.RowKit Go.Joins Go.Deep

set_option linter.unusedVariables false
set_option maxRecDepth 100000

theorem own : ownKnob Try.prog.godebug = none := by kernel_rfl
theorem laidOut : laidOutB Try.prog = true := by kernel_rfl



set_option maxHeartbeats 1600000 in
theorem walk (w : World) (x0 : DS_Card) (w0 : x0.good w) (a1 : Int) (w1 : (Lit.int .i64 a1).wf = true) (a2 : Int) (w2 : (Lit.int .i64 a2).wf = true) (a3 : Option Addr) (l3 c3 : Nat) (z3 : List Int) (w3 : IsRow .i64 w a3 l3 c3 z3) :
    Calls Try.prog 9 #[x0.val, .int .i64 a1, .int .i64 a2, .slice a3 l3 c3] w fun e w' => e = .returned (.bool true) ∧ Below w.heap.size w w' := by
  obtain ⟨a, n, c, xs⟩ := x0
  obtain ⟨hl, hmx, hfit, hA⟩ := w0
  simp only [DS_Card.val]
  simp only at hl hmx hfit hA
  unfold maxLen at hmx
  have HA := Lib.hid hA
  have HL := Lib.hid hl
  have HF := Lib.hid hfit
  clear hA hl hfit
  obtain ⟨hmx1, zs, hl1, hJ⟩ := w3.arg
  unfold maxLen at hmx1
  have HJ := Lib.hid hJ
  have HL1 := Lib.hid hl1
  clear w3 hJ hl1
  by_cases hm1 : l3 ≤ 1048576
  · by_cases hm : (n : Int) + sumCard xs n ≤ 1048576
    · have hn : n ≤ 1048576 := by omega
      have HM : Hid (∀ i, i < n → (xs.getD i default).modest) := Lib.hid (by
        intro i hi
        have h1 := bulkCard_le xs hi
        unfold bulkCard at h1
        exact ⟨(HF.out i hi).1, by omega⟩)
      have HN : Hid (∀ i, i < n → (xs.getD i default).n ≤ 1048576) := Lib.hid (fun i hi => by have := (HM.out i hi).2; omega)
      go_enter Try.func9, Try.ntmps9
      go_wp2_with fail
      refine (szCardS_ok a n c xs 1048576 _ (by omega) hm HA.out).mono ?_
      rintro e w1 ⟨rfl, b1⟩
      have B1 := Lib.hid (b1)
      clear b1
      go_wp2_with fail
      refine (toCardS_any a n c xs _ hn HN.out (HA.out.below B1.out)).mono ?_
      rintro e w2 ⟨gA, rfl, hA, rA, b2⟩
      have RA := Lib.hid (rA)
      have B2 := Lib.hid (B1.out.trans (b2.mono B1.out.size))
      clear b2 B1
      go_wp2_with fail
      refine (toIntS_any a3 l3 c3 zs _ hm1 (HJ.out.below B2.out)).mono ?_
      rintro e w3 ⟨gE, rfl, hE, rE, b3⟩
      replace RA := Lib.hid (RA.out.below b3)
      have RE := Lib.hid (SlR.of_row rE)
      have B3 := Lib.hid (B2.out.trans (b3.mono B2.out.size))
      clear b3 B2
      go_wp2_with fail
      refine (sBookSwells_any gA n n xs a1 a2 _ l3 _ zs _ HL.out hn HM.out RA.out HL1.out hm1 RE.out).mono ?_
      rintro e w4 ⟨rfl, b4⟩
      replace RA := Lib.hid (RA.out.below b4)
      replace RE := Lib.hid (RE.out.below b4)
      have B4 := Lib.hid (B3.out.trans (b4.mono B3.out.size))
      clear b4 B3
      clear RA
      clear RE
      go_wp2_with fail
      refine (toCardS_any a n c xs _ hn HN.out (HA.out.below B4.out)).mono ?_
      rintro e w5 ⟨gX, rfl, hX, rX, b5⟩
      have RX := Lib.hid (rX)
      have B5 := Lib.hid (B4.out.trans (b5.mono B4.out.size))
      clear b5 B4
      go_wp2_with fail
      refine (toIntS_any a3 l3 c3 zs _ hm1 (HJ.out.below B5.out)).mono ?_
      rintro e w6 ⟨gV, rfl, hV, rV, b6⟩
      replace RX := Lib.hid (RX.out.below b6)
      have RV := Lib.hid (SlR.of_row rV)
      have B6 := Lib.hid (B5.out.trans (b6.mono B5.out.size))
      clear b6 B5
      go_wp2_with fail
      refine (iBookSwells_any gX n n xs a1 a2 _ l3 _ zs _ HL.out hn HM.out RX.out HL1.out hm1 RV.out).mono ?_
      rintro e w7 ⟨rfl, b7⟩
      replace RX := Lib.hid (RX.out.below b7)
      replace RV := Lib.hid (RV.out.below b7)
      have B7 := Lib.hid (B6.out.trans (b7.mono B6.out.size))
      clear b7 B6
      generalize swellB xs a1 a2 zs = r
      have er : (r != r) = false := by cases r <;> rfl
      go_wp2_with fail
      refine (toCardS_any a n c xs _ hn HN.out (HA.out.below B7.out)).mono ?_
      rintro e w8 ⟨gY, rfl, hY, rY, b8⟩
      replace RX := Lib.hid (RX.out.below b8)
      replace RV := Lib.hid (RV.out.below b8)
      have RY := Lib.hid (rY)
      have B8 := Lib.hid (B7.out.trans (b8.mono B7.out.size))
      clear b8 B7
      go_wp2_with fail
      refine (eqCardS_same gX gY n n n xs _ hn HN.out RX.out RY.out).mono ?_
      rintro e w9 ⟨rfl, b9⟩
      replace RX := Lib.hid (RX.out.below b9)
      replace RV := Lib.hid (RV.out.below b9)
      replace RY := Lib.hid (RY.out.below b9)
      have B9 := Lib.hid (B8.out.trans (b9.mono B8.out.size))
      clear b9 B8
      clear RY
      go_wp2_with fail
      refine (toIntS_any a3 l3 c3 zs _ hm1 (HJ.out.below B9.out)).mono ?_
      rintro e w10 ⟨gZ, rfl, hZ, rZ, b10⟩
      replace RX := Lib.hid (RX.out.below b10)
      replace RV := Lib.hid (RV.out.below b10)
      have RZ := Lib.hid (SlR.of_row rZ)
      have B10 := Lib.hid (B9.out.trans (b10.mono B9.out.size))
      clear b10 B9
      go_wp2_with fail
      refine (eqIntS_same _ _ _ _ _ zs _ hm1 RV.out RZ.out).mono ?_
      rintro e w11 ⟨rfl, b11⟩
      replace RX := Lib.hid (RX.out.below b11)
      replace RV := Lib.hid (RV.out.below b11)
      replace RZ := Lib.hid (RZ.out.below b11)
      have B11 := Lib.hid (B10.out.trans (b11.mono B10.out.size))
      clear b11 B10
      go_wp2_with fail
      go_ret
      exact ⟨rfl, B11.out⟩
    · go_enter Try.func9, Try.ntmps9
      go_wp2_with fail
      refine (szCardS_big a n c xs 1048576 _ (by omega) (by omega) hmx HF.out (by omega) HA.out).mono ?_
      rintro e w1 ⟨rfl, b1⟩
      go_wp2_with fail
      go_ret
      exact ⟨rfl, b1⟩
  · go_enter Try.func9, Try.ntmps9
    go_wp2_with fail
    go_ret
    exact ⟨rfl, Below.refl _ _⟩

set_option maxRecDepth 100000 in
theorem lifted (os : Os) (started : os.Started) (H : Type) (enc : TypeId × Value → H) :
    ReturnsInHanded {} Try.checked os 9 .any (Rows.fnExactBookSwellsSpec.pre6 enc Try.prog Try.f9 Rows.fnExactBookSwellsRow.domain false) (Rows.fnExactBookSwellsSpec.post enc Try.prog Try.f9 false true false false) := by
  refine returnsInHanded_of_change (C := Try.checked) own started (by kernel_rfl) Try.func9
    (ChangeSpec.witness6 (enc := enc) (C := Try.checked) false ⟨#[], #[.slice none 0 0, .int .i64 0, .int .i64 0, .slice none 0 0], []⟩ 8 (by kernel_rfl) (by kernel_rfl) (by kernel_rfl) (by kernel_rfl)) ?_
  intro W base args ds gs before hval0 hW hcnd _
  have hval : ∀ (j : Nat) t v, Try.f9.params[j]? = some t → args[j]? = some v → Value.okWide Try.prog W .any base t v := hval0
  have hW' := hW
  obtain ⟨p, q, hA0, hV, rfl, hfz, hnd⟩ := hW
  have hA : DataW.TrodAll enc Try.prog W 0 (fun _ => true) true Try.f9.params.toList args.toList ds p := hA0
  rw [Try.params9] at hA hval
  obtain ⟨v0, vs0, d0, ds0, p0, q0, hargs, rfl, rfl, h0, r0⟩ := trodAll_cons hA
  obtain ⟨v1, vs1, d1, ds1, p1, q1, rfl, rfl, rfl, h1, r1⟩ := trodAll_cons r0
  obtain ⟨v2, vs2, d2, ds2, p2, q2, rfl, rfl, rfl, h2, r2⟩ := trodAll_cons r1
  obtain ⟨v3, vs3, d3, ds3, p3, q3, rfl, rfl, rfl, h3, r3⟩ := trodAll_cons r2
  obtain ⟨rfl, rfl, rfl⟩ := trodAll_nil r3
  obtain rfl : args = #[v0, v1, v2, v3] := by cases args; simp_all
  obtain ⟨rfl, rfl⟩ := trodVars_none hV
  have k0 := h0
  have lt0 : ∀ x ∈ p0, x.block < W.heap.size := by obtain ⟨m, hm⟩ := k0; exact DataW.trod_lt m _ _ _ hm
  have k1 := h1
  have lt1 : ∀ x ∈ p1, x.block < W.heap.size := by obtain ⟨m, hm⟩ := k1; exact DataW.trod_lt m _ _ _ hm
  have k2 := h2
  have lt2 : ∀ x ∈ p2, x.block < W.heap.size := by obtain ⟨m, hm⟩ := k2; exact DataW.trod_lt m _ _ _ hm
  have k3 := h3
  have lt3 : ∀ x ∈ p3, x.block < W.heap.size := by obtain ⟨m, hm⟩ := k3; exact DataW.trod_lt m _ _ _ hm
  obtain ⟨x0, rfl, w0⟩ := open_S_Card (hval 0 39 v0 rfl rfl) h0
  obtain ⟨a1, rfl, rfl, rfl, w1⟩ := open_int Try.underlying3 (hval 1 3 v1 rfl rfl) h1
  obtain ⟨a2, rfl, rfl, rfl, w2⟩ := open_int Try.underlying3 (hval 2 3 v2 rfl rfl) h2
  obtain ⟨a3, l3, c3, z3, rfl, w3⟩ := open_introw (hval 3 28 v3 rfl rfl) h3
  clear hA0 hval0
  refine (walk W x0 w0 a1 w1 a2 w2 a3 l3 c3 z3 w3).mono fun e W' ⟨he, bel⟩ => ?_
  subst he
  exact ⟨_, rfl, _, _, _, [], _, [], hW', trodAll_mk1 (shut_bool Try.underlying4 _), (trodAll_cons_mk (Below.trod laidOut (by kernel_rfl) (of_decide_eq_true (by kernel_rfl)) k0 bel lt0) (trodAll_cons_mk (Below.trod laidOut (by kernel_rfl) (of_decide_eq_true (by kernel_rfl)) k1 bel lt1) (trodAll_cons_mk (Below.trod laidOut (by kernel_rfl) (of_decide_eq_true (by kernel_rfl)) k2 bel lt2) (trodAll_cons_mk (Below.trod laidOut (by kernel_rfl) (of_decide_eq_true (by kernel_rfl)) k3 bel lt3) trodAll_mk0)))), rfl, bel.frame _, fun h => by cases h⟩

theorem over : Rows.fnExactBookSwellsRow.holds Try.pinned (OpenSpec.ofChange Rows.fnExactBookSwellsSpec) :=
  OpenClaim.holds_of_wide 9 Try.f9 rfl rfl rfl rfl rfl rfl rfl ⟨rfl, rfl, rfl, rfl, rfl⟩ rfl rfl rfl rfl rfl (by kernel_rfl) Try.func9 (by kernel_rfl)
    (of_decide_eq_true (by kernel_rfl)) (by unfold Func.isWrapper; first | (rw [if_pos (by decide +kernel)]; kernel_rfl) | (rw [if_neg (by decide +kernel)]; exact ⟨rfl, rfl⟩))
    (fun os started H enc _ => lifted os started H enc)

/-- The statement. -/
theorem proved : Rows.FnExactBookSwellsSaid :=
  over
#print axioms proved
end Go.Proofs.Ytkmegaaaekbmaaa.fnExactBookSwells
