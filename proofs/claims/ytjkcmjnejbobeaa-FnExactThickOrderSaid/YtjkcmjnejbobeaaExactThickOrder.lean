/-
  The Go function laws.FnExactThickOrder returns true for every input and leaves its arguments as they were; no condition.
  By an AI agent.
-/
import Derived.Test.YtjkcmjnejbobeaaRows
import Derived.WalkKit
import Derived.ProofKit
import Derived.OpenShut
import Derived.Carry
import Derived.ChangeOld
import Derived.Below
import Derived.Lib.SmallJoins
import Derived.Deep.Slices
import Derived.Deep.Fields
import Derived.Lib.Hide
import Derived.Test.YtjkcmjnejbobeaaTOrdJ
namespace Go.Proofs.Ytjkcmjnejbobeaa.fnExactThickOrder
open Go.Proofs.Ytjkcmjnejbobeaa Go.ChangeShapes Go.WideShapes Go.ChangeAt Go.RowKit Go.Joins Go.Deep

set_option linter.unusedVariables false
set_option maxRecDepth 100000

theorem own : ownKnob Try.prog.godebug = none := by kernel_rfl
theorem laidOut : laidOutB Try.prog = true := by kernel_rfl



set_option maxHeartbeats 3200000 in
theorem walk (w : World) (x0 : DS_Card) (w0 : x0.good w) (a1 : Int) (w1 : (Lit.int .i64 a1).wf = true) :
    Calls Try.prog 4 #[x0.val, .int .i64 a1] w fun e w' => e = .returned (.bool true) ∧ Below w.heap.size w w' := by
  obtain ⟨a, n, c, xs⟩ := x0
  obtain ⟨hl, hmx, hfit, hA⟩ := w0
  simp only [DS_Card.val]
  simp only at hl hmx hfit hA
  unfold maxLen at hmx
  have HA := Lib.hid hA
  have HL := Lib.hid hl
  have HF := Lib.hid hfit
  clear hA hl hfit
  by_cases hm : (n : Int) + sumCard xs n ≤ 1048576
  · have hn : n ≤ 1048576 := by omega
    have HM : Hid (∀ i, i < n → (xs.getD i default).modest) := Lib.hid (by
      intro i hi
      have h1 := bulkCard_le xs hi
      unfold bulkCard at h1
      exact ⟨(HF.out i hi).1, by omega⟩)
    have HN : Hid (∀ i, i < n → (xs.getD i default).n ≤ 1048576) := Lib.hid (fun i hi => by have := (HM.out i hi).2; omega)
    have hLm : (thR xs a1).length ≤ 1048576 := by have := thR_len xs a1; omega
    go_enter Try.func4, Try.ntmps4
    go_wp2_with fail
    refine (szCardS_ok a n c xs 1048576 _ (by omega) hm HA.out).mono ?_
    rintro e w1 ⟨rfl, b1⟩
    have B1 := Lib.hid (b1)
    clear b1
    go_wp2_with fail
    refine (toCardS_reg a n c xs _ hn HN.out (HA.out.below B1.out)).mono ?_
    rintro e w2 ⟨gA, rfl, rA, b2⟩
    have RA := Lib.hid rA
    clear rA
    have B2 := Lib.hid (B1.out.trans (b2.mono B1.out.size))
    clear b2 B1
    go_wp2_with fail
    refine (sThickOrder_any gA 0 n n xs a1 _ HL.out hn HM.out RA.out.l.c).mono ?_
    rintro e w3 ⟨aW, cW, rfl, rW, fW, b3⟩
    replace RA := Lib.hid (RA.out.below b3)
    have RW := Lib.hid rW
    have FW := Lib.hid fW
    clear fW
    clear rW
    have B3 := Lib.hid (B2.out.trans (b3.mono B2.out.size))
    clear b3 B2
    clear RA
    have HLO : Hid (w.heap.size ≤ w3.heap.size) := Lib.hid B3.out.size
    have SW := Lib.hid RW.out
    go_wp2_with fail
    refine (toCardS_reg a n c xs _ hn HN.out (HA.out.below B3.out)).mono ?_
    rintro e w4 ⟨gX, rfl, rX, b4⟩
    replace RW := Lib.hid (RW.out.below b4)
    have RX := Lib.hid rX
    clear rX
    have HHI : Hid (w3.heap.size ≤ w4.heap.size) := Lib.hid b4.size
    have B4 := Lib.hid (B3.out.trans (b4.mono B3.out.size))
    clear b4 B3
    go_wp2_with fail
    refine (iThickOrder_any gX 0 n n xs a1 _ HL.out hn HM.out RX.out.l.c).mono ?_
    rintro e w5 ⟨aG, cG, rfl, rG, fG, b5⟩
    have apWG := Lib.hid (RW.out.apart fG)
    replace RW := Lib.hid (RW.out.below b5)
    replace RX := Lib.hid (RX.out.below b5)
    have RG := Lib.hid rG
    have FG := Lib.hid fG
    clear fG
    clear rG
    have B5 := Lib.hid (B4.out.trans (b5.mono B4.out.size))
    clear b5 B4
    go_wp2_with fail
    refine (eqIntS_same _ _ _ _ _ _ _ hLm RG.out RW.out).mono ?_
    rintro e w6 ⟨rfl, b6⟩
    replace RW := Lib.hid (RW.out.below b6)
    replace RX := Lib.hid (RX.out.below b6)
    replace RG := Lib.hid (RG.out.below b6)
    have B6 := Lib.hid (B5.out.trans (b6.mono B5.out.size))
    clear b6 B5
    go_wp2_with fail
    refine (toCardS_reg a n c xs _ hn HN.out (HA.out.below B6.out)).mono ?_
    rintro e w7 ⟨gY, rfl, rY, b7⟩
    replace RW := Lib.hid (RW.out.below b7)
    replace RX := Lib.hid (RX.out.below b7)
    replace RG := Lib.hid (RG.out.below b7)
    have RY := Lib.hid rY
    clear rY
    have B7 := Lib.hid (B6.out.trans (b7.mono B6.out.size))
    clear b7 B6
    go_wp2_with fail
    refine (eqCardS_same gX gY n n n xs _ hn HN.out RX.out.l RY.out.l).mono ?_
    rintro e w8 ⟨rfl, b8⟩
    replace RW := Lib.hid (RW.out.below b8)
    replace RX := Lib.hid (RX.out.below b8)
    replace RG := Lib.hid (RG.out.below b8)
    replace RY := Lib.hid (RY.out.below b8)
    have B8 := Lib.hid (B7.out.trans (b8.mono B7.out.size))
    clear b8 B7
    clear RY
    go_wp2_with fail
    refine (markCardS_any w3.heap.size w4.heap.size gX n n 1 xs _ (by omega) (by omega) (by omega) RX.out).mono ?_
    rintro e wM ⟨rfl, rg⟩
    have hmk := markN_le xs n
    replace RG := Lib.hid (rg.high RG.out FG.out)
    replace RW := Lib.hid (rg.low RW.out SW.out (Nat.le_refl _))
    have b9 := rg.below HLO.out B8.out.size
    have B9 := Lib.hid (B8.out.trans b9)
    clear b9 B8 rg
    clear RX
    go_wp2_with fail
    refine (eqIntS_same _ _ _ _ _ _ _ hLm RG.out RW.out).mono ?_
    rintro e w10 ⟨rfl, b10⟩
    replace RW := Lib.hid (RW.out.below b10)
    replace RG := Lib.hid (RG.out.below b10)
    have B10 := Lib.hid (B9.out.trans (b10.mono B9.out.size))
    clear b10 B9
    go_wp2_with fail
    refine (markIntS_any _ _ _ 1 _ _ (by omega) (by omega) hLm RG.out).mono ?_
    rintro e wN ⟨rfl, mG, oG⟩
    replace RW := Lib.hid (oG.keep RW.out apWG.out)
    replace RG := Lib.hid mG
    have b11 : Below w.heap.size w10 wN := oG.below (FG.out.mono (by have := HLO.out; have := HHI.out; omega)) B10.out.size
    have B11 := Lib.hid (B10.out.trans b11)
    clear b11 B10 oG mG
    go_wp2_with fail
    refine (heldIntS_any _ _ _ 1 _ (by omega) (by omega) hLm RG.out).mono ?_
    rintro e wH ⟨rfl, rfl⟩
    go_wp2_with fail
    refine (toCardS_reg a n c xs _ hn HN.out (HA.out.below B11.out)).mono ?_
    rintro e w12 ⟨gZ, rfl, rZ, b12⟩
    replace RW := Lib.hid (RW.out.below b12)
    replace RG := Lib.hid (RG.out.below b12)
    have RZ := Lib.hid rZ
    clear rZ
    have B12 := Lib.hid (B11.out.trans (b12.mono B11.out.size))
    clear b12 B11
    go_wp2_with fail
    refine (iThickOrder_any gZ 0 n n xs a1 _ HL.out hn HM.out RZ.out.l.c).mono ?_
    rintro e w13 ⟨aK, cK, rfl, rK, fK, b13⟩
    have apWK := Lib.hid (RW.out.apart fK)
    have apGK := Lib.hid (RG.out.apart fK)
    replace RW := Lib.hid (RW.out.below b13)
    replace RG := Lib.hid (RG.out.below b13)
    replace RZ := Lib.hid (RZ.out.below b13)
    have RK := Lib.hid rK
    have FK := Lib.hid fK
    clear fK
    clear rK
    have B13 := Lib.hid (B12.out.trans (b13.mono B12.out.size))
    clear b13 B12
    go_wp2_with fail
    refine (eqIntS_same _ _ _ _ _ _ _ hLm RK.out RW.out).mono ?_
    rintro e w14 ⟨rfl, b14⟩
    replace RW := Lib.hid (RW.out.below b14)
    replace RG := Lib.hid (RG.out.below b14)
    replace RZ := Lib.hid (RZ.out.below b14)
    replace RK := Lib.hid (RK.out.below b14)
    have B14 := Lib.hid (B13.out.trans (b14.mono B13.out.size))
    clear b14 B13
    go_wp2_with fail
    refine (heldIntS_any _ _ _ 1 _ (by omega) (by omega) hLm RG.out).mono ?_
    rintro e wH2 ⟨rfl, rfl⟩
    go_wp2_with fail
    go_ret
    exact ⟨rfl, B14.out⟩
  · go_enter Try.func4, Try.ntmps4
    go_wp2_with fail
    refine (szCardS_big a n c xs 1048576 _ (by omega) (by omega) hmx HF.out (by omega) HA.out).mono ?_
    rintro e w1 ⟨rfl, b1⟩
    go_wp2_with fail
    go_ret
    exact ⟨rfl, b1⟩

set_option maxRecDepth 100000 in
theorem lifted (os : Os) (started : os.Started) (H : Type) (enc : TypeId × Value → H) :
    ReturnsInHanded {} Try.checked os 4 .any (Rows.fnExactThickOrderSpec.pre6 enc Try.prog Try.f4 Rows.fnExactThickOrderRow.domain false) (Rows.fnExactThickOrderSpec.post enc Try.prog Try.f4 false true false false) := by
  refine returnsInHanded_of_change (C := Try.checked) own started (by kernel_rfl) Try.func4
    (ChangeSpec.witness6 (enc := enc) (C := Try.checked) false ⟨#[], #[.slice none 0 0, .int .i64 0], []⟩ 8 (by kernel_rfl) (by kernel_rfl) (by kernel_rfl) (by kernel_rfl)) ?_
  intro W base args ds gs before hval0 hW hcnd _
  have hval : ∀ (j : Nat) t v, Try.f4.params[j]? = some t → args[j]? = some v → Value.okWide Try.prog W .any base t v := hval0
  have hW' := hW
  obtain ⟨p, q, hA0, hV, rfl, hfz, hnd⟩ := hW
  have hA : DataW.TrodAll enc Try.prog W 0 (fun _ => true) true Try.f4.params.toList args.toList ds p := hA0
  rw [Try.params4] at hA hval
  obtain ⟨v0, vs0, d0, ds0, p0, q0, hargs, rfl, rfl, h0, r0⟩ := trodAll_cons hA
  obtain ⟨v1, vs1, d1, ds1, p1, q1, rfl, rfl, rfl, h1, r1⟩ := trodAll_cons r0
  obtain ⟨rfl, rfl, rfl⟩ := trodAll_nil r1
  obtain rfl : args = #[v0, v1] := by cases args; simp_all
  obtain ⟨rfl, rfl⟩ := trodVars_none hV
  have k0 := h0
  have lt0 : ∀ x ∈ p0, x.block < W.heap.size := by obtain ⟨m, hm⟩ := k0; exact DataW.trod_lt m _ _ _ hm
  have k1 := h1
  have lt1 : ∀ x ∈ p1, x.block < W.heap.size := by obtain ⟨m, hm⟩ := k1; exact DataW.trod_lt m _ _ _ hm
  obtain ⟨x0, rfl, w0⟩ := open_S_Card (hval 0 37 v0 rfl rfl) h0
  obtain ⟨a1, rfl, rfl, rfl, w1⟩ := open_int Try.underlying3 (hval 1 3 v1 rfl rfl) h1
  clear hA0 hval0
  refine (walk W x0 w0 a1 w1).mono fun e W' ⟨he, bel⟩ => ?_
  subst he
  exact ⟨_, rfl, _, _, _, [], _, [], hW', trodAll_mk1 (shut_bool Try.underlying4 _), (trodAll_cons_mk (Below.trod laidOut (by kernel_rfl) (of_decide_eq_true (by kernel_rfl)) k0 bel lt0) (trodAll_cons_mk (Below.trod laidOut (by kernel_rfl) (of_decide_eq_true (by kernel_rfl)) k1 bel lt1) trodAll_mk0)), rfl, bel.frame _, fun h => by cases h⟩

theorem over : Rows.fnExactThickOrderRow.holds Try.pinned (OpenSpec.ofChange Rows.fnExactThickOrderSpec) :=
  OpenClaim.holds_of_wide 4 Try.f4 rfl rfl rfl rfl rfl rfl rfl ⟨rfl, rfl, rfl, rfl, rfl⟩ rfl rfl rfl rfl rfl (by kernel_rfl) Try.func4 (by kernel_rfl)
    (of_decide_eq_true (by kernel_rfl)) (by unfold Func.isWrapper; first | (rw [if_pos (by decide +kernel)]; kernel_rfl) | (rw [if_neg (by decide +kernel)]; exact ⟨rfl, rfl⟩))
    (fun os started H enc _ => lifted os started H enc)

/-- The statement. -/
theorem proved : Rows.FnExactThickOrderSaid :=
  over
#print axioms proved
end Go.Proofs.Ytjkcmjnejbobeaa.fnExactThickOrder
