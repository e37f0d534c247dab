/-
  The Go function laws.FnExactLongestTale returns true for every input and leaves its arguments as they were; no condition.
  By an AI agent.
-/
import Derived.Test.YtjnjlpljakkakaaRows
import Derived.WalkKit
import Derived.ProofKit
import Derived.OpenShut
import Derived.Carry
import Derived.ChangeOld
import Derived.Below
import Derived.Lib.SmallJoins
import Derived.Deep.Slices
import Derived.Deep.Fields
import Derived.Lib.Hide
import Derived.Test.YtjnjlpljakkakaaTaleI
import Derived.Test.YtjnjlpljakkakaaTwo
namespace Go.Proofs.Ytjnjlpljakkakaa.fnExactLongestTale
open Go.Proofs.Ytjnjlpljakkakaa Go.ChangeShapes Go.WideShapes Go.ChangeAt Go.RowKit Go.Joins Go.Deep

set_option linter.unusedVariables false
set_option maxRecDepth 100000

theorem own : ownKnob Try.prog.godebug = none := by kernel_rfl
theorem laidOut : laidOutB Try.prog = true := by kernel_rfl



set_option maxHeartbeats 3200000 in
theorem walk (w : World) (x0 : DStory) (w0 : x0.good w) :
    Calls Try.prog 9 #[x0.val] w fun e w' => e = .returned (.bool true) ∧ Below w.heap.size w w' := by
  obtain ⟨a, n, c, L⟩ := x0
  obtain ⟨hl, hmx, hfit, hA⟩ := w0
  simp only [DStory.val]
  simp only at hl hmx hfit hA
  have HA := Lib.hid hA
  have HF := Lib.hid hfit
  clear hA hfit
  by_cases hm : (n : Int) + sumR L n ≤ 1048576
  · have hn : n ≤ 1048576 := by omega
    have HN : Hid (∀ i, i < n → lenN L i ≤ 1048576) := Lib.hid (fun i hi => by have := lenN_le L hi; omega)
    have hLm : (tlR n L true).length ≤ 1048576 := by have := tlR_len n L true; omega
    go_enter Try.func9, Try.ntmps9
    have b1 := Below.box w (.cells #[.slice a n c] 24 (0, 0))
    have cP : (w.alloc (.cells #[.slice a n c] 24 (0, 0))).cell? ⟨w.heap.size, 0, none⟩ = some (.slice a n c) := new_cell rfl
    have B1 := Lib.hid b1
    clear b1
    go_wp2_with fail
    refine (szStory_ok a n c L 1048576 _ (by omega) hm (HA.out.below B1.out)).mono ?_
    rintro e w2 ⟨rfl, b2⟩
    replace cP := (b2.cell (p := ⟨w.heap.size, 0, none⟩) (World.block_lt_of_cell? _ _ cP)).trans cP
    have B2 := Lib.hid (B1.out.trans (b2.mono B1.out.size))
    clear B1
    clear b2
    go_wp2_with fail
    refine (toStory_any a n c L _ hn HN.out (HA.out.below B2.out)).mono ?_
    rintro e w3 ⟨gA, loA, rfl, lA, rA, b3⟩
    replace cP := (b3.cell (p := ⟨w.heap.size, 0, none⟩) (World.block_lt_of_cell? _ _ cP)).trans cP
    have RA := Lib.hid rA
    clear rA
    have B3 := Lib.hid (B2.out.trans (b3.mono B2.out.size))
    clear B2
    clear b3
    go_wp2_with fail
    refine (sLongestTale_any _ n n L _ hn HN.out RA.out.rst).mono ?_
    rintro e w4 ⟨aW, cW, rfl, rW, fW, b4⟩
    replace cP := (b4.cell (p := ⟨w.heap.size, 0, none⟩) (World.block_lt_of_cell? _ _ cP)).trans cP
    replace RA := Lib.hid (RA.out.below b4)
    have FW := Lib.hid fW
    have RW := Lib.hid rW
    clear fW rW
    have B4 := Lib.hid (B3.out.trans (b4.mono B3.out.size))
    clear B3
    clear b4
    clear RA
    have SW := Lib.hid RW.out
    go_wp2_with fail
    refine (toStory_any a n c L _ hn HN.out (HA.out.below B4.out)).mono ?_
    have HLW := Lib.hid (show w.heap.size < _ from World.block_lt_of_cell? _ _ cP)
    rintro e w5 ⟨gX, loX, rfl, lX, rX, b5⟩
    have HLO : Hid (w.heap.size + 1 ≤ loX) := Lib.hid (by have := HLW.out; omega)
    have HLX : Hid (loX ≤ w5.heap.size) := Lib.hid (by have := rX.1; omega)
    replace cP := (b5.cell (p := ⟨w.heap.size, 0, none⟩) (World.block_lt_of_cell? _ _ cP)).trans cP
    replace RW := Lib.hid (RW.out.below b5)
    have RX := Lib.hid rX
    clear rX
    have B5 := Lib.hid (B4.out.trans (b5.mono B4.out.size))
    clear B4
    clear b5
    have b6 := Below.box w5 (.cells #[.slice (some ⟨gX, 0, none⟩) n n] 27 (0, 0))
    replace cP := (b6.cell (p := ⟨w.heap.size, 0, none⟩) (World.block_lt_of_cell? _ _ cP)).trans cP
    replace RX := Lib.hid (RX.out.below b6)
    replace RW := Lib.hid (RW.out.below b6)
    have cQ : (w5.alloc (.cells #[.slice (some ⟨gX, 0, none⟩) n n] 27 (0, 0))).cell? ⟨w5.heap.size, 0, none⟩ = some (.slice (some ⟨gX, 0, none⟩) n n) := new_cell rfl
    have B6 := Lib.hid (B5.out.trans (b6.mono B5.out.size))
    clear B5
    clear b6
    go_wp2_with fail
    refine (iLongestTale_any _ n n L _ hn HN.out RX.out.rst).mono ?_
    rintro e w7 ⟨aG, cG, rfl, rG, fG, b7⟩
    have apWG := Lib.hid (RW.out.apart fG)
    replace cP := (b7.cell (p := ⟨w.heap.size, 0, none⟩) (World.block_lt_of_cell? _ _ cP)).trans cP
    replace cQ := (b7.cell (p := ⟨w5.heap.size, 0, none⟩) (World.block_lt_of_cell? _ _ cQ)).trans cQ
    replace RX := Lib.hid (RX.out.below b7)
    replace RW := Lib.hid (RW.out.below b7)
    have FG := Lib.hid fG
    have RG := Lib.hid rG
    clear fG rG
    have B7 := Lib.hid (B6.out.trans (b7.mono B6.out.size))
    clear B6
    clear b7
    go_wp2_with fail
    refine (eqIntS_same _ _ _ _ _ _ _ hLm RG.out RW.out).mono ?_
    rintro e w8 ⟨rfl, b8⟩
    replace cP := (b8.cell (p := ⟨w.heap.size, 0, none⟩) (World.block_lt_of_cell? _ _ cP)).trans cP
    replace cQ := (b8.cell (p := ⟨w5.heap.size, 0, none⟩) (World.block_lt_of_cell? _ _ cQ)).trans cQ
    replace RX := Lib.hid (RX.out.below b8)
    replace RW := Lib.hid (RW.out.below b8)
    replace RG := Lib.hid (RG.out.below b8)
    have B8 := Lib.hid (B7.out.trans (b8.mono B7.out.size))
    clear B7
    clear b8
    go_wp2_with fail
    have HSd : Hid (TwoC w8 (w.heap.size) (w5.heap.size) (.slice a n c) (.slice (some ⟨gX, 0, none⟩) n n) w8.drew) := Lib.hid ⟨⟨cP, cQ⟩, Lib.hid (Below.refl _ _).drew⟩
    go_region_held3 (fun w' => (w'.cell? ⟨w.heap.size, 0, none⟩ = some (.slice a n c) ∧ w'.cell? ⟨w5.heap.size, 0, none⟩ = some (.slice (some ⟨gX, 0, none⟩) n n)) ∧ Hid (Below w8.heap.size w8 w'))
      (first | exact HSd.out | exact hS2.out | exact hS3.out | (go_keep; done))
      (first | (go_at_call 13; refine (toStory_any a n c L _ hn HN.out (HA.out.below (B8.out.trans ((show TwoC w8 (w.heap.size) (w5.heap.size) (.slice a n c) (.slice (some ⟨gX, 0, none⟩) n n) _ from by assumption).2.out.mono B8.out.size)))).mono ?_; rintro e w2 ⟨gY, loY, rfl, _, rY, bY⟩; have hS2 := Lib.hid (TwoC.next (show TwoC w8 (w.heap.size) (w5.heap.size) (.slice a n c) (.slice (some ⟨gX, 0, none⟩) n n) _ from by assumption) bY); have RYs := Lib.hid rY; clear rY bY) | (go_at_call 15; refine (eqStory_same _ _ _ _ _ L _ hn HN.out (RX.out.rst.below hS2.out.2.out) RYs.out.rst).mono ?_; rintro e w3 ⟨rfl, bZ⟩; have hS3 := Lib.hid (TwoC.next hS2.out bZ); clear bZ))
    have bR := hS3.out.2.out
    replace cP := (bR.cell (p := ⟨w.heap.size, 0, none⟩) (World.block_lt_of_cell? _ _ cP)).trans cP
    replace cQ := (bR.cell (p := ⟨w5.heap.size, 0, none⟩) (World.block_lt_of_cell? _ _ cQ)).trans cQ
    replace RX := Lib.hid (RX.out.below bR)
    replace RW := Lib.hid (RW.out.below bR)
    replace RG := Lib.hid (RG.out.below bR)
    have B9 := Lib.hid (B8.out.trans (bR.mono B8.out.size))
    clear B8
    clear bR
    go_wp2_with fail
    refine (markStory_any loX w5.heap.size gX n n 1 L _ (by omega) (by omega) (by omega) RX.out).mono ?_
    rintro e wM ⟨rfl, rg⟩
    replace RG := Lib.hid (rg.high RG.out (FG.out.mono (by simp)))
    replace RW := Lib.hid (rg.low RW.out SW.out lX)
    clear RX
    replace cP := rg.cellLow (p := ⟨w.heap.size, 0, none⟩) cP (by show w.heap.size < _; have := B9.out.size; have := HLO.out; omega)
    clear cQ
    have b10 : Below w.heap.size w3 wM := rg.below (by have := HLO.out; omega) B9.out.size
    have B10 := Lib.hid (B9.out.trans b10)
    clear b10 B9 rg
    go_wp2_with fail
    refine (eqIntS_same _ _ _ _ _ _ _ hLm RG.out RW.out).mono ?_
    rintro e w11 ⟨rfl, b11⟩
    replace cP := (b11.cell (p := ⟨w.heap.size, 0, none⟩) (World.block_lt_of_cell? _ _ cP)).trans cP
    replace RW := Lib.hid (RW.out.below b11)
    replace RG := Lib.hid (RG.out.below b11)
    have B11 := Lib.hid (B10.out.trans (b11.mono B10.out.size))
    clear B10
    clear b11
    go_wp2_with fail
    refine (markIntS_any _ _ _ 1 _ _ (by omega) (by omega) hLm RG.out).mono ?_
    rintro e wN ⟨rfl, mG, oG⟩
    replace RW := Lib.hid (oG.keep RW.out apWG.out)
    replace RG := Lib.hid mG
    have FG2 := Lib.hid (FG.out.mono (B := _) (B' := w.heap.size + 1) (by have := HLO.out; have := HLX.out; simp; omega))
    replace cP := (oG.below FG2.out (by have := B11.out.size; have := World.block_lt_of_cell? _ _ cP; exact this)).cell (p := ⟨w.heap.size, 0, none⟩) (by show w.heap.size < _; omega) |>.trans cP
    have b12 : Below w.heap.size w11 wN := oG.below (FG2.out.mono (by omega)) B11.out.size
    have B12 := Lib.hid (B11.out.trans b12)
    clear b12 B11 oG mG
    go_wp2_with fail
    refine (heldIntS_any _ _ _ 1 _ (by omega) (by omega) hLm RG.out).mono ?_
    rintro e wH ⟨rfl, rfl⟩
    go_wp2_with fail
    refine (toStory_any a n c L _ hn HN.out (HA.out.below B12.out)).mono ?_
    rintro e w13 ⟨gZ, loZ, rfl, lZ, rZ, b13⟩
    replace cP := (b13.cell (p := ⟨w.heap.size, 0, none⟩) (World.block_lt_of_cell? _ _ cP)).trans cP
    replace RW := Lib.hid (RW.out.below b13)
    replace RG := Lib.hid (RG.out.below b13)
    have RZ := Lib.hid rZ
    clear rZ
    have B13 := Lib.hid (B12.out.trans (b13.mono B12.out.size))
    clear B12
    clear b13
    go_wp2_with fail
    refine (iLongestTale_any _ n n L _ hn HN.out RZ.out.rst).mono ?_
    rintro e w14 ⟨aK, cK, rfl, rK, fK, b14⟩
    have apWK := Lib.hid (RW.out.apart fK)
    have apGK := Lib.hid (RG.out.apart fK)
    replace cP := (b14.cell (p := ⟨w.heap.size, 0, none⟩) (World.block_lt_of_cell? _ _ cP)).trans cP
    replace RZ := Lib.hid (RZ.out.below b14)
    replace RW := Lib.hid (RW.out.below b14)
    replace RG := Lib.hid (RG.out.below b14)
    have FK := Lib.hid fK
    have RK := Lib.hid rK
    clear fK rK
    have B14 := Lib.hid (B13.out.trans (b14.mono B13.out.size))
    clear B13
    clear b14
    go_wp2_with fail
    refine (eqIntS_same _ _ _ _ _ _ _ hLm RK.out RW.out).mono ?_
    rintro e w15 ⟨rfl, b15⟩
    replace cP := (b15.cell (p := ⟨w.heap.size, 0, none⟩) (World.block_lt_of_cell? _ _ cP)).trans cP
    replace RZ := Lib.hid (RZ.out.below b15)
    replace RW := Lib.hid (RW.out.below b15)
    replace RG := Lib.hid (RG.out.below b15)
    replace RK := Lib.hid (RK.out.below b15)
    have B15 := Lib.hid (B14.out.trans (b15.mono B14.out.size))
    clear B14
    clear b15
    go_wp2_with fail
    refine (heldIntS_any _ _ _ 1 _ (by omega) (by omega) hLm RG.out).mono ?_
    rintro e wH2 ⟨rfl, rfl⟩
    go_wp2_with fail
    go_ret
    exact ⟨rfl, B15.out⟩
  · go_enter Try.func9, Try.ntmps9
    have hb0 := Below.box w (.cells #[.slice a n c] 24 (0, 0))
    have HB0 := Lib.hid hb0
    go_wp2_with fail
    refine (szStory_big a n c L 1048576 _ (by omega) (by omega) hmx HF.out (by omega) (HA.out.below HB0.out)).mono ?_
    rintro e w1 ⟨rfl, b1⟩
    go_wp2_with fail
    go_ret
    exact ⟨rfl, HB0.out.trans (b1.mono HB0.out.size)⟩

set_option maxRecDepth 100000 in
theorem lifted (os : Os) (started : os.Started) (H : Type) (enc : TypeId × Value → H) :
    ReturnsInHanded {} Try.checked os 9 .any (Rows.fnExactLongestTaleSpec.pre6 enc Try.prog Try.f9 Rows.fnExactLongestTaleRow.domain false) (Rows.fnExactLongestTaleSpec.post enc Try.prog Try.f9 false true false false) := by
  refine returnsInHanded_of_change (C := Try.checked) own started (by kernel_rfl) Try.func9
    (ChangeSpec.witness6 (enc := enc) (C := Try.checked) false ⟨#[], #[.agg #[.slice none 0 0]], []⟩ 8 (by kernel_rfl) (by kernel_rfl) (by kernel_rfl) (by kernel_rfl)) ?_
  intro W base args ds gs before hval0 hW hcnd _
  have hval : ∀ (j : Nat) t v, Try.f9.params[j]? = some t → args[j]? = some v → Value.okWide Try.prog W .any base t v := hval0
  have hW' := hW
  obtain ⟨p, q, hA0, hV, rfl, hfz, hnd⟩ := hW
  have hA : DataW.TrodAll enc Try.prog W 0 (fun _ => true) true Try.f9.params.toList args.toList ds p := hA0
  rw [Try.params9] at hA hval
  obtain ⟨v0, vs0, d0, ds0, p0, q0, hargs, rfl, rfl, h0, r0⟩ := trodAll_cons hA
  obtain ⟨rfl, rfl, rfl⟩ := trodAll_nil r0
  obtain rfl : args = #[v0] := by cases args; simp_all
  obtain ⟨rfl, rfl⟩ := trodVars_none hV
  have k0 := h0
  have lt0 : ∀ x ∈ p0, x.block < W.heap.size := by obtain ⟨m, hm⟩ := k0; exact DataW.trod_lt m _ _ _ hm
  obtain ⟨x0, rfl, w0⟩ := open_Story (hval 0 24 v0 rfl rfl) h0
  clear hA0 hval0
  refine (walk W x0 w0).mono fun e W' ⟨he, bel⟩ => ?_
  subst he
  exact ⟨_, rfl, _, _, _, [], _, [], hW', trodAll_mk1 (shut_bool Try.underlying4 _), (trodAll_cons_mk (Below.trod laidOut (by kernel_rfl) (of_decide_eq_true (by kernel_rfl)) k0 bel lt0) trodAll_mk0), rfl, bel.frame _, fun h => by cases h⟩

theorem over : Rows.fnExactLongestTaleRow.holds Try.pinned (OpenSpec.ofChange Rows.fnExactLongestTaleSpec) :=
  OpenClaim.holds_of_wide 9 Try.f9 rfl rfl rfl rfl rfl rfl rfl ⟨rfl, rfl, rfl, rfl, rfl⟩ rfl rfl rfl rfl rfl (by kernel_rfl) Try.func9 (by kernel_rfl)
    (of_decide_eq_true (by kernel_rfl)) (by unfold Func.isWrapper; first | (rw [if_pos (by decide +kernel)]; kernel_rfl) | (rw [if_neg (by decide +kernel)]; exact ⟨rfl, rfl⟩))
    (fun os started H enc _ => lifted os started H enc)

/-- The statement. -/
theorem proved : Rows.FnExactLongestTaleSaid :=
  over
#print axioms proved
end Go.Proofs.Ytjnjlpljakkakaa.fnExactLongestTale
