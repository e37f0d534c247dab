/-
  The Go function laws.FnPapers returns true for every input and leaves its arguments as they were; no condition.
  By an AI agent.
-/
import Derived.Test.YtoflcjgimkbgpaaRows
import Derived.WalkKit
import Derived.ProofKit
import Derived.OpenShut
import Derived.Carry
import Derived.ChangeOld
import Derived.Below
import Derived.Lib.SmallJoins
import Derived.Deep.Slices
import Derived.Deep.Fields
import Derived.Lib.Hide
import Derived.Test.YtoflcjgimkbgpaaPaperN
import Derived.Deep.RegionHeld3
import Derived.Deep.DeepCutAuto
import Derived.Test.YtoflcjgimkbgpaaTail
namespace Go.Proofs.Ytoflcjgimkbgpaa.fnPapers
open Go.Proofs.Ytoflcjgimkbgpaa Go.ChangeShapes Go.WideShapes Go.ChangeAt Go.RowKit Go.Joins Go.Deep

set_option linter.unusedVariables false
set_option maxRecDepth 100000

theorem own : ownKnob Try.prog.godebug = none := by kernel_rfl
theorem laidOut : laidOutB Try.prog = true := by kernel_rfl



set_option maxHeartbeats 3200000 in
theorem walk (w : World) (a0 : Option Addr) (l0 c0 : Nat) (z0 : List Int) (w0 : IsRow .u8 w a0 l0 c0 z0) :
    Calls Try.prog 4 #[.slice a0 l0 c0] w fun e w' => e = .returned (.bool true) ∧ Below w.heap.size w w' := by
  obtain ⟨hmx, _⟩ := w0.cells
  obtain ⟨_, hby⟩ := Bytes.of w0
  have HBY := Lib.hid hby
  clear hby w0
  by_cases hbig : l0 ≤ 1048576
  · have hb : decide (1048576 < (l0 : Int)) = false := decide_eq_false (by omega)
    go_enter Try.func4, Try.ntmps4
    go_wp2_with fail
    refine (big_any a0 l0 c0 _ hmx).mono ?_
    rw [hb]
    rintro e w1 ⟨rfl, rfl⟩
    clear hb
    go_wp2_with fail
    refine (papers_any a0 l0 c0 _ hbig HBY.out).mono ?_
    rintro e w1 ⟨n, g, cP, ps, rfl, hl, hr, _, hn5, hps, hB⟩
    have HPL := Lib.hid hl
    have HR := Lib.hid hr
    have HB := Lib.hid hB
    have HPS := Lib.hid hps
    have HOK := Lib.hid (drawn_all hps)
    clear hl hr hps hB
    go_wp2_with fail
    refine (at_by a0 l0 c0 0 w1 (by omega) hbig (HBY.out.below HB.out)).mono ?_
    rintro e w3 ⟨⟨v0, rfl, hv00, hv01⟩, rfl⟩
    have hvm : 0 ≤ v0 % 4 ∧ v0 % 4 ≤ 3 := by omega
    obtain ⟨hm0, hm1⟩ := hvm
    go_wp2_with fail
    generalize hK : v0 % 4 = kind at *
    clear hK
    refine (at_by a0 l0 c0 1 w1 (by omega) hbig (HBY.out.below HB.out)).mono ?_
    rintro e w3 ⟨⟨N, rfl, hN0, hN1⟩, rfl⟩
    go_wp2_with fail
    refine (iSheetsLeft_any g n cP ps kind _ HPL.out (by omega) HR.out).mono ?_
    obtain ⟨LF, hLF⟩ : ∃ x, leftOf ps kind = x := ⟨_, rfl⟩
    have hLF0 : 0 ≤ LF ∧ LF ≤ 500000 := by
      have h1 := leftN_bd HOK.out kind ps.length (Nat.le_refl _)
      have h2 := HPL.out
      rw [← hLF]
      unfold leftOf
      rw [if_pos HOK.out]
      omega
    obtain ⟨hl0, hl1⟩ := hLF0
    rw [hLF]
    have HLF := Lib.hid hLF
    clear hLF
    rintro e w3 ⟨rfl, hb⟩
    have HR3 := Lib.hid (HR.out.below hb HR.out.lt)
    have HB3 := Lib.hid (HB.out.trans (hb.mono HB.out.size))
    clear hb HR HB
    go_wp2_with fail
    obtain ⟨b, hbb⟩ : ∃ b, useB ps kind N = b := ⟨_, rfl⟩
    have hdec : decide (N ≤ LF) = b := by
      rw [← hbb, ← HLF.out]
      have h1 := useB_iff (ps := ps) (kind := kind) (sheets := N)
      cases hu : useB ps kind N
      · refine decide_eq_false fun h => ?_
        rw [h1.2 ⟨HOK.out, by have := HPL.out; omega, by omega, h⟩] at hu
        cases hu
      · exact decide_eq_true (h1.1 hu).2.2.2
    obtain ⟨us, hus⟩ : ∃ us, useP ps kind N = us := ⟨_, rfl⟩
    refine (iUsePaper_any g n cP ps kind N _ HPL.out (by omega) HR3.out).mono ?_
    unfold UseP
    rw [hbb, hus]
    rintro e w4 ⟨gU, cU, rfl, _, hru, hb⟩
    have HUS := Lib.hid hus
    have HBB := Lib.hid hbb
    have HUL : Hid (us.length = n) := Lib.hid (by rw [← hus, useP_length, HPL.out])
    have HS := Lib.hid (⟨HR3.out.below hb HR3.out.lt, hru, HB3.out.trans (hb.mono HB3.out.size)⟩ : PpS w g gU n ps us w4)
    clear hru hb hus hbb HR3 HB3
    have ebb : (b != b) = false := by cases b <;> rfl
    have enn : ((n : Int) != (n : Int)) = false := by simp
    have HDEC := Lib.hid hdec
    go_wp2_with fail
    clear ebb enn hdec
    go_loopw [9] (fun i wr => ∃ k : Nat, k ≤ n ∧ i = .int .i64 k ∧ PpS w g gU n ps us wr) (fun i _ => n - (intOf i).toNat)
    case atStart => exact ⟨0, Nat.zero_le _, rfl, HS.out⟩
    case round =>
      clear HS
      obtain ⟨k, hk, rfl, hs⟩ := hrel
      have HS := Lib.hid hs
      clear hs
      by_cases hlt : k < n
      · have hue := use_each HOK.out kind N (j := k) (by rw [HPL.out]; exact hlt)
        rw [HUS.out] at hue
        obtain ⟨xx, hxx⟩ : ∃ p, ps.getD k default = p := ⟨_, rfl⟩
        obtain ⟨yy, hyy⟩ : ∃ p, us.getD k default = p := ⟨_, rfl⟩
        rw [hxx, hyy] at hue
        obtain ⟨x0, x1, x2⟩ := xx
        obtain ⟨y0, y1, y2⟩ := yy
        obtain ⟨u1, u2, u3, u4⟩ := hue
        have u1 : y2 ≤ x2 := u1
        have u2 : 0 ≤ y2 := u2
        have HPY : Hid (paperOkB y0 y1 y2 = true) := Lib.hid u4
        have HXE := Lib.hid hxx
        have HYE := Lib.hid hyy
        clear u4 hxx hyy
        have i0 : (0 : Int) ≤ (k : Int) := Int.natCast_nonneg _
        have i1 : (k : Int) < (n : Int) := by omega
        have t1 : decide (y2 > x2) = false := decide_eq_false (by omega)
        have t2 : decide (y2 < 0) = false := decide_eq_false (by omega)
        by_cases hkk : x0 = kind
        · have hkk' : kind = x0 := hkk.symm
          clear u3 hkk
          subst hkk'
          have t3 : (kind != kind) = false := by simp
          go_wp2_with fail
          obtain ⟨s0, s1, s2⟩ := row_pap HS.out.s hlt
          obtain ⟨s3, s4, s5⟩ := row_pap HS.out.u hlt
          rw [HXE.out] at s0 s1 s2
          rw [HYE.out] at s3 s4 s5
          simp only at s0 s1 s2 s3 s4 s5
          have q0 : ∀ i : WB wr, i.x.cell? ⟨g, k * 3, none⟩ = some (.int .i64 kind) := fun i => i.cell s0
          have q1 : ∀ i : WB wr, i.x.cell? ⟨g, k * 3 + 1, none⟩ = some (.int .i64 x1) := fun i => i.cell s1
          have q2 : ∀ i : WB wr, i.x.cell? ⟨g, k * 3 + 2, none⟩ = some (.int .i64 x2) := fun i => i.cell s2
          have q3 : ∀ i : WB wr, i.x.cell? ⟨gU, k * 3, none⟩ = some (.int .i64 y0) := fun i => i.cell s3
          have q4 : ∀ i : WB wr, i.x.cell? ⟨gU, k * 3 + 1, none⟩ = some (.int .i64 y1) := fun i => i.cell s4
          have q5 : ∀ i : WB wr, i.x.cell? ⟨gU, k * 3 + 2, none⟩ = some (.int .i64 y2) := fun i => i.cell s5
          clear s0 s1 s2 s3 s4 s5
          refine wp_quietB (by kernel_rfl) (by kernel_rfl) ?_
          repeat (go_big_quiet_step ((go_at_call 27; exact quietV (by rw [HPY.out]) (iPaperOk_any y0 y1 y2 _))))
          refine wpQuiet_nil ?_
          rintro _ ⟨⟨wS, bS⟩, rfl⟩
          have hS := Lib.hid (HS.out.below bS)
          clear bS q0 q1 q2 q3 q4 q5
          go_wp2
          go_roundw
          case rel => exact ⟨k + 1, by omega, by go_num, hS.out⟩
          case measure => simp [intOf]; omega
        · have hy : (⟨y0, y1, y2⟩ : DPaper) = ⟨x0, x1, x2⟩ := u3 hkk
          simp only [DPaper.mk.injEq] at hy
          obtain ⟨rfl, rfl, rfl⟩ := hy
          have t3 : (y0 != kind) = true := by simp [hkk]
          clear u3 hkk
          go_wp2_with fail
          obtain ⟨s0, s1, s2⟩ := row_pap HS.out.s hlt
          obtain ⟨s3, s4, s5⟩ := row_pap HS.out.u hlt
          rw [HXE.out] at s0 s1 s2
          rw [HYE.out] at s3 s4 s5
          simp only at s0 s1 s2 s3 s4 s5
          have q0 : ∀ i : WB wr, i.x.cell? ⟨g, k * 3, none⟩ = some (.int .i64 y0) := fun i => i.cell s0
          have q1 : ∀ i : WB wr, i.x.cell? ⟨g, k * 3 + 1, none⟩ = some (.int .i64 y1) := fun i => i.cell s1
          have q2 : ∀ i : WB wr, i.x.cell? ⟨g, k * 3 + 2, none⟩ = some (.int .i64 y2) := fun i => i.cell s2
          have q3 : ∀ i : WB wr, i.x.cell? ⟨gU, k * 3, none⟩ = some (.int .i64 y0) := fun i => i.cell s3
          have q4 : ∀ i : WB wr, i.x.cell? ⟨gU, k * 3 + 1, none⟩ = some (.int .i64 y1) := fun i => i.cell s4
          have q5 : ∀ i : WB wr, i.x.cell? ⟨gU, k * 3 + 2, none⟩ = some (.int .i64 y2) := fun i => i.cell s5
          clear s0 s1 s2 s3 s4 s5
          refine wp_quietB (by kernel_rfl) (by kernel_rfl) ?_
          repeat (go_big_quiet_step ((go_at_call 27; exact quietV (by rw [HPY.out]) (iPaperOk_any y0 y1 y2 _))))
          refine wpQuiet_nil ?_
          rintro _ ⟨⟨wS, bS⟩, rfl⟩
          have hS := Lib.hid (HS.out.below bS)
          clear bS q0 q1 q2 q3 q4 q5
          go_wp2
          go_roundw
          case rel => exact ⟨k + 1, by omega, by go_num, hS.out⟩
          case measure => simp [intOf]; omega
      · have hk' : n = k := by omega
        subst hk'
        have i0 : ¬ (n : Int) < (n : Int) := by omega
        go_wp2_with fail
        refine (iHeaviestKind_any g n cP ps _ HPL.out (by omega) HS.out.s).mono ?_
        obtain ⟨hh1, hh2, hh3, hh4⟩ := heavy_law HOK.out
        rw [HPL.out] at hh1
        obtain ⟨H, hH⟩ : ∃ x, heavyOf ps = x := ⟨_, rfl⟩
        rw [hH] at hh1 hh2 hh3 hh4 ⊢
        rintro e w5 ⟨rfl, hb⟩
        have HS5 := Lib.hid (HS.out.below hb)
        have HH := Lib.hid hh2
        have HAN := Lib.hid hh1
        clear hb HS hh1 hh2 i0 hH
        go_wp2_with fail
        go_loopw [11, 12] (fun v i wx => ∃ k : Nat, k ≤ n ∧ i = .int .i64 k ∧ v = .bool (anyS ps k) ∧ PpS w g gU n ps us wx) (fun _ i _ => n - (intOf i).toNat)
        case atStart => exact ⟨0, Nat.zero_le _, rfl, rfl, HS5.out⟩
        case round =>
          clear HS5
          obtain ⟨k, hk, rfl, rfl, hs⟩ := hrel
          have HS := Lib.hid hs
          clear hs
          by_cases hlt : k < n
          · obtain ⟨_, _, s2⟩ := row_pap HS.out.s hlt
            have HN : Hid (anyS ps (k + 1) = (anyS ps k || decide (0 < (ps.getD k default).s))) := Lib.hid rfl
            generalize (ps.getD k default).s = z at *
            have i0 : (0 : Int) ≤ (k : Int) := Int.natCast_nonneg _
            have i1 : (k : Int) < (n : Int) := by omega
            cases hany : anyS ps k
            · rw [hany] at HN
              have HV : Hid (anyS ps (k + 1) = decide (z > 0)) := Lib.hid (by rw [HN.out, Bool.false_or])
              clear HN hany
              go_wp2
              go_roundw
              case rel => exact ⟨k + 1, by omega, by go_num, by rw [HV.out], HS.out.below (Below.refl _ _)⟩
              case measure => simp [intOf]; omega
            · rw [hany] at HN
              have HV : Hid (anyS ps (k + 1) = true) := Lib.hid (by rw [HN.out, Bool.true_or])
              clear HN hany s2
              go_wp2
              go_roundw
              case rel => exact ⟨k + 1, by omega, by go_num, by rw [HV.out], HS.out.below (Below.refl _ _)⟩
              case measure => simp [intOf]; omega
          · have hk' : n = k := by omega
            subst hk'
            have i0 : ¬ (n : Int) < (n : Int) := by omega
            rw [← HAN.out]
            have HY := Lib.hid (HBY.out.below HS.out.b)
            go_wp2_with fail
            refine (drawCard_any a0 l0 c0 _ hbig HY.out).mono ?_
            rintro e w6 ⟨d, f, m, aS, cS, ss, rfl, hc, hb⟩
            have HC := Lib.hid hc
            have HS6 := Lib.hid (HS.out.below hb)
            clear hc hb HS HY
            have hb := Below.box w6 (.cells #[.int .i64 d, .int .i64 f, .slice aS m cS] 26 (0, 0))
            have HC7 := Lib.hid (HC.out.below hb)
            have HS7 := Lib.hid (HS6.out.below hb)
            have HP7 := Lib.hid (Row.newT w6 (.int .i64 d) (.int .i64 f) (.slice aS m cS) 26)
            have HY := Lib.hid (HBY.out.below HS7.out.b)
            clear hb HC HS6
            go_wp2_with fail
            generalize w6.alloc (.cells #[.int .i64 d, .int .i64 f, .slice aS m cS] 26 (0, 0)) = w7 at *
            refine (at_by a0 l0 c0 2 w7 (by omega) hbig HY.out).mono ?_
            rintro e w8 ⟨⟨v2, rfl, hv0, hv1⟩, rfl⟩
            have hb := Below.box w7 (.cells #[.int .i64 1, .int .i64 (40 + v2), .int .i64 3] 43 (0, 0))
            have HC8 := Lib.hid (HC7.out.below hb)
            have HS8 := Lib.hid (HS7.out.below hb)
            have HP8 := Lib.hid (HP7.out.below hb HP7.out.lt)
            have HQ8 := Lib.hid (Row.newQ w7 (.int .i64 1) (.int .i64 (40 + v2)) (.int .i64 3) 43)
            clear hb HC7 HS7 HP7 HY
            go_wp2_with fail
            generalize hG : 40 + v2 = G at *
            have G0 : 40 ≤ G := by omega
            have G1 : G ≤ 295 := by omega
            clear hG hv0 hv1
            generalize w7.alloc (.cells #[.int .i64 1, .int .i64 G, .int .i64 3] 43 (0, 0)) = w9 at *
            generalize w7.heap.size = PQ at *
            generalize w6.heap.size = PC at *
            have p0 : ∀ i : WB w9, i.x.cell? ⟨PC, 0, none⟩ = some (.int .i64 d) := fun i => i.cell (HP8.out.cell (i := 0) (by omega))
            have p1 : ∀ i : WB w9, i.x.cell? ⟨PC, 1, none⟩ = some (.int .i64 f) := fun i => i.cell (HP8.out.cell (i := 1) (by omega))
            have p2 : ∀ i : WB w9, i.x.cell? ⟨PC, 2, none⟩ = some (.slice aS m cS) := fun i => i.cell (HP8.out.cell (i := 2) (by omega))
            have q0 : ∀ i : WB w9, i.x.cell? ⟨PQ, 0, none⟩ = some (.int .i64 1) := fun i => i.cell (HQ8.out.cell (i := 0) (by omega))
            have q1 : ∀ i : WB w9, i.x.cell? ⟨PQ, 1, none⟩ = some (.int .i64 G) := fun i => i.cell (HQ8.out.cell (i := 1) (by omega))
            have q2 : ∀ i : WB w9, i.x.cell? ⟨PQ, 2, none⟩ = some (.int .i64 3) := fun i => i.cell (HQ8.out.cell (i := 2) (by omega))
            have hok := HC8.out.ok
            obtain ⟨TL, hTL⟩ : ∃ x, tiles d f ss = x := ⟨_, rfl⟩
            have hWT : weightOf d f ss 1 G 3 = TL * G := by
              unfold weightOf
              rw [if_pos ⟨hok, paperOk_iff.2 (by omega)⟩, hTL]
            have hT := tiles_bd (d := d) (f := f) (ss := ss)
            rw [hTL] at hT
            have hbm := mul_bd (t := TL) (g := G) hT.1 hT.2 (by omega) (by omega)
            have HTL := Lib.hid hTL
            have HWT := Lib.hid hWT
            have s1 : IntKind.i64.wrap (TL * G) = TL * G := IntWalk.i64_in _ (by omega)
            obtain ⟨W1, hW1⟩ : ∃ x, TL * G = x := ⟨_, rfl⟩
            have HW1 := Lib.hid hW1
            obtain ⟨F2, hF2⟩ : ∃ x, foldsOf 1 G 3 false = x := ⟨_, rfl⟩
            have hF1 : foldsOf 1 G 3 true = F2 / 2 := by rw [← hF2]; unfold foldsOf; rw [if_pos (paperOk_iff.2 (by omega)), if_pos (paperOk_iff.2 (by omega))]; rfl
            have hFb : 0 ≤ F2 ∧ F2 ≤ 40000 := by
              rw [← hF2]; unfold foldsOf; rw [if_pos (paperOk_iff.2 (by omega))]
              show 0 ≤ 40000 / G ∧ 40000 / G ≤ 40000
              exact ⟨Int.ediv_nonneg (by omega) (by omega), Int.ediv_le_self _ (by omega)⟩
            have HF1 := Lib.hid hF1
            have HF2 := Lib.hid hF2
            have hF3 : foldsOf 0 100 0 false = 400 := by decide
            have HF3 := Lib.hid hF3
            have s2 : F2.tdiv 2 = F2 / 2 := Int.tdiv_eq_ediv_of_nonneg hFb.1
            have s3 : IntKind.i64.wrap (F2 / 2) = F2 / 2 := IntWalk.i64_in _ (by omega)
            have s4 : IntKind.i64.wrap (LF - N) = LF - N := IntWalk.i64_in _ (by omega)
            have HOB : Hid (Below w.heap.size w w9) := Lib.hid HS8.out.b
            clear hTL hWT hT hF1 hF2 hF3 hok HP8 HQ8
            rw [hW1] at s1
            have s5 : (W1 == TL * G) = true := by rw [← HW1.out]; simp
            have hbw : -400 ≤ W1 ∧ W1 ≤ 64000 := by rw [← HW1.out]; exact hbm
            have s1' : wrap64 (TL * G) = W1 := by rw [HW1.out]; exact IntWalk.wrap64_in _ (by omega)
            have s3' : wrap64 (F2 / 2) = F2 / 2 := IntWalk.wrap64_in _ (by omega)
            have s4' : wrap64 (LF - N) = LF - N := IntWalk.wrap64_in _ (by omega)
            clear hW1
            go_wp2_with fail
            by_cases hHn : H < 0
            · have h1 : decide (H ≥ 0) = false := decide_eq_false (by omega)
              have h2 : decide (H < 0) = true := decide_eq_true hHn
              rw [h1]
              cases hbv : b
              · clear hbv
                refine wp_quietB (by kernel_rfl) (by kernel_rfl) ?_
                repeat (go_big_quiet_step ((first | (go_at_call 29; exact quietV (by rw [HWT.out, HW1.out]) (iWeightOf_any d f aS m cS ss 1 G 3 _ HC8.out.len HC8.out.room (HC8.out.row.below (WB.b _)))) | (go_at_call 30; exact quietV (by rw [HTL.out]) (sTileCount_any d f aS m cS ss _ HC8.out.len HC8.out.room (HC8.out.row.below (WB.b _)))) | (go_at_call_of 31 (Value.bool true); exact quietV (by rw [HF1.out]) (iFoldsAllowed_any 1 G 3 true _)) | (go_at_call_of 31 (Value.int .i64 G); exact quietV (by rw [HF2.out]) (iFoldsAllowed_any 1 G 3 false _)) | (go_at_call_of 31 (Value.int .i64 100); exact quietV (by rw [HF3.out]) (iFoldsAllowed_any 0 100 0 false _)))))
                refine wpQuiet_nil ?_
                rintro _ ⟨⟨wS, bS⟩, rfl⟩
                have hO := Lib.hid (HOB.out.trans (bS.mono HOB.out.size))
                clear bS
                go_wp2
                go_ret
                exact ⟨rfl, hO.out⟩
              · have HLU : Hid (leftOf us kind = LF - N) := Lib.hid (by
                  have := left_law HOK.out (kind := kind) (sheets := N) (by rw [HBB.out]; exact hbv)
                  rw [HUS.out, HLF.out] at this
                  exact this)
                clear hbv
                refine wp_quietB (by kernel_rfl) (by kernel_rfl) ?_
                repeat (go_big_quiet_step ((first | (go_at_call_of 25 (Value.slice (some ⟨gU, 0, none⟩) n cU); exact quietV (by rw [HLU.out]) (iSheetsLeft_any gU n cU us kind _ HUL.out (by omega) (HS8.out.u.below (WB.b _) HS8.out.u.lt))) | (go_at_call 29; exact quietV (by rw [HWT.out, HW1.out]) (iWeightOf_any d f aS m cS ss 1 G 3 _ HC8.out.len HC8.out.room (HC8.out.row.below (WB.b _)))) | (go_at_call 30; exact quietV (by rw [HTL.out]) (sTileCount_any d f aS m cS ss _ HC8.out.len HC8.out.room (HC8.out.row.below (WB.b _)))) | (go_at_call_of 31 (Value.bool true); exact quietV (by rw [HF1.out]) (iFoldsAllowed_any 1 G 3 true _)) | (go_at_call_of 31 (Value.int .i64 G); exact quietV (by rw [HF2.out]) (iFoldsAllowed_any 1 G 3 false _)) | (go_at_call_of 31 (Value.int .i64 100); exact quietV (by rw [HF3.out]) (iFoldsAllowed_any 0 100 0 false _)))))
                refine wpQuiet_nil ?_
                rintro _ ⟨⟨wS, bS⟩, rfl⟩
                have hO := Lib.hid (HOB.out.trans (bS.mono HOB.out.size))
                clear bS
                go_wp2
                go_ret
                exact ⟨rfl, hO.out⟩
            · have h1 : decide (H ≥ 0) = true := decide_eq_true (by omega)
              have h2 : decide (H < 0) = false := decide_eq_false hHn
              obtain ⟨LH, hLH⟩ : ∃ x, leftOf ps H = x := ⟨_, rfl⟩
              have hLp : 0 < LH := by rw [← hLH]; rcases HH.out with h | h; exact absurd h hHn; exact h
              have HLH := Lib.hid hLH
              have h3 : decide (LH > 0) = true := decide_eq_true hLp
              clear hLH
              rw [h1]
              cases hbv : b
              · clear hbv
                refine wp_quietB (by kernel_rfl) (by kernel_rfl) ?_
                repeat (go_big_quiet_step ((first | (go_at_call_of 25 (Value.slice (some ⟨g, 0, none⟩) n cP); exact quietV (by rw [HLH.out]) (iSheetsLeft_any g n cP ps H _ HPL.out (by omega) (HS8.out.s.below (WB.b _) HS8.out.s.lt))) | (go_at_call 29; exact quietV (by rw [HWT.out, HW1.out]) (iWeightOf_any d f aS m cS ss 1 G 3 _ HC8.out.len HC8.out.room (HC8.out.row.below (WB.b _)))) | (go_at_call 30; exact quietV (by rw [HTL.out]) (sTileCount_any d f aS m cS ss _ HC8.out.len HC8.out.room (HC8.out.row.below (WB.b _)))) | (go_at_call_of 31 (Value.bool true); exact quietV (by rw [HF1.out]) (iFoldsAllowed_any 1 G 3 true _)) | (go_at_call_of 31 (Value.int .i64 G); exact quietV (by rw [HF2.out]) (iFoldsAllowed_any 1 G 3 false _)) | (go_at_call_of 31 (Value.int .i64 100); exact quietV (by rw [HF3.out]) (iFoldsAllowed_any 0 100 0 false _)))))
                refine wpQuiet_nil ?_
                rintro _ ⟨⟨wS, bS⟩, rfl⟩
                have hO := Lib.hid (HOB.out.trans (bS.mono HOB.out.size))
                clear bS
                go_wp2
                go_ret
                exact ⟨rfl, hO.out⟩
              · have HLU : Hid (leftOf us kind = LF - N) := Lib.hid (by
                  have := left_law HOK.out (kind := kind) (sheets := N) (by rw [HBB.out]; exact hbv)
                  rw [HUS.out, HLF.out] at this
                  exact this)
                clear hbv
                refine wp_quietB (by kernel_rfl) (by kernel_rfl) ?_
                repeat (go_big_quiet_step ((first | (go_at_call_of 25 (Value.slice (some ⟨gU, 0, none⟩) n cU); exact quietV (by rw [HLU.out]) (iSheetsLeft_any gU n cU us kind _ HUL.out (by omega) (HS8.out.u.below (WB.b _) HS8.out.u.lt))) | (go_at_call_of 25 (Value.slice (some ⟨g, 0, none⟩) n cP); exact quietV (by rw [HLH.out]) (iSheetsLeft_any g n cP ps H _ HPL.out (by omega) (HS8.out.s.below (WB.b _) HS8.out.s.lt))) | (go_at_call 29; exact quietV (by rw [HWT.out, HW1.out]) (iWeightOf_any d f aS m cS ss 1 G 3 _ HC8.out.len HC8.out.room (HC8.out.row.below (WB.b _)))) | (go_at_call 30; exact quietV (by rw [HTL.out]) (sTileCount_any d f aS m cS ss _ HC8.out.len HC8.out.room (HC8.out.row.below (WB.b _)))) | (go_at_call_of 31 (Value.bool true); exact quietV (by rw [HF1.out]) (iFoldsAllowed_any 1 G 3 true _)) | (go_at_call_of 31 (Value.int .i64 G); exact quietV (by rw [HF2.out]) (iFoldsAllowed_any 1 G 3 false _)) | (go_at_call_of 31 (Value.int .i64 100); exact quietV (by rw [HF3.out]) (iFoldsAllowed_any 0 100 0 false _)))))
                refine wpQuiet_nil ?_
                rintro _ ⟨⟨wS, bS⟩, rfl⟩
                have hO := Lib.hid (HOB.out.trans (bS.mono HOB.out.size))
                clear bS
                go_wp2
                go_ret
                exact ⟨rfl, hO.out⟩
  · have hb : decide (1048576 < (l0 : Int)) = true := decide_eq_true (by omega)
    go_enter Try.func4, Try.ntmps4
    go_wp2_with fail
    refine (big_any a0 l0 c0 _ hmx).mono ?_
    rw [hb]
    rintro e w1 ⟨rfl, rfl⟩
    go_wp2
    go_ret
    exact ⟨rfl, Below.refl _ _⟩

set_option maxRecDepth 100000 in
theorem lifted (os : Os) (started : os.Started) (H : Type) (enc : TypeId × Value → H) :
    ReturnsInHanded {} Try.checked os 4 .any (Rows.fnPapersSpec.pre6 enc Try.prog Try.f4 Rows.fnPapersRow.domain false) (Rows.fnPapersSpec.post enc Try.prog Try.f4 false true false false) := by
  refine returnsInHanded_of_change (C := Try.checked) own started (by kernel_rfl) Try.func4
    (ChangeSpec.witness6 (enc := enc) (C := Try.checked) false ⟨#[], #[.slice none 0 0], []⟩ 8 (by kernel_rfl) (by kernel_rfl) (by kernel_rfl) (by kernel_rfl)) ?_
  intro W base args ds gs before hval0 hW hcnd _
  have hval : ∀ (j : Nat) t v, Try.f4.params[j]? = some t → args[j]? = some v → Value.okWide Try.prog W .any base t v := hval0
  have hW' := hW
  obtain ⟨p, q, hA0, hV, rfl, hfz, hnd⟩ := hW
  have hA : DataW.TrodAll enc Try.prog W 0 (fun _ => true) true Try.f4.params.toList args.toList ds p := hA0
  rw [Try.params4] at hA hval
  obtain ⟨v0, vs0, d0, ds0, p0, q0, hargs, rfl, rfl, h0, r0⟩ := trodAll_cons hA
  obtain ⟨rfl, rfl, rfl⟩ := trodAll_nil r0
  obtain rfl : args = #[v0] := by cases args; simp_all
  obtain ⟨rfl, rfl⟩ := trodVars_none hV
  have k0 := h0
  have lt0 : ∀ x ∈ p0, x.block < W.heap.size := by obtain ⟨m, hm⟩ := k0; exact DataW.trod_lt m _ _ _ hm
  obtain ⟨a0, l0, c0, z0, rfl, w0⟩ := open_bytes (hval 0 22 v0 rfl rfl) h0
  clear hA0 hval0
  refine (walk W a0 l0 c0 z0 w0).mono fun e W' ⟨he, bel⟩ => ?_
  subst he
  exact ⟨_, rfl, _, _, _, [], _, [], hW', trodAll_mk1 (shut_bool Try.underlying4 _), (trodAll_cons_mk (Below.trod laidOut (by kernel_rfl) (of_decide_eq_true (by kernel_rfl)) k0 bel lt0) trodAll_mk0), rfl, bel.frame _, fun h => by cases h⟩

theorem over : Rows.fnPapersRow.holds Try.pinned (OpenSpec.ofChange Rows.fnPapersSpec) :=
  OpenClaim.holds_of_wide 4 Try.f4 rfl rfl rfl rfl rfl rfl rfl ⟨rfl, rfl, rfl, rfl, rfl⟩ rfl rfl rfl rfl rfl (by kernel_rfl) Try.func4 (by kernel_rfl)
    (of_decide_eq_true (by kernel_rfl)) (by unfold Func.isWrapper; first | (rw [if_pos (by decide +kernel)]; kernel_rfl) | (rw [if_neg (by decide +kernel)]; exact ⟨rfl, rfl⟩))
    (fun os started H enc _ => lifted os started H enc)

/-- The statement. -/
theorem proved : Rows.FnPapersSaid :=
  over
#print axioms proved
end Go.Proofs.Ytoflcjgimkbgpaa.fnPapers
