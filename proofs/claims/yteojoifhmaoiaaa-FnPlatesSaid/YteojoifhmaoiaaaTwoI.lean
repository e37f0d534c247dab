/-
  Contract of TwoColors in the program.
  By an AI agent.
-/
import Derived.Test.YteojoifhmaoiaaaTwoS
import Derived.BigRegion
import Derived.Deep.LoopGhost
namespace Go.Proofs.Yteojoifhmaoiaaa
open Go.ChangeShapes Go.WideShapes Go.ChangeAt Go.RowKit Go.Joins Go.Deep
set_option maxRecDepth 100000
set_option linter.unusedVariables false

set_option maxHeartbeats 8000000 in
theorem iTwoColors_any (d f : Int) (a : Option Addr) (n c : Nat) (ss : List ByteArray) (F : Nat → Nat) (k : Nat) (w : World) (hF : FcO d f n ss F k) (hl : ss.length = n) (hm : (n : Int) + tot ss n ≤ 1048576) (hR : SlR w a n (sc ss)) :
    Calls Try.prog 12 #[.agg #[.int .i64 d, .int .i64 f, .slice a n c]] w (GetLB (twoR d f n ss F k) (cardOkB d f ss) w) := by
  have HB0 := Lib.hid (Below.box w (.cells #[.int .i64 d, .int .i64 f, .slice a n c] 26 (0, 0)))
  have HR := Lib.hid (hR.below HB0.out)
  have HF := Lib.hid hF
  have HL := Lib.hid hl
  clear hR hF hl
  go_enter Try.func12, Try.ntmps12
  cases ho : cardOkB d f ss
  · have HV : Hid (twoR d f n ss F k = []) := Lib.hid (by unfold twoR; rw [ho]; rfl)
    have HO := Lib.hid ho
    clear ho
    go_wp2_with (go_at_call 40; refine (iCardOk_any _ _ _ _ _ _ _ HL.out hm HR.out).mono ?_; rw [HO.out]; rintro e w1 ⟨rfl, hb1⟩; have HB1 := Lib.hid (HB0.out.trans (hb1.mono HB0.out.size)); clear hb1)
    go_ret2
    unfold GetLB
    rw [HV.out]
    exact ⟨none, 0, rfl, .inl rfl, .inl rfl, HB1.out⟩
  · obtain ⟨N, hC, hFc, h160⟩ := HF.out.yes ho HL.out hm
    have hk160 : k ≤ 160 := Nat.le_trans hFc.le h160
    obtain ⟨T, hT⟩ : ∃ T, touchR d f n ss F k = T := ⟨_, rfl⟩
    have HV : Hid (twoR d f n ss F k = two (pAt T 0) (pAt T 1) T.length k k) := Lib.hid (by unfold twoR; rw [if_pos ho, hT])
    have HROW : Hid (∀ j, j < T.length → ∃ p q : Nat, rowN T j = [(p : Int), (q : Int)] ∧ p < k ∧ q < k) := Lib.hid (fun j hj => by
      rw [← hT] at hj ⊢
      exact touch_row hj)
    have hroom : T.length ≤ 25600 := by rw [← hT]; exact touch_len hk160
    have HPQ : Hid (∀ j, j < T.length → pAt T 0 j < k ∧ pAt T 1 j < k) := Lib.hid (fun j hj => by
      obtain ⟨p, q, h1, h2, h3⟩ := HROW.out j hj
      unfold pAt
      rw [h1]
      exact ⟨h2, h3⟩)
    have HTL := Lib.hid hT
    have HO := Lib.hid ho
    clear ho hC hFc hT
    go_wp2_with (go_at_call 40; refine (iCardOk_any _ _ _ _ _ _ _ HL.out hm HR.out).mono ?_; rw [HO.out]; rintro e w1 ⟨rfl, hb1⟩; have HR1 := Lib.hid (HR.out.below hb1); have HB1 := Lib.hid (HB0.out.trans (hb1.mono HB0.out.size)); have HC1 := Lib.hid hb1; obtain ⟨d0, d1, d2⟩ := box3 hb1; clear hb1)
    go_wp2_with (go_at_call 13; refine (iTouchingFaces_any d f _ n _ ss F k _ HF.out HL.out hm HR1.out).mono ?_; rw [HTL.out]; rintro e w3 ⟨aT, cT, rfl, hgl3, hb3⟩; have HG3 := Lib.hid hgl3; have HB3 := Lib.hid (HB1.out.trans (hb3.mono HB1.out.size)); have HR3 := Lib.hid (HR1.out.below hb3); have HC3 := Lib.hid (HC1.out.trans (hb3.mono HC1.out.size)); clear hgl3 hb3 d0 d1 d2; have HA3 := Lib.hid (Below.box w3 (.cells #[] 3 (0, 0))); have HC4 := Lib.hid (HC3.out.trans (HA3.out.mono HC3.out.size)); obtain ⟨f0, f1, f2⟩ := box3 HC4.out; have hw3 := HC3.out.size)
    have HO3 : Hid (Own1 (w3.alloc (.cells #[] 3 (0, 0))) w3.heap.size 3 w3.heap.size 0 0 []) := Lib.hid (Own1.empty w3 3)
    have HR4 := Lib.hid (HR3.out.below HA3.out)
    go_wp2_with (go_at_call 41; refine (iCountFaces_any d f _ n _ ss F k _ HF.out HL.out hm HR4.out).mono ?_; rintro e w4 ⟨rfl, hb4⟩; have HO4 := Lib.hid (HO3.out.below hb4); have HB4 := Lib.hid (HA3.out.trans (hb4.mono HA3.out.size)); clear hb4)
    clear f0 f1 f2 HR HR1 HR3 HR4 HC1 HC3 HC4 HA3 HO3 HB1 HB0 HF HTL
    go_loopw [5, 20] (fun v x wo => ∃ (t g cp : Nat), t ≤ k ∧ x = .int .i64 t ∧ v = .slice (some ⟨g, 0, none⟩) t cp ∧ Own1 wo w3.heap.size 3 g t cp ((List.replicate t (-1 : Int)).map (Value.int .i64)) ∧ Below w3.heap.size w3 wo) (fun _ x _ => k - (intOf x).toNat)
    case atStart => exact ⟨0, w3.heap.size, 0, Nat.zero_le _, rfl, rfl, HO4.out, HB4.out⟩
    case round =>
      obtain ⟨t, g, cp, ht, rfl, rfl, h1, h3⟩ := hrel
      rename World => wo
      have H1 := Lib.hid h1
      have H3 := Lib.hid h3
      have hgl := h1.lt
      have hwo := h3.size
      clear h1 h3
      by_cases hlt : t < k
      · have HREP : Hid ((List.replicate (t + 1) (-1 : Int)).map (Value.int .i64) = (List.replicate t (-1 : Int)).map (Value.int .i64) ++ [.int .i64 (-1)]) := Lib.hid (by rw [List.replicate_succ', List.map_append]; rfl)
        go_wp2_with (at_builtin; refine append_one rfl _ _ 28 rfl Try.underlying28 infoIntW rfl (by omega) rfl (H1.out.alloc _) (by omega) rfl (new_cell (by simp)) rfl ?_; intro g' c' w5 o5 oo5 l5; have O5 := Lib.hid o5; have OO5 := Lib.hid oo5; clear o5 oo5 l5)
        go_roundw
        case rel =>
          have hA := Below.box wo (.cells #[.int .i64 (-1)] 3 (0, 0))
          exact ⟨t + 1, g', c', by omega, by go_num, rfl, by rw [HREP.out]; exact O5.out, H3.out.trans ((hA.mono (by omega)).trans (OO5.out.toBelow (by omega) (by simp; omega)))⟩
        case measure => simp [intOf]; omega
      · have ht' : k = t := by omega
        subst ht'
        have HO5 : Hid (Own1 wo w3.heap.size 3 g k cp ((two (pAt T 0) (pAt T 1) T.length k 0).map (Value.int .i64))) := Lib.hid H1.out
        obtain ⟨lo, hGL⟩ : ∃ lo, GL wo lo w3.heap.size aT T := ⟨_, GL.below HG3.out H3.out⟩
        have HGT := Lib.hid hGL
        clear hGL HG3 HB4 HO4 hgl
        go_wp2
        go_loopw [28] (fun x wx => ∃ q : Nat, q ≤ k ∧ x = .int .i64 q ∧ Own1 wx w3.heap.size 3 g k cp ((two (pAt T 0) (pAt T 1) T.length k q).map (Value.int .i64)) ∧ OnlyB g wo wx) (fun x _ => k - (intOf x).toNat)
        case atStart => exact ⟨0, Nat.zero_le _, rfl, HO5.out, OnlyB.refl _ _⟩
        case round =>
          obtain ⟨q, hq, rfl, h1, h2⟩ := hrel
          rename World => wx
          have H1 := Lib.hid h1
          have H2 := Lib.hid h2
          clear h1 h2
          have hlen := two_len (pAt T 0) (pAt T 1) T.length k q
          have hok := two_ok (p := pAt T 0) (q := pAt T 1) (n := T.length) (m := k) HPQ.out q hq
          have HSTEP : Hid (two (pAt T 0) (pAt T 1) T.length k (q + 1) = if 0 ≤ (two (pAt T 0) (pAt T 1) T.length k q).getD q 0 then two (pAt T 0) (pAt T 1) T.length k q else itr (pAt T 0) (pAt T 1) T.length ((two (pAt T 0) (pAt T 1) T.length k q).set q 0) k) := Lib.hid rfl
          by_cases hlq : q < k
          · generalize two (pAt T 0) (pAt T 1) T.length k q = o at *
            have cq := own_cell H1.out hlq
            have fq := H1.out.frozen q
            by_cases hc : 0 ≤ o.getD q 0
            · have ec : decide (o.getD q 0 ≥ 0) = true := decide_eq_true hc
              have HNX : Hid (two (pAt T 0) (pAt T 1) T.length k (q + 1) = o) := Lib.hid (by rw [HSTEP.out, if_pos hc])
              clear hlen hok
              generalize o.getD q 0 = y at *
              go_wp2
              go_roundw
              case rel => exact ⟨q + 1, by omega, by go_num, by rw [HNX.out]; exact H1.out, H2.out⟩
              case measure => simp [intOf]; omega
            · have ec : decide (o.getD q 0 ≥ 0) = false := decide_eq_false hc
              have HNX : Hid (two (pAt T 0) (pAt T 1) T.length k (q + 1) = itr (pAt T 0) (pAt T 1) T.length (o.set q 0) k) := Lib.hid (by rw [HSTEP.out, if_neg hc])
              have HS0 : Hid (Own1 (wx.setCell ⟨g, q, none⟩ (.int .i64 0)) w3.heap.size 3 g k cp ((itr (pAt T 0) (pAt T 1) T.length (o.set q 0) 0).map (Value.int .i64))) := Lib.hid (own_set H1.out q 0)
              have HS1 := Lib.hid (H2.out.set q (.int .i64 0))
              have HL0 : Hid ((o.set q 0).length = k) := Lib.hid (by rw [set_len]; exact hlen)
              have HOK0 : Hid (okc (o.set q 0)) := Lib.hid (okc_set hok (by omega) (by omega) (by omega))
              generalize o.set q 0 = o2 at *
              clear hlen hok
              generalize o.getD q 0 = y at *
              have hcy : ¬ (0 : Int) ≤ y := hc
              have hcy2 : y < 0 := by omega
              have HEND : Hid (∀ t, swp (pAt T 0) (pAt T 1) (itr (pAt T 0) (pAt T 1) T.length o2 t) T.length = itr (pAt T 0) (pAt T 1) T.length o2 t → itr (pAt T 0) (pAt T 1) T.length o2 t = itr (pAt T 0) (pAt T 1) T.length o2 k) := Lib.hid (fun t ht => itr_end HOK0.out (fun j hj => by rw [HL0.out]; exact HPQ.out j hj) (by rw [HL0.out]; exact Nat.le_refl _) ht)
              go_wp2
              go_loopg [7] (2 * unc o2 + 1) (fun gh x wy => ∃ (r : Nat) (fl : Bool), x = .bool fl ∧ Own1 wy w3.heap.size 3 g k cp ((itr (pAt T 0) (pAt T 1) T.length o2 r).map (Value.int .i64)) ∧ OnlyB g wo wy ∧ 2 * unc (itr (pAt T 0) (pAt T 1) T.length o2 r) + (if fl = true then 1 else 0) ≤ gh ∧ (fl = false → swp (pAt T 0) (pAt T 1) (itr (pAt T 0) (pAt T 1) T.length o2 r) T.length = itr (pAt T 0) (pAt T 1) T.length o2 r))
              case atStart => exact ⟨0, true, rfl, HS0.out, HS1.out, by rw [if_pos rfl]; exact Nat.le_refl _, fun h => absurd h (by simp)⟩
              case round =>
                obtain ⟨r, fl, rfl, h1, h2, h3, h4⟩ := hrel
                rename World => wy
                clear H1 H2 HS0 HS1 cq fq hcy hcy2 ec hc
                have H1 := Lib.hid h1
                have H2 := Lib.hid h2
                have HM := Lib.hid h3
                have HQ := Lib.hid h4
                clear h1 h2 h3 h4
                cases fl
                · have HE2 := Lib.hid (HEND.out r (HQ.out rfl))
                  go_wp2
                  go_roundw
                  case rel => exact ⟨q + 1, by omega, by go_num, by rw [HNX.out, ← HE2.out]; exact H1.out, H2.out⟩
                  case measure => simp [intOf]; omega
                · have HIT : Hid (itr (pAt T 0) (pAt T 1) T.length o2 (r + 1) = swp (pAt T 0) (pAt T 1) (itr (pAt T 0) (pAt T 1) T.length o2 r) T.length) := Lib.hid rfl
                  have HLI : Hid ((itr (pAt T 0) (pAt T 1) T.length o2 r).length = k) := Lib.hid (by rw [itr_len]; exact HL0.out)
                  have HOI : Hid (okc (itr (pAt T 0) (pAt T 1) T.length o2 r)) := Lib.hid (itr_ok HOK0.out (fun j hj => by rw [HL0.out]; exact HPQ.out j hj) r)
                  generalize itr (pAt T 0) (pAt T 1) T.length o2 r = o3 at *
                  have HSC := Lib.hid (swp_chg (p := pAt T 0) (q := pAt T 1) HOI.out (n := T.length) (fun j hj => by rw [HLI.out]; exact HPQ.out j hj) T.length (Nat.le_refl _))
                  go_wp2
                  go_loopw [7, 42] (fun v x wz => ∃ j : Nat, j ≤ T.length ∧ x = .int .i64 j ∧ v = .bool (chg (pAt T 0) (pAt T 1) o3 j) ∧ Own1 wz w3.heap.size 3 g k cp ((swp (pAt T 0) (pAt T 1) o3 j).map (Value.int .i64)) ∧ OnlyB g wo wz) (fun _ x _ => T.length - (intOf x).toNat)
                  case atStart => exact ⟨0, Nat.zero_le _, rfl, rfl, H1.out, H2.out⟩
                  case round =>
                    obtain ⟨j, hj, rfl, rfl, h1, h2⟩ := hrel
                    rename World => wz
                    clear H1 H2
                    have H1 := Lib.hid h1
                    have H2 := Lib.hid h2
                    have hgl4 := h1.lt
                    clear h1 h2
                    by_cases hlj : j < T.length
                    · obtain ⟨p, q', hrow, hp, hq'⟩ := HROW.out j hlj
                      rcases HGT.out with hgl | ⟨gt, rfl, hgl⟩
                      · rw [hgl] at hlj
                        exact absurd hlj (Nat.not_lt_zero j)
                      · have hgz := hgl.blocks (w' := wz) (fun x hx1 hx2 hx3 => H2.out.block x hx1 (by omega))
                        obtain ⟨bb, c0, c1, c2⟩ := hgz.pair hlj hrow
                        have hpp : pAt T 0 j = p := by unfold pAt; rw [hrow]; rfl
                        have hqq : pAt T 1 j = q' := by unfold pAt; rw [hrow]; rfl
                        have HSW : Hid (swp (pAt T 0) (pAt T 1) o3 (j + 1) = stp (swp (pAt T 0) (pAt T 1) o3 j) p q') := Lib.hid (by
                          show stp _ _ _ = _
                          rw [hpp, hqq])
                        have HCH : Hid (chg (pAt T 0) (pAt T 1) o3 (j + 1) = (chg (pAt T 0) (pAt T 1) o3 j || tns (swp (pAt T 0) (pAt T 1) o3 j) p q')) := Lib.hid (by
                          show (_ || tns _ _ _) = _
                          rw [hpp, hqq])
                        clear hpp hqq
                        have HOS : Hid (okc (swp (pAt T 0) (pAt T 1) o3 j)) := Lib.hid (swp_ok HOI.out (fun j hj => by rw [HLI.out]; exact HPQ.out j hj) j (Nat.le_of_lt hlj))
                        have HLS : Hid ((swp (pAt T 0) (pAt T 1) o3 j).length = k) := Lib.hid (by rw [swp_len]; exact HLI.out)
                        generalize swp (pAt T 0) (pAt T 1) o3 j = o4 at *
                        generalize chg (pAt T 0) (pAt T 1) o3 j = ch at *
                        have cp' := own_cell H1.out hp
                        have cq' := own_cell H1.out hq'
                        have fp := H1.out.frozen p
                        have fq := H1.out.frozen q'
                        have hbp := HOS.out p (by rw [HLS.out]; exact hp)
                        have hbq := HOS.out q' (by rw [HLS.out]; exact hq')
                        have k0 : (0 : Int) ≤ (p : Int) := Int.natCast_nonneg _
                        have k1 : (p : Int) < (k : Int) := by omega
                        have k2 : (0 : Int) ≤ (q' : Int) := Int.natCast_nonneg _
                        have k3 : (q' : Int) < (k : Int) := by omega
                        have k4 : (0 : Int) ≤ (j : Int) := Int.natCast_nonneg _
                        have k5 : (j : Int) < (T.length : Int) := by omega
                        have HST : Hid (stp o4 p q' = if 0 ≤ o4.getD p 0 ∧ o4.getD q' 0 < 0 then o4.set q' (1 - o4.getD p 0) else if 0 ≤ o4.getD q' 0 ∧ o4.getD p 0 < 0 then o4.set p (1 - o4.getD q' 0) else o4) := Lib.hid rfl
                        have HSP : Hid (∀ v, Own1 (wz.setCell ⟨g, p, none⟩ (.int .i64 v)) w3.heap.size 3 g k cp ((o4.set p v).map (Value.int .i64)) ∧ OnlyB g wo (wz.setCell ⟨g, p, none⟩ (.int .i64 v))) := Lib.hid (fun v => ⟨own_set H1.out p v, H2.out.set p _⟩)
                        have HSQ : Hid (∀ v, Own1 (wz.setCell ⟨g, q', none⟩ (.int .i64 v)) w3.heap.size 3 g k cp ((o4.set q' v).map (Value.int .i64)) ∧ OnlyB g wo (wz.setCell ⟨g, q', none⟩ (.int .i64 v))) := Lib.hid (fun v => ⟨own_set H1.out q' v, H2.out.set q' _⟩)
                        have HTN : Hid (tns o4 p q' = decide ((0 ≤ o4.getD p 0 ∧ o4.getD q' 0 < 0) ∨ (0 ≤ o4.getD q' 0 ∧ o4.getD p 0 < 0))) := Lib.hid rfl
                        clear hrow hgl hgz
                        generalize hx : o4.getD p 0 = x at *
                        generalize hy : o4.getD q' 0 = y at *
                        have HXP := Lib.hid hx
                        have HXQ := Lib.hid hy
                        clear hx hy
                        by_cases hx0 : 0 ≤ x
                        · by_cases hy0 : y < 0
                          · have hne : p ≠ q' := fun e => by have h1 := HXP.out; have h2 := HXQ.out; rw [e] at h1; omega
                            have hne2 : q' ≠ p := fun e => hne e.symm
                            have g0 : decide (x < 0) = false := decide_eq_false (by omega)
                            have g1 : decide (x ≥ 0) = true := decide_eq_true hx0
                            have g2 : decide (y < 0) = true := decide_eq_true hy0
                            have e1 : IntKind.i64.wrap (1 - x) = 1 - x := IntWalk.i64_in _ (by omega)
                            have HE : Hid (stp o4 p q' = o4.set q' (1 - x)) := Lib.hid (by rw [HST.out, if_pos ⟨hx0, hy0⟩])
                            have HT : Hid (tns o4 p q' = true) := Lib.hid (by rw [HTN.out]; exact decide_eq_true (.inl ⟨hx0, hy0⟩))
                            go_wp2
                            go_region
                            go_wp2
                            go_roundw
                            case rel => exact ⟨j + 1, by omega, by go_num, by rw [HCH.out, HT.out, Bool.or_true], by rw [HSW.out, HE.out]; exact (HSQ.out (1 - x)).1.heap rfl, ⟨(HSQ.out (1 - x)).2.os, (HSQ.out (1 - x)).2.tape, (HSQ.out (1 - x)).2.output, (HSQ.out (1 - x)).2.size, (HSQ.out (1 - x)).2.block⟩⟩
                            case measure => simp [intOf]; omega
                          · have g0 : decide (x < 0) = false := decide_eq_false (by omega)
                            have g1 : decide (x ≥ 0) = true := decide_eq_true hx0
                            have g2 : decide (y < 0) = false := decide_eq_false hy0
                            have HE : Hid (stp o4 p q' = o4) := Lib.hid (by rw [HST.out, if_neg (by omega), if_neg (by omega)])
                            have HT : Hid (tns o4 p q' = false) := Lib.hid (by rw [HTN.out]; exact decide_eq_false (by omega))
                            go_wp2
                            go_region
                            go_wp2
                            go_roundw
                            case rel => exact ⟨j + 1, by omega, by go_num, by rw [HCH.out, HT.out, Bool.or_false], by rw [HSW.out, HE.out]; exact H1.out.heap rfl, ⟨H2.out.os, H2.out.tape, H2.out.output, H2.out.size, H2.out.block⟩⟩
                            case measure => simp [intOf]; omega
                        · by_cases hy0 : y < 0
                          · have g0 : decide (x < 0) = true := decide_eq_true (by omega)
                            have g1 : decide (x ≥ 0) = false := decide_eq_false hx0
                            have g3 : decide (y ≥ 0) = false := decide_eq_false (by omega)
                            have HE : Hid (stp o4 p q' = o4) := Lib.hid (by rw [HST.out, if_neg (by omega), if_neg (by omega)])
                            have HT : Hid (tns o4 p q' = false) := Lib.hid (by rw [HTN.out]; exact decide_eq_false (by omega))
                            go_wp2
                            go_region
                            go_wp2
                            go_roundw
                            case rel => exact ⟨j + 1, by omega, by go_num, by rw [HCH.out, HT.out, Bool.or_false], by rw [HSW.out, HE.out]; exact H1.out.heap rfl, ⟨H2.out.os, H2.out.tape, H2.out.output, H2.out.size, H2.out.block⟩⟩
                            case measure => simp [intOf]; omega
                          · have g0 : decide (x < 0) = true := decide_eq_true (by omega)
                            have g3 : decide (y ≥ 0) = true := decide_eq_true (by omega)
                            have g5 : decide (y < 0) = false := decide_eq_false (by omega)
                            have e1 : IntKind.i64.wrap (1 - y) = 1 - y := IntWalk.i64_in _ (by omega)
                            have HE : Hid (stp o4 p q' = o4.set p (1 - y)) := Lib.hid (by rw [HST.out, if_neg (by omega), if_pos (by omega)])
                            have HT : Hid (tns o4 p q' = true) := Lib.hid (by rw [HTN.out]; exact decide_eq_true (by omega))
                            go_wp2
                            go_region
                            go_wp2
                            go_roundw
                            case rel => exact ⟨j + 1, by omega, by go_num, by rw [HCH.out, HT.out, Bool.or_true], by rw [HSW.out, HE.out]; exact (HSP.out (1 - y)).1.heap rfl, ⟨(HSP.out (1 - y)).2.os, (HSP.out (1 - y)).2.tape, (HSP.out (1 - y)).2.output, (HSP.out (1 - y)).2.size, (HSP.out (1 - y)).2.block⟩⟩
                            case measure => simp [intOf]; omega
                    · have hj' : j = T.length := by omega
                      subst hj'
                      have hgo : 2 * unc (swp (pAt T 0) (pAt T 1) o3 T.length) + (if chg (pAt T 0) (pAt T 1) o3 T.length = true then 1 else 0) < 2 * unc o3 + 1 := by
                        obtain ⟨_, h2, h3⟩ := HSC.out
                        cases hc : chg (pAt T 0) (pAt T 1) o3 T.length
                        · rw [if_neg (by simp)]; omega
                        · have := h2 hc
                          rw [if_pos rfl]; omega
                      have HGO := Lib.hid hgo
                      clear hgo
                      go_wp2
                      go_roundg (2 * unc (swp (pAt T 0) (pAt T 1) o3 T.length) + (if chg (pAt T 0) (pAt T 1) o3 T.length = true then 1 else 0))
                      case measure => exact Nat.lt_of_lt_of_le HGO.out (by have hm := HM.out; first | (rw [if_pos rfl] at hm; exact hm) | (rw [if_pos trivial] at hm; exact hm) | (simp only [if_true] at hm; omega))
                      case rel => exact ⟨r + 1, _, rfl, by rw [HIT.out]; exact H1.out, H2.out, by rw [HIT.out]; exact Nat.le_refl _, fun h => by rw [HIT.out, HSC.out.1 h, HSC.out.1 h]⟩
          · have hq' : k = q := by omega
            subst hq'
            have hgl5 := H1.out.lt
            go_wp2
            go_ret2
            unfold GetLB
            rw [HV.out, two_len]
            refine ⟨some ⟨g, 0, none⟩, cp, rfl, H1.out.sl, Fresh.of (by have := HB3.out.size; omega), HB3.out.trans ((H3.out.trans (H2.out.toBelow (by omega) (by omega))).mono HB3.out.size)⟩
end Go.Proofs.Yteojoifhmaoiaaa
