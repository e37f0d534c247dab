/-
  The Go function laws.FnSpines returns true for every input and leaves its arguments as they were; no condition.
  By an AI agent.
-/
import Derived.Test.YtjkcmjnejbobeaaRows
import Derived.WalkKit
import Derived.ProofKit
import Derived.OpenShut
import Derived.Carry
import Derived.ChangeOld
import Derived.Below
import Derived.Lib.SmallJoins
import Derived.Deep.Slices
import Derived.Deep.Fields
import Derived.Lib.Hide
import Derived.Test.YtjkcmjnejbobeaaSpS
import Derived.Deep.RegionHeld3
import Derived.Deep.DeepCutAuto
namespace Go.Proofs.Ytjkcmjnejbobeaa.fnSpines
open Go.Proofs.Ytjkcmjnejbobeaa Go.ChangeShapes Go.WideShapes Go.ChangeAt Go.RowKit Go.Joins Go.Deep

set_option linter.unusedVariables false
set_option maxRecDepth 100000

theorem own : ownKnob Try.prog.godebug = none := by kernel_rfl
theorem laidOut : laidOutB Try.prog = true := by kernel_rfl



set_option maxHeartbeats 3200000 in
theorem walk (w : World) (a0 : Option Addr) (l0 c0 : Nat) (z0 : List Int) (w0 : IsRow .u8 w a0 l0 c0 z0) :
    Calls Try.prog 3 #[.slice a0 l0 c0] w fun e w' => e = .returned (.bool true) ∧ Below w.heap.size w w' := by
  obtain ⟨hmx, _⟩ := w0.cells
  obtain ⟨_, hby⟩ := Bytes.of w0
  have HBY := Lib.hid hby
  clear hby w0
  by_cases hbig : l0 ≤ 1048576
  · have hb : decide (1048576 < (l0 : Int)) = false := decide_eq_false (by omega)
    go_enter Try.func3, Try.ntmps3
    go_wp2_with fail
    refine (big_any a0 l0 c0 _ hmx).mono ?_
    rw [hb]
    rintro e w1 ⟨rfl, rfl⟩
    clear hb
    go_wp2_with fail
    refine (drawBook_any a0 l0 c0 _ hbig HBY.out).mono ?_
    rintro e w1 ⟨n, g, cL, xs, rfl, hl, hr, hn4, hps, hcap, hB⟩
    have HL := Lib.hid hl
    have HR := Lib.hid hr
    have HB := Lib.hid hB
    have HD : Hid (∀ x ∈ xs, Drn w.heap.size x) := Lib.hid hps
    have HMS : Hid (∀ i, i < n → (xs.getD i default).modest) := Lib.hid (fun i hi => (drn_at HD.out (by rw [hl]; exact hi)).modest)
    clear hl hr hps hB
    go_wp2_with fail
    refine (at_by a0 l0 c0 0 w1 (by omega) hbig (HBY.out.below HB.out)).mono ?_
    rintro e w3 ⟨⟨v0, rfl, hv00, hv01⟩, rfl⟩
    have hvm : 0 ≤ v0 % 10 ∧ v0 % 10 ≤ 9 := by omega
    obtain ⟨hm0, hm1⟩ := hvm
    go_wp2_with fail
    generalize hK : 1 + v0 % 10 = sh at *
    have hs1 : 1 ≤ sh := by omega
    have hs2 : sh ≤ 10 := by omega
    clear hK hm0 hm1
    refine (at_by a0 l0 c0 1 w1 (by omega) hbig (HBY.out.below HB.out)).mono ?_
    rintro e w3 ⟨⟨v1, rfl, hv10, hv11⟩, rfl⟩
    have hvm : 0 ≤ v1 % 10 ∧ v1 % 10 ≤ 9 := by omega
    obtain ⟨hm0, hm1⟩ := hvm
    go_wp2_with fail
    generalize hK : 1 + v1 % 10 = gd at *
    have hg1 : 1 ≤ gd := by omega
    have hg2 : gd ≤ 10 := by omega
    clear hK hm0 hm1 hv00 hv01 hv10 hv11
    have hbk := drn_book HD.out hs1 hs2 (by rw [HL.out]; omega)
    refine (iGuardsNeeded_any g 0 n cL xs sh gd _ HL.out (by omega) HMS.out HR.out).mono ?_
    obtain ⟨gs, hgs⟩ : ∃ gs, gl xs sh gd n = gs := ⟨_, rfl⟩
    have hgl : gs.length = n := by rw [← hgs, gl_len]
    have HGS := Lib.hid hgs
    rw [show gnR xs sh gd = gs by rw [gnR_yes hbk hg1 (by omega), HL.out, hgs]]
    unfold GetL
    rw [hgl]
    rintro e w3 ⟨aG, cG, rfl, hrg, _, hb3⟩
    have HR3 := Lib.hid (HR.out.below hb3)
    have HG3 := Lib.hid hrg
    have HB3 := Lib.hid (HB.out.trans (hb3.mono HB.out.size))
    clear hb3 hrg HR HB hgs
    go_wp2_with fail
    refine (iSpineWidth_any g 0 n cL xs sh _ HL.out (by omega) HMS.out HR3.out).mono ?_
    have hsum := sumT_bd (xs := xs) (sh := sh) n (fun i hi => by have := drn_tc HD.out hs1 hs2 (i := i) (by rw [HL.out]; exact hi); omega)
    obtain ⟨SM, hSM⟩ : ∃ x, sumT xs sh n = x := ⟨_, rfl⟩
    have HSM := Lib.hid hSM
    rw [show spineR xs sh = SM by unfold spineR; rw [if_pos hbk, HL.out, hSM]]
    rw [hSM] at hsum
    obtain ⟨hsm0, hsm1⟩ := hsum
    rintro e w4 ⟨rfl, hb4⟩
    have HR4 := Lib.hid (HR3.out.below hb4)
    have HG4 := Lib.hid (HG3.out.below hb4)
    have HB4 := Lib.hid (HB3.out.trans (hb4.mono HB3.out.size))
    clear hb4 HR3 HG3 HB3 hSM
    go_wp2_with fail
    refine (iThickOrder_any g 0 n cL xs sh _ HL.out (by omega) HMS.out HR4.out).mono ?_
    obtain ⟨f, hf⟩ : ∃ f, ordF (tcN xs sh) n = f := ⟨_, rfl⟩
    have HFLT : Hid (∀ i, i < n → f i < n) := Lib.hid (by rw [← hf]; exact ordF_lt _ n)
    have HFIN : Hid (∀ a b, a < b → b < n → f a ≠ f b) := Lib.hid (by rw [← hf]; exact ordF_inj _ n)
    have HFMX : Hid (∀ k, k < n → tcN xs sh k ≤ tcN xs sh (f 0)) := Lib.hid (fun k hk => by rw [← hf]; exact ordF_max _ hk)
    obtain ⟨o, ho⟩ : ∃ o, zgF f n = o := ⟨_, rfl⟩
    have HOLT : Hid (∀ i, i < n → o i < n) := Lib.hid (fun i hi => by rw [← ho]; exact zg_lt HFLT.out hi)
    have HOIN : Hid (∀ a b, a < b → b < n → o a ≠ o b) := Lib.hid (fun a b hab hb => by rw [← ho]; exact zg_inj HFIN.out hab hb)
    have HOZ : Hid (o 0 = f 0) := Lib.hid (by rw [← ho]; rfl)
    obtain ⟨os, hos⟩ : ∃ os, nl o n = os := ⟨_, rfl⟩
    have hol : os.length = n := by rw [← hos, nl_len]
    have HOS := Lib.hid hos
    rw [show thR xs sh = os by unfold thR thO; rw [if_pos hbk, HL.out, hf, ho, hos]]
    unfold GetL
    rw [hol]
    rintro e w5 ⟨aO, cO, rfl, hro, _, hb5⟩
    have HS5 := Lib.hid (⟨HR4.out.below hb5, HG4.out.below hb5, hro, HB4.out.trans (hb5.mono HB4.out.size)⟩ : SpS w g n xs aG gs aO os w5)
    clear hb5 hro HR4 HG4 HB4 hf ho hos hbk
    have e1 : ((n : Int) != (n : Int)) = false := by simp
    have HBK := Lib.hid (drn_book HD.out hs1 hs2 (by rw [HL.out]; omega))
    go_wp2_with fail
    clear e1
    go_loopw [9, 10, 11] (fun s b i wr => ∃ k : Nat, k ≤ n ∧ i = .int .i64 k ∧ s = .int .i64 (sumT xs sh k) ∧ b = .int .i64 (snF o k) ∧ SpS w g n xs aG gs aO os wr) (fun _ _ i _ => n - (intOf i).toNat)
    case atStart => exact ⟨0, Nat.zero_le _, rfl, rfl, rfl, HS5.out⟩
    case round =>
      clear HS5
      obtain ⟨k, hk, rfl, rfl, rfl, hs⟩ := hrel
      have HS := Lib.hid hs
      clear hs
      have hsk := sumT_bd (xs := xs) (sh := sh) k (fun i hi => by have := drn_tc HD.out hs1 hs2 (i := i) (by rw [HL.out]; omega); omega)
      obtain ⟨hsk0, hsk1⟩ := hsk
      by_cases hlt : k < n
      · obtain ⟨gG, rfl, hrg⟩ := HS.out.gds.row (by omega)
        obtain ⟨gO, rfl, hro⟩ := HS.out.ord.row (by omega)
        obtain ⟨a1, cp, ⟨c0, c1, c2⟩, s1⟩ := HS.out.book k hlt
        simp only [Nat.zero_add] at c0 c1 c2
        have S1 := Lib.hid s1
        obtain ⟨m1, m2⟩ := HMS.out k hlt
        have M1 := Lib.hid m1
        have hgn := drn_gn HD.out hs1 hs2 hg1 hg2 (i := k) (by rw [HL.out]; exact hlt)
        have hth := drn_tc HD.out hs1 hs2 (i := k) (by rw [HL.out]; exact hlt)
        have HY1 : Hid (swellB [xs.getD k default] sh gd [gnN xs sh gd k - 1] = true) := Lib.hid (one_yes HD.out hs1 hs2 hg1 hg2 (by rw [HL.out]; exact hlt))
        have HY2 : Hid (swellB [xs.getD k default] sh gd [gnN xs sh gd k] = false) := Lib.hid (one_no HD.out hs1 hs2 hg1 hg2 (by rw [HL.out]; exact hlt))
        have HM1 : Hid (∀ i, i < 1 → ([xs.getD k default].getD i default).modest) := Lib.hid (fun i hi => by
          have : i = 0 := by omega
          subst this
          exact HMS.out k hlt)
        have HTK : Hid (thk (xs.getD k default).d (xs.getD k default).f (xs.getD k default).ss sh = tcN xs sh k) := Lib.hid rfl
        have HSS : Hid (sumT xs sh (k + 1) = sumT xs sh k + tcN xs sh k) := Lib.hid rfl
        have hcg := hrg.cell hlt
        have hco := hro.cell hlt
        unfold ic at hcg hco
        rw [← HGS.out, gl_at hlt] at hcg
        rw [← HOS.out, nl_at hlt] at hco
        have hob := HOLT.out k hlt
        have HONE : Hid (∀ wx, SpS w g n xs (some ⟨gG, 0, none⟩) gs (some ⟨gO, 0, none⟩) os wx → LC wx g (k * 3) 1 [xs.getD k default]) := Lib.hid (fun wx h => h.book.one hlt)
        have HCO : Hid (∀ wx, SpS w g n xs (some ⟨gG, 0, none⟩) gs (some ⟨gO, 0, none⟩) os wx → wx.cell? ⟨gO, k, none⟩ = some (.int .i64 (o k : Nat))) := Lib.hid (fun wx h => by
          obtain ⟨g', hg', r⟩ := h.ord.row (by omega)
          simp only [Option.some.injEq, Addr.mk.injEq, and_true] at hg'
          subst hg'
          have := r.cell hlt
          unfold ic at this
          rw [← HOS.out, nl_at hlt] at this
          exact this)
        have HSN : Hid (snF o (k + 1) = bits .or .i64 (snF o k) (2 ^ (o k))) := Lib.hid rfl
        generalize hxe : xs.getD k default = x at *
        have HXE := Lib.hid hxe
        generalize gnN xs sh gd k = G at *
        generalize hq : o k = q at *
        obtain ⟨y1, y2, y3, y4⟩ := two_pow (q := q) (by omega)
        generalize hsu : sumT xs sh (k + 1) = su at *
        have HSU := Lib.hid hsu
        generalize tcN xs sh k = t at *
        generalize sumT xs sh k = s0 at *
        generalize snF o k = b0 at *
        obtain ⟨P, hP⟩ : ∃ P, G * gd = P := ⟨_, rfl⟩
        obtain ⟨G1, hG1⟩ : ∃ G1, G - 1 = G1 := ⟨_, rfl⟩
        obtain ⟨P1, hP1⟩ : ∃ P1, G1 * gd = P1 := ⟨_, rfl⟩
        rw [hP, hG1, hP1] at hgn
        rw [hG1] at HY1
        obtain ⟨n1, n2, n3, n4, n5, n6⟩ := hgn
        obtain ⟨n7, n8⟩ := hth
        have e1 : IntKind.i64.wrap (s0 + t) = su := by rw [← HSS.out]; exact IntWalk.i64_in _ (by rw [HSS.out]; omega)
        have e2 : IntKind.i64.wrap (G * gd) = P := by rw [hP]; exact IntWalk.i64_in _ (by omega)
        have e3 : IntKind.i64.wrap (2 * sh) = 2 * sh := IntWalk.i64_in _ (by omega)
        have e4 : IntKind.i64.wrap (t - 2 * sh) = t - 2 * sh := IntWalk.i64_in _ (by omega)
        have e5 : IntKind.i64.wrap (G - 1) = G1 := by rw [← hG1]; exact IntWalk.i64_in _ (by omega)
        have e5' : wrap64 (G - 1) = G1 := by rw [← hG1]; exact IntWalk.wrap64_in _ (by omega)
        have e6 : IntKind.i64.wrap (G1 * gd) = P1 := by rw [hP1]; exact IntWalk.i64_in _ (by omega)
        have e7 : IntKind.i64.wrap ((k : Int) + 1) = (k : Int) + 1 := IntWalk.i64_in _ (by omega)
        have k0 : (0 : Int) ≤ (k : Int) := by omega
        have k1 : (k : Int) < (n : Int) := by omega
        have k2 : (k : Int) + 1 ≤ (cL : Int) := by omega
        have k3 : (k : Int) ≤ (k : Int) + 1 := by omega
        have k4 : k + 1 ≤ cL := by omega
        have k5 : k ≤ cL := by omega
        have k6 : ¬ (cL = k) := by omega
        have k7 : (0 : Int) ≤ (k : Int) + 1 := by omega
        have k8 : ((k : Int) + 1).toNat = k + 1 := by omega
        have q0 : (0 : Int) ≤ (q : Int) := by omega
        have q1 : (q : Int) < (n : Int) := by omega
        have t1 : decide (P < t - 2 * sh) = false := decide_eq_false (by omega)
        have t2 : decide (P1 ≥ t - 2 * sh) = false := decide_eq_false (by omega)
        have t3 : decide ((q : Int) < 0) = false := decide_eq_false (by omega)
        have t4 : decide ((q : Int) ≥ (n : Int)) = false := decide_eq_false (by omega)
        have t5 : decide (n ≤ q) = false := decide_eq_false (by omega)
        have t6 : decide (t - 2 * sh ≤ P1) = false := decide_eq_false (by omega)
        clear hrg hro s1 m1 hxe hq hsu hP hG1 hP1 HSS
        go_wp2_with fail
        refine (sThickness_any x.d x.f _ x.n cp x.ss sh _ M1.out m2 S1.out).mono ?_
        rw [HTK.out]
        rintro e w6 ⟨rfl, hb6⟩
        have HS6 := Lib.hid (HS.out.below hb6)
        have hcg6 := (hb6.cell (World.block_lt_of_cell? _ _ hcg)).trans hcg
        have hco6 := (hb6.cell (World.block_lt_of_cell? _ _ hco)).trans hco
        clear hb6 HS hcg hco c0 c1 c2
        go_wp2_with fail
        have hS : Hid (SpQ w g n xs (some ⟨gG, 0, none⟩) gs (some ⟨gO, 0, none⟩) os gG k G w6.drew) := Lib.hid (SpQ.next ⟨hcg6, HS6⟩ (Below.refl _ _).drew)
        clear HS6 hcg6 hco6
        go_region_held3 (fun w' => w'.cell? ⟨gG, k, none⟩ = some (.int .i64 G) ∧ Hid (SpS w g n xs (some ⟨gG, 0, none⟩) gs (some ⟨gO, 0, none⟩) os w')) (first | exact hS.out | exact (SpQ.box (show SpQ w g n xs (some ⟨gG, 0, none⟩) gs (some ⟨gO, 0, none⟩) os gG k G _ from by assumption) _) | (go_keep; done)) (first | ((go_at_call 16; refine (iBookSwells_any g (k * 3) 1 _ [x] sh gd (some ⟨_, 0, none⟩) 1 1 [G1] _ rfl (by omega) HM1.out (HONE.out _ (show SpQ w g n xs (some ⟨gG, 0, none⟩) gs (some ⟨gO, 0, none⟩) os gG k G _ from by assumption).2.out) rfl (by omega) (.of_row (row_one _ _ 3).drew)).mono ?_; rw [HY1.out]; rintro e wS ⟨rfl, bS⟩; have hS := Lib.hid (SpQ.next (show SpQ w g n xs (some ⟨gG, 0, none⟩) gs (some ⟨gO, 0, none⟩) os gG k G _ from by assumption) bS); clear bS)) | (fail))
        have hq1 := hS.out
        clear hS
        have hS := Lib.hid (hq1.next (Below.refl _ _).drew)
        have hcg6 := hq1.1
        clear hq1
        go_wp2_with fail
        go_region_held3 (fun w' => w'.cell? ⟨gG, k, none⟩ = some (.int .i64 G) ∧ Hid (SpS w g n xs (some ⟨gG, 0, none⟩) gs (some ⟨gO, 0, none⟩) os w')) (first | exact hS.out | exact (SpQ.box (show SpQ w g n xs (some ⟨gG, 0, none⟩) gs (some ⟨gO, 0, none⟩) os gG k G _ from by assumption) _) | (go_keep; done)) (first | ((go_at_call 16; refine (iBookSwells_any g (k * 3) 1 _ [x] sh gd (some ⟨_, 0, none⟩) 1 1 [G] _ rfl (by omega) HM1.out (HONE.out _ (show SpQ w g n xs (some ⟨gG, 0, none⟩) gs (some ⟨gO, 0, none⟩) os gG k G _ from by assumption).2.out) rfl (by omega) (.of_row (row_one _ _ 3).drew)).mono ?_; rw [HY2.out]; rintro e wS ⟨rfl, bS⟩; have hS := Lib.hid (SpQ.next (show SpQ w g n xs (some ⟨gG, 0, none⟩) gs (some ⟨gO, 0, none⟩) os gG k G _ from by assumption) bS); clear bS)) | (fail))
        have hco6 := HCO.out _ hS.out.2.out
        go_wp2
        go_roundw
        case rel => exact ⟨k + 1, by omega, by go_num, by rw [HSU.out], by rw [HSN.out], hS.out.2.out⟩
        case measure => simp [intOf]; omega
      · have hk' : n = k := by omega
        subst hk'
        have i0 : ¬ ((n : Int) < (n : Int)) := by omega
        have HSNN : Hid (snF o n = 2 ^ n - 1) := Lib.hid (snF_all hn4 HOLT.out HOIN.out)
        obtain ⟨y1, y2, y3, y4⟩ := two_pow (q := n) hn4
        obtain ⟨y5, y6⟩ := two_pow1 (q := n) hn4
        clear y3 y4
        rw [HSM.out, HSNN.out]
        go_wp2_with fail
        clear i0
        have HC1 : Hid (ciR SM xs sh = (n : Int)) := Lib.hid (by
          have := ci_all HD.out hs1 hs2 (by rw [HL.out]; omega)
          rw [HL.out, HSM.out] at this
          exact this)
        obtain ⟨L1, hL1⟩ : ∃ x, ciR (SM - 1) xs sh = x := ⟨_, rfl⟩
        have HL1 : Hid (0 < n → L1 = ((n - 1 : Nat) : Int)) := Lib.hid (fun h0 => by
          have := ci_less HD.out hs1 hs2 (by rw [HL.out]; omega) (by rw [HL.out]; exact h0)
          rw [HL.out, HSM.out, hL1] at this
          exact this)
        have HC2 := Lib.hid hL1
        have HALL : Hid (swellB xs sh gd gs = false) := Lib.hid (by
          have := all_no HD.out hs1 hs2 hg1 hg2 (by rw [HL.out]; omega)
          rw [HL.out, HGS.out] at this
          exact this)
        clear hL1 hsk0 hsk1
        refine (iCardsIn_any SM g 0 n cL xs sh _ HL.out (by omega) HMS.out HS.out.book (lit_wf (by omega) (by omega))).mono ?_
        rw [HC1.out]
        rintro e w6 ⟨rfl, hb⟩
        have HS6 := Lib.hid (HS.out.below hb)
        have e1 : IntKind.i64.wrap (SM - 1) = SM - 1 := IntWalk.i64_in _ (by omega)
        clear hb HS
        go_wp2_with fail
        refine (iCardsIn_any (SM - 1) g 0 n cL xs sh _ HL.out (by omega) HMS.out HS6.out.book (lit_wf (by omega) (by omega))).mono ?_
        rw [HC2.out]
        rintro e w7 ⟨rfl, hb⟩
        have HS7 := Lib.hid (HS6.out.below hb)
        clear hb HS6 e1
        have HEND : Hid (∀ (wx : World), SpS w g n xs aG gs aO os wx → Calls Try.prog 16 #[.slice (some ⟨g, 0, none⟩) n cL, .int .i64 sh, .int .i64 gd, .slice aG n cG] wx fun e w' => e = .returned (.bool false) ∧ Below wx.heap.size wx w') := Lib.hid (fun wx h => by
          have := iBookSwells_any g 0 n cL xs sh gd aG n cG gs wx HL.out (by omega) HMS.out h.book hgl (by omega) h.gds
          rw [HALL.out] at this
          exact this)
        by_cases h0 : 0 < n
        · have hq := HOLT.out 0 h0
          obtain ⟨gO, rfl, hro⟩ := HS7.out.ord.row h0
          have hco := hro.cell h0
          unfold ic at hco
          rw [← HOS.out, nl_at h0] at hco
          obtain ⟨r, hr⟩ : ∃ r, r = n - 1 := ⟨_, rfl⟩
          have hrn : r < n := by omega
          have hL2 := HL1.out h0
          rw [← hr] at hL2
          have hmx := HFMX.out r hrn
          rw [← HOZ.out] at hmx
          have e2 : IntKind.i64.wrap ((n : Int) - 1) = (r : Int) := by rw [show (n : Int) - 1 = (r : Int) by omega]; exact IntWalk.i64_in _ (by omega)
          have e3 : wrap64 ((n : Int) - 1) = (r : Int) := by rw [show (n : Int) - 1 = (r : Int) by omega]; exact IntWalk.wrap64_in _ (by omega)
          have HTX : Hid (thk (xs.getD (o 0) default).d (xs.getD (o 0) default).f (xs.getD (o 0) default).ss sh = tcN xs sh (o 0)) := Lib.hid rfl
          have HTY : Hid (thk (xs.getD r default).d (xs.getD r default).f (xs.getD r default).ss sh = tcN xs sh r) := Lib.hid rfl
          obtain ⟨ax, cx, ⟨x0, x1, x2⟩, sx⟩ := HS7.out.book (o 0) hq
          obtain ⟨ay, cy, ⟨u0, u1, u2⟩, sy⟩ := HS7.out.book r hrn
          simp only [Nat.zero_add] at x0 x1 x2 u0 u1 u2
          obtain ⟨mx1, mx2⟩ := HMS.out (o 0) hq
          obtain ⟨my1, my2⟩ := HMS.out r hrn
          have SX := Lib.hid sx
          have SY := Lib.hid sy
          have MX1 := Lib.hid mx1
          have MY1 := Lib.hid my1
          generalize o 0 = q at *
          generalize xs.getD q default = X at *
          generalize xs.getD r default = Y at *
          generalize tcN xs sh q = tx at *
          generalize tcN xs sh r = ty at *
          subst hL2
          have p0 : ∀ i : WB w7, i.x.cell? ⟨gO, 0, none⟩ = some (.int .i64 (q : Nat)) := fun i => i.cell hco
          have p1 : ∀ i : WB w7, i.x.cell? ⟨g, q * 3, none⟩ = some (.int .i64 X.d) := fun i => i.cell x0
          have p2 : ∀ i : WB w7, i.x.cell? ⟨g, q * 3 + 1, none⟩ = some (.int .i64 X.f) := fun i => i.cell x1
          have p3 : ∀ i : WB w7, i.x.cell? ⟨g, q * 3 + 2, none⟩ = some (.slice (some ⟨ax, 0, none⟩) X.n cx) := fun i => i.cell x2
          have p4 : ∀ i : WB w7, i.x.cell? ⟨g, r * 3, none⟩ = some (.int .i64 Y.d) := fun i => i.cell u0
          have p5 : ∀ i : WB w7, i.x.cell? ⟨g, r * 3 + 1, none⟩ = some (.int .i64 Y.f) := fun i => i.cell u1
          have p6 : ∀ i : WB w7, i.x.cell? ⟨g, r * 3 + 2, none⟩ = some (.slice (some ⟨ay, 0, none⟩) Y.n cy) := fun i => i.cell u2
          have t0 : decide ((n : Int) > 0) = true := decide_eq_true (by omega)
          have t1 : decide (0 < n) = true := decide_eq_true h0
          have t2 : decide (tx < ty) = false := decide_eq_false (by omega)
          have t3 : ((r : Int) != (r : Int)) = false := by simp
          have n0 : (0 : Int) < (n : Int) := by omega
          have q0 : (0 : Int) ≤ (q : Int) := by omega
          have q1 : (q : Int) < (n : Int) := by omega
          have r0 : (0 : Int) ≤ (r : Int) := by omega
          have r1 : (r : Int) < (n : Int) := by omega
          clear hco x0 x1 x2 u0 u1 u2 sx sy mx1 my1 hro hr hmx HL1 HC2
          go_wp2_with fail
          refine wp_quietB (by kernel_rfl) (by kernel_rfl) ?_
          repeat (go_big_quiet_step ((first | (go_at_call_of 15 (Value.slice (some ⟨ay, 0, none⟩) Y.n cy); exact quietV (by rw [HTY.out]) (sThickness_any Y.d Y.f (some ⟨ay, 0, none⟩) Y.n cy Y.ss sh _ MY1.out my2 (SY.out.below (WB.b _)))) | (go_at_call 15; exact quietV (by rw [HTX.out]) (sThickness_any X.d X.f (some ⟨ax, 0, none⟩) X.n cx X.ss sh _ MX1.out mx2 (SX.out.below (WB.b _)))))))
          refine wpQuiet_nil ?_
          rintro wS' ⟨⟨wx, bS⟩, hwS⟩
          replace hwS : wS' = wx := hwS
          subst wS'
          have HSX := Lib.hid (HS7.out.below bS)
          clear bS p0 p1 p2 p3 p4 p5 p6 HS7 t0 t1 t2 t3
          go_wp2_with fail
          refine (HEND.out _ HSX.out).mono ?_
          rintro e wy ⟨rfl, hb⟩
          have HSY := Lib.hid (HSX.out.below hb)
          clear hb
          go_wp2_with fail
          refine (spine_nil _).mono ?_
          rintro e wz ⟨rfl, rfl⟩
          go_wp2
          go_ret
          exact ⟨rfl, HSY.out.b⟩
        · have hn0 : n = 0 := by omega
          have t0 : decide ((n : Int) > 0) = false := decide_eq_false (by omega)
          have t1 : decide (0 < n) = false := decide_eq_false h0
          clear HL1 HC2 hn0
          go_wp2_with fail
          refine wp_quietB (by kernel_rfl) (by kernel_rfl) ?_
          repeat (go_big_quiet_step (fail))
          refine wpQuiet_nil ?_
          rintro wS' ⟨⟨wx, bS⟩, hwS⟩
          replace hwS : wS' = wx := hwS
          subst wS'
          have HSX := Lib.hid (HS7.out.below bS)
          clear bS HS7 t0 t1
          go_wp2_with fail
          refine (HEND.out _ HSX.out).mono ?_
          rintro e wy ⟨rfl, hb⟩
          have HSY := Lib.hid (HSX.out.below hb)
          clear hb
          go_wp2_with fail
          refine (spine_nil _).mono ?_
          rintro e wz ⟨rfl, rfl⟩
          go_wp2
          go_ret
          exact ⟨rfl, HSY.out.b⟩
  · have hb : decide (1048576 < (l0 : Int)) = true := decide_eq_true (by omega)
    go_enter Try.func3, Try.ntmps3
    go_wp2_with fail
    refine (big_any a0 l0 c0 _ hmx).mono ?_
    rw [hb]
    rintro e w1 ⟨rfl, rfl⟩
    go_wp2
    go_ret
    exact ⟨rfl, Below.refl _ _⟩

set_option maxRecDepth 100000 in
theorem lifted (os : Os) (started : os.Started) (H : Type) (enc : TypeId × Value → H) :
    ReturnsInHanded {} Try.checked os 3 .any (Rows.fnSpinesSpec.pre6 enc Try.prog Try.f3 Rows.fnSpinesRow.domain false) (Rows.fnSpinesSpec.post enc Try.prog Try.f3 false true false false) := by
  refine returnsInHanded_of_change (C := Try.checked) own started (by kernel_rfl) Try.func3
    (ChangeSpec.witness6 (enc := enc) (C := Try.checked) false ⟨#[], #[.slice none 0 0], []⟩ 8 (by kernel_rfl) (by kernel_rfl) (by kernel_rfl) (by kernel_rfl)) ?_
  intro W base args ds gs before hval0 hW hcnd _
  have hval : ∀ (j : Nat) t v, Try.f3.params[j]? = some t → args[j]? = some v → Value.okWide Try.prog W .any base t v := hval0
  have hW' := hW
  obtain ⟨p, q, hA0, hV, rfl, hfz, hnd⟩ := hW
  have hA : DataW.TrodAll enc Try.prog W 0 (fun _ => true) true Try.f3.params.toList args.toList ds p := hA0
  rw [Try.params3] at hA hval
  obtain ⟨v0, vs0, d0, ds0, p0, q0, hargs, rfl, rfl, h0, r0⟩ := trodAll_cons hA
  obtain ⟨rfl, rfl, rfl⟩ := trodAll_nil r0
  obtain rfl : args = #[v0] := by cases args; simp_all
  obtain ⟨rfl, rfl⟩ := trodVars_none hV
  have k0 := h0
  have lt0 : ∀ x ∈ p0, x.block < W.heap.size := by obtain ⟨m, hm⟩ := k0; exact DataW.trod_lt m _ _ _ hm
  obtain ⟨a0, l0, c0, z0, rfl, w0⟩ := open_bytes (hval 0 22 v0 rfl rfl) h0
  clear hA0 hval0
  refine (walk W a0 l0 c0 z0 w0).mono fun e W' ⟨he, bel⟩ => ?_
  subst he
  exact ⟨_, rfl, _, _, _, [], _, [], hW', trodAll_mk1 (shut_bool Try.underlying4 _), (trodAll_cons_mk (Below.trod laidOut (by kernel_rfl) (of_decide_eq_true (by kernel_rfl)) k0 bel lt0) trodAll_mk0), rfl, bel.frame _, fun h => by cases h⟩

theorem over : Rows.fnSpinesRow.holds Try.pinned (OpenSpec.ofChange Rows.fnSpinesSpec) :=
  OpenClaim.holds_of_wide 3 Try.f3 rfl rfl rfl rfl rfl rfl rfl ⟨rfl, rfl, rfl, rfl, rfl⟩ rfl rfl rfl rfl rfl (by kernel_rfl) Try.func3 (by kernel_rfl)
    (of_decide_eq_true (by kernel_rfl)) (by unfold Func.isWrapper; first | (rw [if_pos (by decide +kernel)]; kernel_rfl) | (rw [if_neg (by decide +kernel)]; exact ⟨rfl, rfl⟩))
    (fun os started H enc _ => lifted os started H enc)

/-- The statement. -/
theorem proved : Rows.FnSpinesSaid :=
  over
#print axioms proved
end Go.Proofs.Ytjkcmjnejbobeaa.fnSpines
