/-
  The Go function laws.FnPlates returns true for every input and leaves its arguments as they were; no condition.
  By an AI agent.
-/
import Derived.Test.YteojoifhmaoiaaaRows
import Derived.WalkKit
import Derived.ProofKit
import Derived.OpenShut
import Derived.Carry
import Derived.ChangeOld
import Derived.Below
import Derived.Lib.SmallJoins
import Derived.Deep.Slices
import Derived.Deep.Fields
import Derived.Lib.Hide
import Derived.Test.YteojoifhmaoiaaaPlS
import Derived.Deep.RegionHeld3
import Derived.Deep.DeepCutAuto
namespace Go.Proofs.Yteojoifhmaoiaaa.fnPlates
open Go.Proofs.Yteojoifhmaoiaaa Go.ChangeShapes Go.WideShapes Go.ChangeAt Go.RowKit Go.Joins Go.Deep

set_option linter.unusedVariables false
set_option maxRecDepth 100000

theorem own : ownKnob Try.prog.godebug = none := by kernel_rfl
theorem laidOut : laidOutB Try.prog = true := by kernel_rfl



set_option maxHeartbeats 3200000 in
theorem walk (w : World) (a0 : Option Addr) (l0 c0 : Nat) (z0 : List Int) (w0 : IsRow .u8 w a0 l0 c0 z0) :
    Calls Try.prog 3 #[.slice a0 l0 c0] w fun e w' => e = .returned (.bool true) ∧ Below w.heap.size w w' := by
  obtain ⟨hmx, _⟩ := w0.cells
  obtain ⟨_, hby⟩ := Bytes.of w0
  have HBY := Lib.hid hby
  clear hby w0
  by_cases hbig : l0 ≤ 1048576
  · have hb : decide (1048576 < (l0 : Int)) = false := decide_eq_false (by omega)
    go_enter Try.func3, Try.ntmps3
    go_wp2_with fail
    refine (big_any a0 l0 c0 _ hmx).mono ?_
    rw [hb]
    rintro e w1 ⟨rfl, rfl⟩
    clear hb
    go_wp2_with fail
    refine (drawCard_any a0 l0 c0 _ hbig HBY.out).mono ?_
    rintro e w1 ⟨d, f, n, aS, cS, ss, rfl, hc, hb1⟩
    have HCL := Lib.hid hc.len
    have HCR := Lib.hid hc.room
    have hok := hc.ok
    obtain ⟨F, k, hF⟩ := fcO_ex (d : Int) (f : Int) n ss
    obtain ⟨N, hG⟩ := hF.all hok hc.len hc.room
    have hk0 := hG.k0
    have hk1 := hG.k160
    have hm1 := hG.m160
    have HF := Lib.hid hF
    have HG := Lib.hid hG
    have HOK := Lib.hid hok
    have hbx := Below.box w1 (.cells #[.int .i64 d, .int .i64 f, .slice aS n cS] 26 (0, 0))
    have HC2 := Lib.hid (hc.below hbx)
    have HB2 := Lib.hid (hb1.trans (hbx.mono hb1.size))
    have HP2 := Lib.hid (Row.newT w1 (.int .i64 d) (.int .i64 f) (.slice aS n cS) 26)
    clear hc hb1 hbx hok hF hG
    go_wp2_with fail
    generalize w1.alloc (.cells #[.int .i64 d, .int .i64 f, .slice aS n cS] 26 (0, 0)) = w2 at *
    generalize w1.heap.size = PC at *
    have x0 := HP2.out.cell (i := 0) (by omega)
    have x1 := HP2.out.cell (i := 1) (by omega)
    have x2 := HP2.out.cell (i := 2) (by omega)
    go_wp2_with fail
    refine (iTwoColors_any d f aS n cS ss F k _ HF.out HCL.out HCR.out HC2.out.row).mono ?_
    obtain ⟨zs, hzs⟩ : ∃ zs, twoR (d : Int) (f : Int) n ss F k = zs := ⟨_, rfl⟩
    have hzl : zs.length = k := by rw [← hzs]; exact HG.out.twoLen
    have HZS := Lib.hid hzs
    have HZL := Lib.hid hzl
    unfold GetLB
    rw [hzs, HOK.out, hzl]
    rintro e w3 ⟨az, cz, rfl, hr, _, hb3⟩
    obtain ⟨gz, rfl, hrz⟩ := hr.row hk0
    have HZ3 := Lib.hid hrz
    have HC3 := Lib.hid (HC2.out.below hb3)
    have HP3 := Lib.hid (HP2.out.below hb3 HP2.out.lt)
    have HB3 := Lib.hid (HB2.out.trans (hb3.mono HB2.out.size))
    clear hr hrz hb3 HC2 HP2 HB2 x0 x1 x2 hzs hzl
    have x0 := HP3.out.cell (i := 0) (by omega)
    have x1 := HP3.out.cell (i := 1) (by omega)
    have x2 := HP3.out.cell (i := 2) (by omega)
    go_wp2_with fail
    refine (iTouchingFaces_any d f aS n cS ss F k _ HF.out HCL.out HCR.out HC3.out.row).mono ?_
    obtain ⟨T, hT⟩ : ∃ T, touchR (d : Int) (f : Int) n ss F k = T := ⟨_, rfl⟩
    have HT := Lib.hid hT
    have hTL : T.length ≤ 25600 := by rw [← hT]; exact touch_len hk1
    rw [hT]
    clear hT
    rintro e w4 ⟨aT, cT, rfl, ht4, hb4⟩
    have HT4 : Hid (T = [] ∨ ∃ g lo hi, aT = some ⟨g, 0, none⟩ ∧ OSt w4 lo hi g T.length T) := Lib.hid (by
      rcases ht4 with h | ⟨g, h1, h2⟩
      · exact .inl h
      · exact .inr ⟨g, _, _, h1, h2⟩)
    have HS4 := Lib.hid (⟨HP3.out.below hb4 HP3.out.lt, HC3.out.below hb4, HZ3.out.below hb4 HZ3.out.lt, HT4.out, HB3.out.trans (hb4.mono HB3.out.size)⟩ : PlS w PC d f n cS aS ss gz k zs aT T w4)
    clear ht4 hb4 HT4 HP3 HC3 HZ3 HB3 x0 x1 x2
    have x0 := HS4.out.box.cell (i := 0) (by omega)
    have x1 := HS4.out.box.cell (i := 1) (by omega)
    have x2 := HS4.out.box.cell (i := 2) (by omega)
    go_wp2_with fail
    refine (sCountFaces_any d f aS n cS ss F k _ HF.out HCL.out HCR.out HS4.out.card.row).mono ?_
    rintro e w5 ⟨rfl, hb5⟩
    have HS5 := Lib.hid (HS4.out.below hb5)
    clear hb5 HS4 x0 x1 x2
    have x0 := HS5.out.box.cell (i := 0) (by omega)
    have x1 := HS5.out.box.cell (i := 1) (by omega)
    have x2 := HS5.out.box.cell (i := 2) (by omega)
    have hz0 : zs.getD 0 0 = 0 := by
      have := HG.out.two.zero hk0
      rw [HZS.out] at this
      exact this
    have HZ0 : Hid (∀ wx, PlS w PC d f n cS aS ss gz k zs aT T wx → wx.cell? ⟨gz, 0, none⟩ = some (.int .i64 0)) := Lib.hid (fun wx h => by
      have := h.cols.cell hk0
      unfold ic at this
      rw [hz0] at this
      exact this)
    have HCB : Hid (colB (d : Int) (f : Int) ss zs k = true) := Lib.hid (by rw [← HZS.out]; exact HG.out.twoB)
    have HFV : Hid (foldV (d : Int) (f : Int) n ss zs F k = (T.length : Nat)) := Lib.hid (by rw [← HZS.out, ← HT.out]; exact HG.out.foldTwo)
    have e1 : ((T.length : Int) != (T.length : Int)) = false := by simp
    have e2 : ((k : Int) != (k : Int)) = false := by simp
    have i1 : (0 : Int) < (k : Int) := by omega
    clear hz0
    go_wp2_with fail
    refine (iColorsOk_any d f aS n cS ss F k (some ⟨gz, 0, none⟩) k cz zs _ HF.out HCL.out HCR.out HS5.out.card.row HZL.out (by omega) (.of_row HS5.out.cols)).mono ?_
    rw [HCB.out]
    rintro e w51 ⟨rfl, hb⟩
    have HS51 := Lib.hid (HS5.out.below hb)
    clear hb HS5 x0 x1 x2
    have x0 := HS51.out.box.cell (i := 0) (by omega)
    have x1 := HS51.out.box.cell (i := 1) (by omega)
    have x2 := HS51.out.box.cell (i := 2) (by omega)
    go_wp2_with fail
    refine (iFoldContrast_any d f aS n cS ss F k (some ⟨gz, 0, none⟩) k cz zs _ HF.out HCL.out HCR.out HS51.out.card.row HZL.out (by omega) (.of_row HS51.out.cols)).mono ?_
    rw [HFV.out]
    rintro e w6 ⟨rfl, hb⟩
    have HS6 := Lib.hid (HS51.out.below hb)
    clear hb HS51 x0 x1 x2
    have x0 := HS6.out.box.cell (i := 0) (by omega)
    have x1 := HS6.out.box.cell (i := 1) (by omega)
    have x2 := HS6.out.box.cell (i := 2) (by omega)
    have x3 := HZ0.out _ HS6.out
    go_wp2_with fail
    clear x3
    refine (iPlatesOf_any d f aS n cS ss F k (some ⟨gz, 0, none⟩) k cz zs _ HF.out HCL.out HCR.out HS6.out.card.row HZL.out (by omega) (.of_row HS6.out.cols)).mono ?_
    obtain ⟨pl, hpl⟩ : ∃ pl, platesR (d : Int) (f : Int) ss zs k = pl := ⟨_, rfl⟩
    have HPL := Lib.hid hpl
    have hp8 : pl.length ≤ 8 := by rw [← hpl]; exact plates_len _ _ _ _ _
    have HEACH : Hid (∀ j, j < pl.length → (0 ≤ pl.getD j 0 ∧ pl.getD j 0 ≤ 1) ∧ 1 ≤ inkN zs F (pl.getD j 0) (n * N)) := Lib.hid (fun j hj => by
      rw [← hpl, ← HZS.out] at hj ⊢
      exact HG.out.plate hj)
    have HSUM : Hid (inkT zs F (n * N) pl pl.length = n * N) := Lib.hid (by
      rw [← hpl, ← HZS.out]
      exact HG.out.inkSum)
    have HINK : Hid (∀ c, inkV (d : Int) (f : Int) n ss zs F k c = inkN zs F c (n * N)) := Lib.hid (fun c => HG.out.inkV HCB.out c)
    have HNX : Hid (∀ j, inkT zs F (n * N) pl (j + 1) = inkT zs F (n * N) pl j + inkN zs F (pl.getD j 0) (n * N)) := Lib.hid (fun j => rfl)
    have HIL : Hid (∀ c, inkN zs F c (n * N) ≤ 160) := Lib.hid (fun c => Nat.le_trans (cntB_le _ _) hm1)
    have HIT : Hid (∀ j, inkT zs F (n * N) pl j ≤ 160 * j) := Lib.hid (fun j => by
      induction j with
      | zero => exact Nat.le_refl _
      | succ j ih => rw [HNX.out]; have := HIL.out (pl.getD j 0); omega)
    have HT0 : Hid (inkT zs F (n * N) pl 0 = 0) := Lib.hid rfl
    have HTILE : Hid (tiles (d : Int) (f : Int) ss = ((n * N : Nat) : Int)) := Lib.hid HG.out.tiles
    have HIO : Hid (inkV (d : Int) (f : Int) n ss (ones k) F k 3 = n * N) := Lib.hid HG.out.inkOnes
    generalize hMM : n * N = M at *
    clear hMM
    generalize inkT zs F M pl = I at *
    rw [hpl]
    rintro e w7 ⟨aP, cP, rfl, hrp, _, hb7⟩
    have HS7 := Lib.hid (HS6.out.below hb7)
    have HP7 := Lib.hid hrp
    clear hb7 hrp HS6 x0 x1 x2 hpl
    go_wp2_with fail
    go_loopw [9, 10] (fun s i wr => ∃ j : Nat, j ≤ pl.length ∧ i = .int .i64 j ∧ s = .int .i64 (I j : Nat) ∧ PlS w PC d f n cS aS ss gz k zs aT T wr ∧ SlR wr aP pl.length (ic pl)) (fun _ i _ => pl.length - (intOf i).toNat)
    case atStart => exact ⟨0, Nat.zero_le _, rfl, by rw [HT0.out]; rfl, HS7.out, HP7.out⟩
    case round =>
      clear HS7 HP7
      obtain ⟨j, hj, rfl, rfl, hs, hp⟩ := hrel
      have HS := Lib.hid hs
      have HPP := Lib.hid hp
      clear hs hp
      by_cases hlt : j < pl.length
      · obtain ⟨gp, rfl, hrp⟩ := HPP.out.row (by omega)
        have HRP := Lib.hid hrp
        obtain ⟨⟨v0, v1⟩, v2⟩ := HEACH.out j hlt
        have hcp := hrp.cell hlt
        unfold ic at hcp
        have hnx := HNX.out j
        have hil := HIL.out (pl.getD j 0)
        have hit := HIT.out j
        have HV := Lib.hid (HINK.out (pl.getD j 0))
        generalize pl.getD j 0 = v at *
        generalize inkN zs F v M = q at *
        generalize hi1 : I (j + 1) = i1 at *
        have HI1 := Lib.hid hi1
        clear hi1 hrp
        generalize I j = i0 at *
        have j0 : (0 : Int) ≤ (j : Int) := by omega
        have j1 : (j : Int) < (pl.length : Int) := by omega
        have p0 : ∀ i : WB wr, i.x.cell? ⟨PC, 0, none⟩ = some (.int .i64 d) := fun i => i.cell (HS.out.box.cell (i := 0) (by omega))
        have p1 : ∀ i : WB wr, i.x.cell? ⟨PC, 1, none⟩ = some (.int .i64 f) := fun i => i.cell (HS.out.box.cell (i := 1) (by omega))
        have p2 : ∀ i : WB wr, i.x.cell? ⟨PC, 2, none⟩ = some (.slice aS n cS) := fun i => i.cell (HS.out.box.cell (i := 2) (by omega))
        have p3 : ∀ i : WB wr, i.x.cell? ⟨gp, j, none⟩ = some (.int .i64 v) := fun i => i.cell hcp
        have e3 : IntKind.i64.wrap ((i0 : Int) + (q : Int)) = (i1 : Int) := by rw [show (i0 : Int) + (q : Int) = (i1 : Int) by omega]; exact IntWalk.i64_in _ (by omega)
        have t1 : decide ((q : Int) < 1) = false := decide_eq_false (by omega)
        have t2 : decide (v < 0) = false := decide_eq_false (by omega)
        have t3 : decide (v > 1) = false := decide_eq_false (by omega)
        have t4 : decide (q < 1) = false := decide_eq_false (by omega)
        have t5 : decide (1 < v) = false := decide_eq_false (by omega)
        clear hcp hnx hil hit
        go_wp2_with fail
        refine wp_quietB (by kernel_rfl) (by kernel_rfl) ?_
        repeat (go_big_quiet_step ((go_at_call 18; exact quietV (by rw [HV.out]) (iInkOf_any d f aS n cS ss F k (some ⟨gz, 0, none⟩) k cz zs v _ HF.out HCL.out HCR.out (HS.out.card.row.below (WB.b _)) HZL.out (by omega) (.of_row (HS.out.cols.below (WB.b _) HS.out.cols.lt))))))
        refine wpQuiet_nil ?_
        rintro wS' ⟨⟨wx, bS⟩, hwS⟩
        replace hwS : wS' = wx := hwS
        subst wS'
        have HSX := Lib.hid (HS.out.below bS)
        have HPX := Lib.hid (HRP.out.below bS HRP.out.lt)
        have p4 := p3 ⟨wx, bS⟩
        simp only at p4
        clear bS p0 p1 p2 p3 HS HRP HPP
        go_wp2
        go_roundw
        case rel => exact ⟨j + 1, by omega, by go_num, by rw [HI1.out], HSX.out, .of_row HPX.out⟩
        case measure => simp [intOf]; omega
      · have hj' : j = pl.length := by omega
        subst hj'
        have i0 : ¬ ((pl.length : Int) < (pl.length : Int)) := by omega
        go_wp2_with fail
        clear i0
        rw [HSUM.out]
        go_loopw [12] (fun i wr => ∃ j : Nat, j ≤ T.length ∧ i = .int .i64 j ∧ PlS w PC d f n cS aS ss gz k zs aT T wr) (fun i _ => T.length - (intOf i).toNat)
        case atStart => exact ⟨0, Nat.zero_le _, rfl, HS.out⟩
        case round =>
          clear HS HPP
          obtain ⟨j, hj, rfl, hs⟩ := hrel
          have HS := Lib.hid hs
          clear hs
          by_cases hlt : j < T.length
          · obtain ⟨gT, lo, hi, rfl, hO⟩ := HS.out.tch.resolve_left (fun h => by rw [h] at hlt; exact absurd hlt (Nat.not_lt_zero _))
            have hask := HG.out.ask (j := j) (by rw [HT.out]; exact hlt)
            rw [HT.out, HZS.out] at hask
            obtain ⟨a, b, hr, hab, hbk, hne⟩ := hask
            obtain ⟨gb, u0, u1, u2⟩ := hO.pair hlt hr
            have za := HS.out.cols.cell (i := a) (by omega)
            have zb := HS.out.cols.cell (i := b) hbk
            unfold ic at za zb
            generalize zs.getD a 0 = ca at *
            generalize zs.getD b 0 = cb at *
            have p0 : ∀ i : WB wr, i.x.cell? ⟨gT, j, none⟩ = some (.slice (some ⟨gb, 0, none⟩) 2 2) := fun i => i.cell u0
            have p1 : ∀ i : WB wr, i.x.cell? ⟨gb, 0, none⟩ = some (.int .i64 (a : Nat)) := fun i => i.cell u1
            have p2 : ∀ i : WB wr, i.x.cell? ⟨gb, 1, none⟩ = some (.int .i64 (b : Nat)) := fun i => i.cell u2
            have p3 : ∀ i : WB wr, i.x.cell? ⟨gz, a, none⟩ = some (.int .i64 ca) := fun i => i.cell za
            have p4 : ∀ i : WB wr, i.x.cell? ⟨gz, b, none⟩ = some (.int .i64 cb) := fun i => i.cell zb
            have j0 : (0 : Int) ≤ (j : Int) := by omega
            have j1 : (j : Int) < (T.length : Int) := by omega
            have a0' : (0 : Int) ≤ (a : Int) := by omega
            have a1' : (a : Int) < (k : Int) := by omega
            have b0' : (0 : Int) ≤ (b : Int) := by omega
            have b1' : (b : Int) < (k : Int) := by omega
            have t1 : decide ((a : Int) < 0) = false := decide_eq_false (by omega)
            have t2 : decide ((a : Int) ≥ (b : Int)) = false := decide_eq_false (by omega)
            have t3 : decide ((b : Int) ≥ (k : Int)) = false := decide_eq_false (by omega)
            have t4 : decide (b ≤ a) = false := decide_eq_false (by omega)
            have t5 : decide (k ≤ b) = false := decide_eq_false (by omega)
            have t6 : (ca == cb) = false := by simpa using hne
            have t7 : decide (ca = cb) = false := decide_eq_false hne
            clear u0 u1 u2 za zb hO hr hne
            go_wp2_with fail
            refine wp_quietB (by kernel_rfl) (by kernel_rfl) ?_
            repeat (go_big_quiet_step (fail))
            refine wpQuiet_nil ?_
            rintro wS' ⟨⟨wx, bS⟩, hwS⟩
            replace hwS : wS' = wx := hwS
            subst wS'
            have HSX := Lib.hid (HS.out.below bS)
            clear bS p0 p1 p2 p3 p4 HS
            go_wp2
            go_roundw
            case rel => exact ⟨j + 1, by omega, by go_num, HSX.out⟩
            case measure => simp [intOf]; omega
          · have hj' : j = T.length := by omega
            subst hj'
            have i0 : ¬ ((T.length : Int) < (T.length : Int)) := by omega
            have hbx := Below.box wr (.cells #[] 3 (0, 0))
            have HSB := Lib.hid (HS.out.below hbx)
            have HO0 := Lib.hid (Own1.empty wr 3)
            have HBB : Hid (Below wr.heap.size (wr.alloc (.cells #[] 3 (0, 0))) (wr.alloc (.cells #[] 3 (0, 0)))) := Lib.hid (Below.refl _ _)
            have HSW := Lib.hid HS.out
            have HBX := Lib.hid hbx
            clear hbx HS
            go_wp2_with fail
            clear i0
            go_loopw [13, 14] (fun v i wy => ∃ (j g1 c1 : Nat), j ≤ k ∧ i = .int .i64 j ∧ v = .slice (some ⟨g1, 0, none⟩) j c1 ∧ Own1 wy wr.heap.size 3 g1 j c1 ((ones j).map (Value.int .i64)) ∧ Below wr.heap.size wr wy) (fun _ i _ => k - (intOf i).toNat)
            case atStart => exact ⟨0, _, 0, Nat.zero_le _, rfl, rfl, HO0.out, HBX.out⟩
            case round =>
              clear HO0 HBB HSB HBX
              obtain ⟨j, g1, c1, hj, rfl, rfl, h1, hB⟩ := hrel
              have H1 := Lib.hid h1
              have HB := Lib.hid hB
              have hg1 := h1.lt
              have hsz := hB.size
              clear h1 hB
              by_cases hlt : j < k
              · have HSU := Lib.hid (ones_succ j)
                go_wp2_with (at_builtin; refine append_one rfl _ _ 28 rfl Try.underlying28 infoInt rfl (by omega) rfl (H1.out.alloc _) (by omega) rfl (new_cell (by simp)) rfl ?_; intro g' c' w9 o9 oo9 l9; have O9 := Lib.hid o9; have OO9 := Lib.hid oo9; clear o9 oo9 l9)
                go_roundw
                case rel => exact ⟨j + 1, g', c', by omega, by go_num, rfl, by rw [HSU.out]; exact O9.out, HB.out.trans (((Below.box _ (.cells #[.int .i64 3] 3 (0, 0))).mono hsz).trans (OO9.out.toBelow hg1.1 (by simp; omega)))⟩
                case measure => simp [intOf]; omega
              · have hj' : k = j := by omega
                subst hj'
                rename World => wy
                have HQ : Hid (PlQ w PC d f n cS aS ss gz k zs aT T g1 wy) := Lib.hid (.of (HSW.out.below HB.out) H1.out.cells)
                have i0 : ¬ ((k : Int) < (k : Int)) := by omega
                have HFO : Hid (foldV (d : Int) (f : Int) n ss (ones k) F k = 0) := Lib.hid HG.out.foldOnes
                have HPO : Hid (platesR (d : Int) (f : Int) ss (ones k) k = [3]) := Lib.hid HG.out.platesOnes
                have HTL : Hid (tiles (d : Int) (f : Int) ss = (M : Int)) := Lib.hid HTILE.out
                go_wp2_with fail
                clear i0
                have hS := Lib.hid (HQ.out.next (Below.refl _ _).drew)
                clear HQ HSW HB H1 HTILE HINK HNX HIL HIT HT0 HEACH HSUM HOK HBY
                go_region_held3 (fun w' => (w'.cell? ⟨PC, 0, none⟩ = some (.int .i64 d) ∧ w'.cell? ⟨PC, 1, none⟩ = some (.int .i64 f) ∧ w'.cell? ⟨PC, 2, none⟩ = some (.slice aS n cS)) ∧ Hid (PlS w PC d f n cS aS ss gz k zs aT T w' ∧ Row w' g1 k (ic (ones k))))
                  (first | exact hS.out | exact (PlQ.box (show PlQ w PC d f n cS aS ss gz k zs aT T g1 _ from by assumption) _) | (go_keep; done))
                  (first | (go_at_call 19; refine (sTileCount_any d f aS n cS ss _ HCL.out HCR.out (show PlQ w PC d f n cS aS ss gz k zs aT T g1 _ from by assumption).row).mono ?_; rw [HTL.out]; rintro e wS ⟨rfl, bS⟩; have hS := Lib.hid (PlQ.next (show PlQ w PC d f n cS aS ss gz k zs aT T g1 _ from by assumption) bS); clear bS) | (go_at_call 16; refine (iFoldContrast_any d f aS n cS ss F k (some ⟨g1, 0, none⟩) k c1 (ones k) _ HF.out HCL.out HCR.out (show PlQ w PC d f n cS aS ss gz k zs aT T g1 _ from by assumption).row (ones_len k) (by omega) (show PlQ w PC d f n cS aS ss gz k zs aT T g1 _ from by assumption).one).mono ?_; rw [HFO.out]; rintro e wS ⟨rfl, bS⟩; have hS := Lib.hid (PlQ.next (show PlQ w PC d f n cS aS ss gz k zs aT T g1 _ from by assumption) bS); clear bS) | (go_at_call 18; refine (iInkOf_any d f aS n cS ss F k (some ⟨g1, 0, none⟩) k c1 (ones k) 3 _ HF.out HCL.out HCR.out (show PlQ w PC d f n cS aS ss gz k zs aT T g1 _ from by assumption).row (ones_len k) (by omega) (show PlQ w PC d f n cS aS ss gz k zs aT T g1 _ from by assumption).one).mono ?_; rw [HIO.out]; rintro e wS ⟨rfl, bS⟩; have hS := Lib.hid (PlQ.next (show PlQ w PC d f n cS aS ss gz k zs aT T g1 _ from by assumption) bS); clear bS) | (go_at_call 17; refine (iPlatesOf_any d f aS n cS ss F k (some ⟨g1, 0, none⟩) k c1 (ones k) _ HF.out HCL.out HCR.out (show PlQ w PC d f n cS aS ss gz k zs aT T g1 _ from by assumption).row (ones_len k) (by omega) (show PlQ w PC d f n cS aS ss gz k zs aT T g1 _ from by assumption).one).mono ?_; intro e wS hg; obtain ⟨aP, cP, rfl, hr, bS⟩ := getL_3 hg HPO.out; have HPR := Lib.hid hr; have HB7 := Lib.hid bS; have hS := Lib.hid (PlQ.next (show PlQ w PC d f n cS aS ss gz k zs aT T g1 _ from by assumption) bS); clear hr bS hg) | (go_at_call 20; refine (sameInts_any _ _ 1 _ _ [3] _ (by omega) HPR.out (.of_row ((row_3 _ _).below HB7.out (row_3 _ 3).lt))).mono ?_; rintro e wS ⟨rfl, bS⟩; have hS := Lib.hid (PlQ.next (show PlQ w PC d f n cS aS ss gz k zs aT T g1 _ from by assumption) bS); clear bS) | (go_at_call 20; refine (sameInts_any _ _ 1 _ _ [3] _ (by omega) (HPR.out.below (Below.box _ _)) (.of_row (row_3 _ _))).mono ?_; rintro e wS ⟨rfl, bS⟩; have hS := Lib.hid (PlQ.next (show PlQ w PC d f n cS aS ss gz k zs aT T g1 _ from by assumption) bS); clear bS))
                all_goals
                  go_wp2
                  go_ret
                  exact ⟨rfl, hS.out.2.out.1.b⟩
  · have hb : decide (1048576 < (l0 : Int)) = true := decide_eq_true (by omega)
    go_enter Try.func3, Try.ntmps3
    go_wp2_with fail
    refine (big_any a0 l0 c0 _ hmx).mono ?_
    rw [hb]
    rintro e w1 ⟨rfl, rfl⟩
    go_wp2
    go_ret
    exact ⟨rfl, Below.refl _ _⟩

set_option maxRecDepth 100000 in
theorem lifted (os : Os) (started : os.Started) (H : Type) (enc : TypeId × Value → H) :
    ReturnsInHanded {} Try.checked os 3 .any (Rows.fnPlatesSpec.pre6 enc Try.prog Try.f3 Rows.fnPlatesRow.domain false) (Rows.fnPlatesSpec.post enc Try.prog Try.f3 false true false false) := by
  refine returnsInHanded_of_change (C := Try.checked) own started (by kernel_rfl) Try.func3
    (ChangeSpec.witness6 (enc := enc) (C := Try.checked) false ⟨#[], #[.slice none 0 0], []⟩ 8 (by kernel_rfl) (by kernel_rfl) (by kernel_rfl) (by kernel_rfl)) ?_
  intro W base args ds gs before hval0 hW hcnd _
  have hval : ∀ (j : Nat) t v, Try.f3.params[j]? = some t → args[j]? = some v → Value.okWide Try.prog W .any base t v := hval0
  have hW' := hW
  obtain ⟨p, q, hA0, hV, rfl, hfz, hnd⟩ := hW
  have hA : DataW.TrodAll enc Try.prog W 0 (fun _ => true) true Try.f3.params.toList args.toList ds p := hA0
  rw [Try.params3] at hA hval
  obtain ⟨v0, vs0, d0, ds0, p0, q0, hargs, rfl, rfl, h0, r0⟩ := trodAll_cons hA
  obtain ⟨rfl, rfl, rfl⟩ := trodAll_nil r0
  obtain rfl : args = #[v0] := by cases args; simp_all
  obtain ⟨rfl, rfl⟩ := trodVars_none hV
  have k0 := h0
  have lt0 : ∀ x ∈ p0, x.block < W.heap.size := by obtain ⟨m, hm⟩ := k0; exact DataW.trod_lt m _ _ _ hm
  obtain ⟨a0, l0, c0, z0, rfl, w0⟩ := open_bytes (hval 0 22 v0 rfl rfl) h0
  clear hA0 hval0
  refine (walk W a0 l0 c0 z0 w0).mono fun e W' ⟨he, bel⟩ => ?_
  subst he
  exact ⟨_, rfl, _, _, _, [], _, [], hW', trodAll_mk1 (shut_bool Try.underlying4 _), (trodAll_cons_mk (Below.trod laidOut (by kernel_rfl) (of_decide_eq_true (by kernel_rfl)) k0 bel lt0) trodAll_mk0), rfl, bel.frame _, fun h => by cases h⟩

theorem over : Rows.fnPlatesRow.holds Try.pinned (OpenSpec.ofChange Rows.fnPlatesSpec) :=
  OpenClaim.holds_of_wide 3 Try.f3 rfl rfl rfl rfl rfl rfl rfl ⟨rfl, rfl, rfl, rfl, rfl⟩ rfl rfl rfl rfl rfl (by kernel_rfl) Try.func3 (by kernel_rfl)
    (of_decide_eq_true (by kernel_rfl)) (by unfold Func.isWrapper; first | (rw [if_pos (by decide +kernel)]; kernel_rfl) | (rw [if_neg (by decide +kernel)]; exact ⟨rfl, rfl⟩))
    (fun os started H enc _ => lifted os started H enc)

/-- The statement. -/
theorem proved : Rows.FnPlatesSaid :=
  over
#print axioms proved
end Go.Proofs.Yteojoifhmaoiaaa.fnPlates
