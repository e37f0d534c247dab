/-
  The Go function laws.FnKnives returns true for every input and leaves its arguments as they were; no condition.
  By an AI agent.
-/
import Derived.Test.YtlplfpoggifadaaRows
import Derived.WalkKit
import Derived.ProofKit
import Derived.OpenShut
import Derived.Carry
import Derived.ChangeOld
import Derived.Below
import Derived.Lib.SmallJoins
import Derived.Deep.Slices
import Derived.Deep.Fields
import Derived.Lib.Hide
import Derived.Test.YtlplfpoggifadaaKniI
import Derived.Test.YtlplfpoggifadaaDrawK
import Derived.Test.YtlplfpoggifadaaDrawC
import Derived.Test.YtlplfpoggifadaaOrd
import Derived.Test.YtlplfpoggifadaaAt
import Derived.Test.YtlplfpoggifadaaTail
import Derived.Deep.DeepCutAuto
namespace Go.Proofs.Ytlplfpoggifadaa.fnKnives
open Go.Proofs.Ytlplfpoggifadaa Go.ChangeShapes Go.WideShapes Go.ChangeAt Go.RowKit Go.Joins Go.Deep

set_option linter.unusedVariables false
set_option maxRecDepth 100000

theorem own : ownKnob Try.prog.godebug = none := by kernel_rfl
theorem laidOut : laidOutB Try.prog = true := by kernel_rfl

theorem DCd.cd {B d f n : Nat} {aS : Option Addr} {ss : List ByteArray} {w : World} (h : DCd B d f n aS ss w) : Cd d f n (d + f) ss := by
  have h6 := h.n6
  have h4 := h.d4
  have h5 := h.f4
  refine ⟨h.len, ?_, h.ok, by push_cast; rfl⟩
  have key : ∀ k, k ≤ n → tot ss k ≤ 8 * k := by
    intro k
    induction k with
    | zero => intro _; exact Nat.le_refl _
    | succ k ih =>
      intro hk
      have i := ih (by omega)
      have hs := (h.strips _ (by rw [getD_at _ _ (by rw [h.len]; omega : k < ss.length)]; exact List.getElem_mem _ : ss.getD k ByteArray.empty ∈ ss)).2.2
      show tot ss k + _ ≤ _
      omega
  have := key n (Nat.le_refl _)
  omega
/-- What the walk carries: the list of cuts, at block g; the world at the start is w. -/
structure KnS (w : World) (g n : Nat) (ps : List DCut) (wx : World) : Prop where
  r : Row wx g (n * 3) (cc ps)
  b : Below w.heap.size w wx
theorem KnS.below {w wx wy : World} {g n : Nat} {ps : List DCut} (h : KnS w g n ps wx) (hb : Below wx.heap.size wx wy) : KnS w g n ps wy := ⟨h.r.below hb h.r.lt, h.b.trans (hb.mono h.b.size)⟩

set_option maxHeartbeats 3200000 in
theorem walk (w : World) (a0 : Option Addr) (l0 c0 : Nat) (z0 : List Int) (w0 : IsRow .u8 w a0 l0 c0 z0) :
    Calls Try.prog 5 #[.slice a0 l0 c0] w fun e w' => e = .returned (.bool true) ∧ Below w.heap.size w w' := by
  obtain ⟨hmx, _⟩ := w0.cells
  obtain ⟨_, hby⟩ := Bytes.of w0
  have HBY := Lib.hid hby
  clear hby w0
  by_cases hbig : l0 ≤ 1048576
  · have hb : decide (1048576 < (l0 : Int)) = false := decide_eq_false (by omega)
    go_enter Try.func5, Try.ntmps5
    go_wp2_with fail
    refine (big_any a0 l0 c0 _ hmx).mono ?_
    rw [hb]
    rintro e w1 ⟨rfl, rfl⟩
    clear hb
    go_wp2_with fail
    refine (drawCard_any a0 l0 c0 _ hbig HBY.out).mono ?_
    rintro e w1 ⟨d, f, m, aS, cS, ss, rfl, hc, hb⟩
    have hb2 := Below.box w1 (.cells #[.int .i64 d, .int .i64 f, .slice aS m cS] 28 (0, 0))
    have HC := Lib.hid (hc.below hb2)
    have HP := Lib.hid (Row.newT w1 (.int .i64 d) (.int .i64 f) (.slice aS m cS) 28)
    have HB := Lib.hid (hb.trans (hb2.mono hb.size))
    have HCD := Lib.hid (DCd.cd hc)
    obtain ⟨⟨x0, x1, x2⟩, _⟩ := HP.out.tri3
    clear hc hb hb2
    go_wp2_with fail
    generalize w1.alloc (.cells #[.int .i64 d, .int .i64 f, .slice aS m cS] 28 (0, 0)) = w2 at *
    generalize w1.heap.size = PC at *
    refine (iCutsOf_any d f aS m cS ss _ HCD.out.len HCD.out.room HC.out.row).mono ?_
    obtain ⟨X, hX⟩ : ∃ X, cutsR d f m ss = X := ⟨_, rfl⟩
    have hxl := cutsR_len d f m ss HCD.out.len
    have hlaw := cut_law HCD.out
    rw [hX] at hxl hlaw ⊢
    have HLAW := Lib.hid hlaw
    clear hlaw hX x0 x1 x2
    rintro e w3 ⟨aX, cX, rfl, hx, _, hb⟩
    have HX := Lib.hid hx
    have HC3 := Lib.hid (HC.out.below hb)
    have HP3 := Lib.hid (HP.out.below hb HP.out.lt)
    have HB3 := Lib.hid (HB.out.trans (hb.mono HB.out.size))
    have HY := Lib.hid (HBY.out.below HB3.out)
    clear hx hb HC HP HB
    go_wp2_with fail
    refine (drawCuts_any a0 l0 c0 _ hbig HY.out).mono ?_
    rintro e w4 ⟨n, g, cL, ps, rfl, hl, hr, _, hn5, hps, hb⟩
    have HCA := Lib.hid (drawnK_ok hps)
    have HL := Lib.hid hl
    have HK := Lib.hid (⟨hr, HB3.out.trans (hb.mono HB3.out.size)⟩ : KnS w g n ps w4)
    have HX4 := Lib.hid (HX.out.below hb)
    have HC4 := Lib.hid (HC3.out.below hb)
    have HP4 := Lib.hid (HP3.out.below hb HP3.out.lt)
    have hl' := hl
    clear hl hr hps hb HX HC3 HP3 HB3 HY
    go_wp2_with fail
    have h5 : ps.length ≤ 5 := by omega
    have hnf := near_full HCA.out (by omega)
    have hsf := short_full HCA.out (by omega)
    have hleN := short_least HCA.out (by omega) hnf
    have hleI := short_least HCA.out (by omega) (id_full h5)
    have hge := short_ge HCA.out (by omega)
    have hbN := way_bd HCA.out (by omega) hnf
    have hbS := way_bd HCA.out (by omega) hsf
    have hbI := way_bd HCA.out (by omega) (id_full h5)
    have HSW : Hid (2 ≤ n → wayOf ps (shR ps) ≤ wayOf ps (swL n) ∧ 0 ≤ wayOf ps (swL n) ∧ wayOf ps (swL n) ≤ 3000 ∧ wayOf ps (dbL n) = -1) := Lib.hid (fun h2 => by
      subst hl'
      have hf := sw_full h2 h5
      exact ⟨short_least HCA.out (by omega) hf, (way_bd HCA.out (by omega) hf).1, (way_bd HCA.out (by omega) hf).2, db_bad h2 h5⟩)
    rw [hl'] at hleI hbI
    obtain ⟨NR, hNR⟩ : ∃ x, nearR ps = x := ⟨_, rfl⟩
    obtain ⟨SR, hSR⟩ : ∃ x, shR ps = x := ⟨_, rfl⟩
    have hNl : NR.length = n := by rw [← hNR, ← hl']; exact hnf.2
    have hSl : SR.length = n := by rw [← hSR, ← hl']; exact hsf.2
    rw [hNR] at hleN hbN
    rw [hSR] at hleN hleI hge hbS HSW
    obtain ⟨A, hA⟩ : ∃ x, wayOf ps NR = x := ⟨_, rfl⟩
    obtain ⟨B, hB⟩ : ∃ x, wayOf ps SR = x := ⟨_, rfl⟩
    obtain ⟨I, hI⟩ : ∃ x, wayOf ps (idL n) = x := ⟨_, rfl⟩
    obtain ⟨T, hT⟩ : ∃ x, cutOf ps = x := ⟨_, rfl⟩
    rw [hA, hB] at hleN
    rw [hB, hI] at hleI
    rw [hT, hB] at hge
    rw [hA] at hbN
    rw [hB] at hbS HSW
    rw [hI] at hbI
    have HA := Lib.hid hA
    have HBV := Lib.hid hB
    have HIV := Lib.hid hI
    have HTV := Lib.hid hT
    have HNl := Lib.hid hNl
    have HSl := Lib.hid hSl
    clear hnf hsf hA hB hI hT hl'
    refine (iNearestOrder_any g n cL ps _ HL.out (by omega) HK.out.r).mono ?_
    rw [hNR]
    rintro e w5 ⟨aN, cN, rfl, hr, _, hb⟩
    rw [hNl] at hr ⊢
    have HN := Lib.hid hr
    replace HK := Lib.hid (HK.out.below hb)
    replace HX4 := Lib.hid (HX4.out.below hb)
    replace HC4 := Lib.hid (HC4.out.below hb)
    replace HP4 := Lib.hid (HP4.out.below hb HP4.out.lt)
    clear hr hb hNR
    go_wp2_with fail
    refine (iShortestOrder_any g n cL ps _ HL.out (by omega) HK.out.r).mono ?_
    rw [hSR]
    rintro e w6 ⟨aT, cT, rfl, hr, _, hb⟩
    rw [hSl] at hr ⊢
    have HS := Lib.hid hr
    replace HK := Lib.hid (HK.out.below hb)
    replace HX4 := Lib.hid (HX4.out.below hb)
    replace HC4 := Lib.hid (HC4.out.below hb)
    replace HP4 := Lib.hid (HP4.out.below hb HP4.out.lt)
    replace HN := Lib.hid (HN.out.below hb)
    clear hr hb hSR hNl hSl
    go_wp2_with fail
    refine (iWayOf_sl g n cL ps aN n cN NR _ HL.out (by omega) HK.out.r HNl.out (by omega) HN.out).mono ?_
    rw [HA.out]
    rintro e w7 ⟨rfl, hb⟩
    replace HK := Lib.hid (HK.out.below hb)
    replace HX4 := Lib.hid (HX4.out.below hb)
    replace HC4 := Lib.hid (HC4.out.below hb)
    replace HP4 := Lib.hid (HP4.out.below hb HP4.out.lt)
    replace HS := Lib.hid (HS.out.below hb)
    clear hb HN
    go_wp2_with fail
    refine (iWayOf_sl g n cL ps aT n cT SR _ HL.out (by omega) HK.out.r HSl.out (by omega) HS.out).mono ?_
    rw [HBV.out]
    rintro e w8 ⟨rfl, hb⟩
    replace HK := Lib.hid (HK.out.below hb)
    replace HX4 := Lib.hid (HX4.out.below hb)
    replace HC4 := Lib.hid (HC4.out.below hb)
    replace HP4 := Lib.hid (HP4.out.below hb HP4.out.lt)
    clear hb HS
    have HE0 := Lib.hid (Own1.empty w8 3)
    have HBX := Lib.hid (Below.box w8 (.cells #[] 3 (0, 0)))
    go_wp2_with fail
    generalize w8.alloc (.cells #[] 3 (0, 0)) = w9 at *
    go_loopw [10, 11] (fun v i wr => ∃ (k g1 c1 : Nat), k ≤ n ∧ i = .int .i64 k ∧ v = .slice (some ⟨g1, 0, none⟩) k c1 ∧ Own1 wr w8.heap.size 3 g1 k c1 ((idL k).map (Value.int .i64)) ∧ Below w8.heap.size w8 wr) (fun _ i _ => n - (intOf i).toNat)
    case atStart => exact ⟨0, w8.heap.size, 0, Nat.zero_le _, rfl, rfl, HE0.out, HBX.out⟩
    case round =>
      clear HE0 HBX
      obtain ⟨k, g1, c1, hk, rfl, rfl, h1, hb⟩ := hrel
      have H1 := Lib.hid h1
      have HB := Lib.hid hb
      have hgl := h1.lt
      clear h1 hb
      by_cases hlt : k < n
      · go_wp2_with (at_builtin; refine append_one rfl _ _ 37 rfl Try.underlying37 infoInt rfl (by omega) rfl (H1.out.alloc _) (by omega) rfl (new_cell (by simp)) rfl ?_; intro g' c' w3 o3 oo3 l3; have O3 := Lib.hid o3; have OO3 := Lib.hid oo3; clear o3 oo3 l3)
        go_roundw
        case rel =>
          have b2 := HB.out.alloc (o := .cells #[.int .i64 (k : Int)] 3 (0, 0)) HB.out.size
          exact ⟨k + 1, g', c', by omega, by go_num, rfl, by rw [idL_succ, List.map_append]; exact O3.out, b2.trans (OO3.out.toBelow hgl.1 b2.size)⟩
        case measure => simp [intOf]; omega
      · have hk' : n = k := by omega
        subst hk'
        have i1 : ¬ (n : Int) < (n : Int) := by omega
        have HKr := Lib.hid (HK.out.below HB.out)
        have HXr := Lib.hid (HX4.out.below HB.out)
        have HCr := Lib.hid (HC4.out.below HB.out)
        have HPr := Lib.hid (HP4.out.below HB.out HP4.out.lt)
        have hgk := HK.out.r.lt
        have hww := HK.out.b.size
        clear HB HK HX4 HC4 HP4
        obtain ⟨⟨y0, y1, y2⟩, _⟩ := HPr.out.tri3
        have p0 : ∀ i : WB wr, i.x.cell? ⟨PC, 0, none⟩ = some (.int .i64 d) := fun i => i.cell y0
        have p1 : ∀ i : WB wr, i.x.cell? ⟨PC, 1, none⟩ = some (.int .i64 f) := fun i => i.cell y1
        have p2 : ∀ i : WB wr, i.x.cell? ⟨PC, 2, none⟩ = some (.slice aS m cS) := fun i => i.cell y2
        clear y0 y1 y2
        obtain ⟨W, hW⟩ : ∃ x, clenN ss (d + f) (m - 1) = x := ⟨_, rfl⟩
        have hXW := HLAW.out
        rw [hW] at hXW
        have HWV := Lib.hid hW
        have HXW := Lib.hid hXW
        have e1 : (W != W) = false := by simp
        have e2 : ((n : Int) != (n : Int)) = false := by simp
        have e3 : decide (A < B) = false := decide_eq_false (by omega)
        have e4 : decide (B < T) = false := decide_eq_false (by omega)
        have e5 : decide (I < B) = false := decide_eq_false (by omega)
        have HII := Lib.hid (len_id n)
        have HSLo := Lib.hid H1.out.sl
        clear hW hXW
        go_wp2_with fail
        refine wp_quietB (by kernel_rfl) (by kernel_rfl) ?_
        repeat (go_big_quiet_step ((first | (go_at_call_of 30 (Value.slice aX X.length cX); exact quietV (by rw [HXW.out]) (iTotalCut_sl aX cX X _ (by omega) (HXr.out.below (WB.b _)))) | (go_at_call_of 30 (Value.slice (some ⟨g, 0, none⟩) n cL); exact quietV (by rw [HTV.out]) (iTotalCut_any g n cL ps _ HL.out (by omega) (HKr.out.r.below (WB.b _) HKr.out.r.lt))) | (go_at_call 31; exact quietV (by rw [HWV.out]) (sCutLength_any d f aS m cS (d + f) ss _ HCD.out (HCr.out.row.below (WB.b _)))) | (go_at_call 29; exact quietV (by rw [HIV.out]) (iWayOf_sl g n cL ps (some ⟨g1, 0, none⟩) n c1 (idL n) _ HL.out (by omega) (HKr.out.r.below (WB.b _) HKr.out.r.lt) HII.out (by omega) (HSLo.out.below (WB.b _)))))))
        refine wpQuiet_nil ?_
        rintro wS' ⟨⟨wS, bS⟩, hwS⟩
        replace hwS : wS' = wS := hwS
        subst wS'
        have HKS := Lib.hid (HKr.out.below bS)
        have H1S := Lib.hid (H1.out.below bS)
        have hgg : g ≠ g1 := by omega
        clear bS p0 p1 p2 HKr HXr HCr HPr H1 HSLo e1 e2 e3 e4 e5
        by_cases h2 : 2 ≤ n
        · obtain ⟨s1, s2, s3, s4⟩ := HSW.out h2
          have t1 : decide ((n : Int) > 1) = true := decide_eq_true (by omega)
          have c0 := H1S.out.cells.cell (i := 0) (by omega)
          have c1' := H1S.out.cells.cell (i := 1) (by omega)
          have f0 := H1S.out.frozen 0
          have f1 := H1S.out.frozen 1
          have HSWL : Hid (Own1 ((wS.setCell ⟨g1, 0, none⟩ (.int .i64 1)).setCell ⟨g1, 1, none⟩ (.int .i64 0)) w8.heap.size 3 g1 n c1 ((swL n).map (Value.int .i64))) := Lib.hid (by
            have := (H1S.out.set 0 (.int .i64 1)).set 1 (.int .i64 0)
            unfold swL
            rw [List.map_set, List.map_set]
            exact this)
          have HKW : Hid (KnS w g n ps ((wS.setCell ⟨g1, 0, none⟩ (.int .i64 1)).setCell ⟨g1, 1, none⟩ (.int .i64 0))) := Lib.hid ⟨(HKS.out.r.set_other hgg _).set_other hgg _, (HKS.out.b.setCell (by show w.heap.size ≤ g1; omega) _).setCell (by show w.heap.size ≤ g1; omega) _⟩
          obtain ⟨SW, hsw⟩ : ∃ x, wayOf ps (swL n) = x := ⟨_, rfl⟩
          rw [hsw] at s1 s2 s3
          have HSWV := Lib.hid hsw
          have HDB := Lib.hid s4
          have HLS := Lib.hid (len_sw n)
          have HLD := Lib.hid (len_db n)
          have t2 : decide (SW < B) = false := decide_eq_false (by omega)
          clear hsw s4
          unfold ic at c0 c1'
          go_wp2_with fail
          clear c0 c1' f0 f1
          generalize (wS.setCell ⟨g1, 0, none⟩ (.int .i64 1)).setCell ⟨g1, 1, none⟩ (.int .i64 0) = wT at *
          refine (iWayOf_sl g n cL ps (some ⟨g1, 0, none⟩) n c1 (swL n) _ HL.out (by omega) HKW.out.r HLS.out (by omega) HSWL.out.sl).mono ?_
          rw [HSWV.out]
          rintro e wU ⟨rfl, hb⟩
          have HKU := Lib.hid (HKW.out.below hb)
          have H1U := Lib.hid (HSWL.out.below hb)
          have c1' := H1U.out.cells.cell (i := 1) (by omega)
          have f1 := H1U.out.frozen 1
          unfold ic at c1'
          have HDBL : Hid (Own1 (wU.setCell ⟨g1, 1, none⟩ (.int .i64 1)) w8.heap.size 3 g1 n c1 ((dbL n).map (Value.int .i64))) := Lib.hid (by
            have := H1U.out.set 1 (.int .i64 1)
            unfold dbL
            rw [List.map_set]
            exact this)
          have HKV : Hid (KnS w g n ps (wU.setCell ⟨g1, 1, none⟩ (.int .i64 1))) := Lib.hid ⟨HKU.out.r.set_other hgg _, HKU.out.b.setCell (by show w.heap.size ≤ g1; omega) _⟩
          clear hb
          go_wp2_with fail
          clear c1' f1
          generalize wU.setCell ⟨g1, 1, none⟩ (.int .i64 1) = wV at *
          refine (iWayOf_sl g n cL ps (some ⟨g1, 0, none⟩) n c1 (dbL n) _ HL.out (by omega) HKV.out.r HLD.out (by omega) HDBL.out.sl).mono ?_
          rw [HDB.out]
          rintro e wX ⟨rfl, hb⟩
          have HBF := Lib.hid (HKV.out.b.trans (hb.mono HKV.out.b.size))
          clear hb
          go_wp2
          go_ret
          exact ⟨rfl, HBF.out⟩
        · have t1 : decide ((n : Int) > 1) = false := decide_eq_false (by omega)
          have hbx : Below wS.heap.size wS ((wS.alloc (.cells #[.int .i64 2, .int .i64 3, .int .i64 5] 51 (0, 0))).alloc (.cells #[.int .i64 0] 3 (0, 0))) := (Below.box wS _).alloc (by simp) _
          have HR1 : Hid (Row ((wS.alloc (.cells #[.int .i64 2, .int .i64 3, .int .i64 5] 51 (0, 0))).alloc (.cells #[.int .i64 0] 3 (0, 0))) wS.heap.size (1 * 3) (cc [⟨2, 3, 5⟩])) := Lib.hid (((Row.new3 wS (.int .i64 2) (.int .i64 3) (.int .i64 5) 51).alloc _).congr (fun i hi => by
            have : i = 0 ∨ i = 1 ∨ i = 2 := by omega
            rcases this with rfl | rfl | rfl <;> rfl))
          have HR2 : Hid (SlR ((wS.alloc (.cells #[.int .i64 2, .int .i64 3, .int .i64 5] 51 (0, 0))).alloc (.cells #[.int .i64 0] 3 (0, 0))) (some ⟨wS.heap.size + 1, 0, none⟩) 1 (ic [0])) := Lib.hid (by
            have h1 := Row.of_new (wS.alloc (.cells #[.int .i64 2, .int .i64 3, .int .i64 5] 51 (0, 0))) #[.int .i64 0] 3
            have h2 : (wS.alloc (.cells #[.int .i64 2, .int .i64 3, .int .i64 5] 51 (0, 0))).heap.size = wS.heap.size + 1 := by simp
            rw [h2] at h1
            exact .of_row (h1.congr (fun i hi => by have : i = 0 := (by simp at hi; omega); subst this; rfl)))
          have HB9 := Lib.hid (HKS.out.b.trans (hbx.mono HKS.out.b.size))
          have H7 := Lib.hid one_cut
          clear hbx
          go_wp2_with fail
          refine (iWayOf_sl wS.heap.size 1 1 [⟨2, 3, 5⟩] (some ⟨wS.heap.size + 1, 0, none⟩) 1 1 [0] _ rfl (by omega) HR1.out rfl (by omega) HR2.out).mono ?_
          rw [H7.out]
          rintro e wX ⟨rfl, hb⟩
          have HBF := Lib.hid (HB9.out.trans (hb.mono HB9.out.size))
          clear hb
          go_wp2
          go_ret
          exact ⟨rfl, HBF.out⟩
  · have hb : decide (1048576 < (l0 : Int)) = true := decide_eq_true (by omega)
    go_enter Try.func5, Try.ntmps5
    go_wp2_with fail
    refine (big_any a0 l0 c0 _ hmx).mono ?_
    rw [hb]
    rintro e w1 ⟨rfl, rfl⟩
    go_wp2
    go_ret
    exact ⟨rfl, Below.refl _ _⟩

set_option maxRecDepth 100000 in
theorem lifted (os : Os) (started : os.Started) (H : Type) (enc : TypeId × Value → H) :
    ReturnsInHanded {} Try.checked os 5 .any (Rows.fnKnivesSpec.pre6 enc Try.prog Try.f5 Rows.fnKnivesRow.domain false) (Rows.fnKnivesSpec.post enc Try.prog Try.f5 false true false false) := by
  refine returnsInHanded_of_change (C := Try.checked) own started (by kernel_rfl) Try.func5
    (ChangeSpec.witness6 (enc := enc) (C := Try.checked) false ⟨#[], #[.slice none 0 0], []⟩ 8 (by kernel_rfl) (by kernel_rfl) (by kernel_rfl) (by kernel_rfl)) ?_
  intro W base args ds gs before hval0 hW hcnd _
  have hval : ∀ (j : Nat) t v, Try.f5.params[j]? = some t → args[j]? = some v → Value.okWide Try.prog W .any base t v := hval0
  have hW' := hW
  obtain ⟨p, q, hA0, hV, rfl, hfz, hnd⟩ := hW
  have hA : DataW.TrodAll enc Try.prog W 0 (fun _ => true) true Try.f5.params.toList args.toList ds p := hA0
  rw [Try.params5] at hA hval
  obtain ⟨v0, vs0, d0, ds0, p0, q0, hargs, rfl, rfl, h0, r0⟩ := trodAll_cons hA
  obtain ⟨rfl, rfl, rfl⟩ := trodAll_nil r0
  obtain rfl : args = #[v0] := by cases args; simp_all
  obtain ⟨rfl, rfl⟩ := trodVars_none hV
  have k0 := h0
  have lt0 : ∀ x ∈ p0, x.block < W.heap.size := by obtain ⟨m, hm⟩ := k0; exact DataW.trod_lt m _ _ _ hm
  obtain ⟨a0, l0, c0, z0, rfl, w0⟩ := open_bytes (hval 0 43 v0 rfl rfl) h0
  clear hA0 hval0
  refine (walk W a0 l0 c0 z0 w0).mono fun e W' ⟨he, bel⟩ => ?_
  subst he
  exact ⟨_, rfl, _, _, _, [], _, [], hW', trodAll_mk1 (shut_bool Try.underlying4 _), (trodAll_cons_mk (Below.trod laidOut (by kernel_rfl) (of_decide_eq_true (by kernel_rfl)) k0 bel lt0) trodAll_mk0), rfl, bel.frame _, fun h => by cases h⟩

theorem over : Rows.fnKnivesRow.holds Try.pinned (OpenSpec.ofChange Rows.fnKnivesSpec) :=
  OpenClaim.holds_of_wide 5 Try.f5 rfl rfl rfl rfl rfl rfl rfl ⟨rfl, rfl, rfl, rfl, rfl⟩ rfl rfl rfl rfl rfl (by kernel_rfl) Try.func5 (by kernel_rfl)
    (of_decide_eq_true (by kernel_rfl)) (by unfold Func.isWrapper; first | (rw [if_pos (by decide +kernel)]; kernel_rfl) | (rw [if_neg (by decide +kernel)]; exact ⟨rfl, rfl⟩))
    (fun os started H enc _ => lifted os started H enc)

/-- The statement. -/
theorem proved : Rows.FnKnivesSaid :=
  over
#print axioms proved
end Go.Proofs.Ytlplfpoggifadaa.fnKnives
