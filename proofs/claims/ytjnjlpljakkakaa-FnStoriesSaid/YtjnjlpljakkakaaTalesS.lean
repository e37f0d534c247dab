/-
  Contracts of l24Tales and CountTales in the reference.
  By an AI agent.
-/
import Derived.Test.YtjnjlpljakkakaaTales
import Derived.Deep.RegionLaw
namespace Go.Proofs.Ytjnjlpljakkakaa
open Go.ChangeShapes Go.WideShapes Go.ChangeAt Go.RowKit Go.Joins Go.Deep
set_option maxRecDepth 100000
set_option linter.unusedVariables false

/-- Cells that hold numbers. -/
def nc (K : Nat → Int) (i : Nat) : Value := .int .i64 (K i)
theorem nc_set {w : World} {g n k : Nat} {v : Int} {K : Nat → Int} (h : Row w g n (nc K)) : Row (w.setCell ⟨g, k, none⟩ (.int .i64 v)) g n (nc (fun i => if i = k then v else K i)) := by
  refine (h.set _ _).congr fun q _ => ?_
  unfold nc
  by_cases e : q = k
  · subst e; simp
  · simp [e]
def KOk (n : Nat) (L : Rows) (K : Nat → Int) : Prop := ∀ i, i < n → K i = -1 ∨ (K i = talN n L i ∧ 0 ≤ K i)
def TalP (n : Nat) (L : Rows) (p gs : Nat) (w : World) (e : Ending) (w' : World) : Prop := e = .returned (.int .i64 (talN n L p)) ∧ ∃ K, KOk n L K ∧ Row w' gs n (nc K) ∧ OnlyB gs w w'
set_option maxHeartbeats 4000000 in
theorem tales_step (a : Option Addr) (n c : Nat) (L : Rows) (W0 : World) (gs : Nat) (hs : storyOk n L) (hR0 : RSt W0 a n L) (hg : W0.heap.size ≤ gs) (p : Nat) (hp : p < n) (ha : acy L p)
    (ih : ∀ (y cs : Nat) (K : Nat → Int) (w : World), edge L p y → Below W0.heap.size W0 w → KOk n L K → Row w gs n (nc K) → Calls Try.prog 46 #[.agg #[.slice a n c], .int .i64 y, .slice (some ⟨gs, 0, none⟩) n cs] w (TalP n L y gs w))
    (cs : Nat) (K : Nat → Int) (w : World) (hB : Below W0.heap.size W0 w) (hK : KOk n L K) (hr : Row w gs n (nc K)) :
    Calls Try.prog 46 #[.agg #[.slice a n c], .int .i64 p, .slice (some ⟨gs, 0, none⟩) n cs] w (TalP n L p gs w) := by
  have HI := Lib.hid ih
  have HS := Lib.hid hs
  have HA := Lib.hid ha
  have hb0 := Below.box w (.cells #[.slice a n c] 27 (0, 0))
  have HB0 := Lib.hid hb0
  have HB := Lib.hid hB
  have HR0 := Lib.hid hR0
  have HK := Lib.hid hK
  have hlt := hr.lt
  have HRW := Lib.hid hr
  have n16 := hs.1.2
  have HT := Lib.hid (talN_eq hs hp ha)
  obtain ⟨T0, T1⟩ := talN_16 hs hp ha
  clear ih hs hb0 hB hR0 hr hK ha
  have c3 := HRW.out.cell hp
  unfold nc at c3
  have i0 : (0 : Int) ≤ (p : Int) := Int.natCast_nonneg _
  have i1 : (p : Int) < (n : Int) := by omega
  obtain ⟨g, α, C, rfl, lg, c1, hC, s1⟩ := HR0.out.at hp
  have C1 := Lib.hid c1
  have S1 := Lib.hid s1
  have hlen : lenN L p ≤ 4 := (HS.out.2 p hp).1
  clear s1 c1
  rcases HK.out p hp with hKp | ⟨hKp, hK0⟩
  · rw [hKp] at c3
    clear hKp
    have HO1 : Hid (OnlyB gs w (w.alloc (.cells #[.slice (some ⟨g, 0, none⟩) n c] 27 (0, 0)))) := Lib.hid ((OnlyB.refl gs w).below (Below.box _ _))
    have HR1 : Hid (Row (w.alloc (.cells #[.slice (some ⟨g, 0, none⟩) n c] 27 (0, 0))) gs n (nc K)) := Lib.hid (HRW.out.below (Below.box _ _) hlt)
    have HC1 : Hid ((w.alloc (.cells #[.slice (some ⟨g, 0, none⟩) n c] 27 (0, 0))).cell? ⟨w.heap.size, 0, none⟩ = some (.slice (some ⟨g, 0, none⟩) n c)) := Lib.hid (new_cell rfl)
    have FB : Hid (∀ wr, OnlyB gs w wr → Below W0.heap.size W0 wr) := Lib.hid (fun wr h => HB.out.trans (h.toBelow hg HB.out.size))
    generalize hm : lenN L p = m at *
    have HM := Lib.hid hm
    clear hm
    go_enter Try.func46, Try.ntmps46
    go_wp2
    clear c3
    generalize w.alloc (.cells #[.slice (some ⟨g, 0, none⟩) n c] 27 (0, 0)) = W1 at *
    generalize hbx : w.heap.size = bx at *
    have HBX := Lib.hid hbx
    clear hbx
    go_loopw [7, 8] (fun s i wr => ∃ (q : Nat) (K : Nat → Int), q ≤ m ∧ i = .int .i64 q ∧ s = .int .i64 (sumF (fun q => talN n L (nx L p q)) q) ∧ KOk n L K ∧ Row wr gs n (nc K) ∧ OnlyB gs w wr ∧ wr.cell? ⟨bx, 0, none⟩ = some (.slice (some ⟨g, 0, none⟩) n c)) (fun _ i _ => m - (intOf i).toNat)
    case atStart => exact ⟨0, _, Nat.zero_le _, rfl, rfl, HK.out, HR1.out, HO1.out, HC1.out⟩
    case round =>
      obtain ⟨q, K2, hq, rfl, rfl, hk, hr, ho, d0⟩ := hrel
      have HK2 := Lib.hid hk
      have HRT := Lib.hid hr
      have HO := Lib.hid ho
      clear hk hr ho
      have hFB := FB.out _ HO.out
      have d1 := (hFB.cell (p := ⟨g, p, none⟩) lg).trans C1.out
      by_cases hlq : q < m
      · obtain ⟨g3, rfl, hr3⟩ := (S1.out.below hFB).row (by omega)
        have c2 := hr3.cell hlq
        unfold ic at c2
        obtain ⟨he, hx⟩ := edge_nx HS.out hp (q := q) (by rw [HM.out]; exact hlq)
        rw [hx] at c2
        have HE := Lib.hid he
        have hyn := edge_lt HS.out hp he
        obtain ⟨y0, y1⟩ := talN_16 HS.out hyn (acy_next HA.out he)
        have hsb := sumF_bd (f := fun q => talN n L (nx L p q)) (B := 4294967296) (by omega) q (fun q' hq' => by
          have he := (edge_nx HS.out hp (q := q') (by rw [HM.out]; omega)).1
          exact talN_16 HS.out (edge_lt HS.out hp he) (acy_next HA.out he))
        obtain ⟨z0, z1⟩ := hsb
        have HSU : Hid (sumF (fun q => talN n L (nx L p q)) (q + 1) = sumF (fun q => talN n L (nx L p q)) q + talN n L (nx L p q)) := Lib.hid rfl
        have HFB := Lib.hid (hFB.drew : Below W0.heap.size W0 wr.drew)
        have z2 : sumF (fun q => talN n L (nx L p q)) q ≤ 17179869184 := by omega
        clear hx hr3 hFB he z1
        generalize sumF (fun q => talN n L (nx L p q)) q = s at *
        generalize hyy : nx L p q = y at *
        have HTY : Hid (talN n L y = talN n L y) := Lib.hid rfl
        generalize htt : talN n L y = ty at *
        have HTT := Lib.hid htt
        clear htt hyy
        have e1 : IntKind.i64.wrap (s + ty) = s + ty := IntWalk.i64_in _ (by omega)
        have j0 : (0 : Int) ≤ (q : Int) := Int.natCast_nonneg _
        have j1 : (q : Int) < (m : Int) := by omega
        have D0 := Lib.hid d0
        go_wp2
        go_region_law (go_simp; go_at_call 46; refine (HI.out y cs K2 _ HE.out HFB.out HK2.out (HRT.out.of_heap rfl)).mono ?_; rintro e w2 ⟨rfl, K3, hk3, hr3, ho3⟩; rw [HTT.out]; have HK3 := Lib.hid hk3; have HR3 := Lib.hid hr3; have HO3 := Lib.hid (HO.out.then (show OnlyB gs wr w2 from ⟨ho3.os, ho3.tape, ho3.output, ho3.size, fun i hi hn => ho3.block i hi hn⟩)); have HD3 := Lib.hid ((World.cell?_of_block (w := wr) (a := ⟨bx, 0, none⟩) (ho3.block bx (World.block_lt_of_cell? _ _ D0.out) (by have := HBX.out; omega))).trans D0.out); clear hk3 hr3 ho3)
        all_goals
          clear d0 d1 c2
          go_wp2
          go_roundw
          case rel => exact ⟨q + 1, K3, by omega, by go_num, congrArg (Value.int .i64) (by rw [HSU.out]), HK3.out, HR3.out, HO3.out, HD3.out⟩
          case measure => simp [intOf]; omega
      · have hq' : q = m := by omega
        subst hq'
        have c4 := HRT.out.cell hp
        have f4 := HRT.out.frozen p
        unfold nc at c4
        have HKN : Hid (KOk n L (fun i => if i = p then talN n L p else K2 i)) := Lib.hid (fun i hi => by
          by_cases e : i = p
          · subst e; right; show (if i = i then _ else _) = _ ∧ 0 ≤ (if i = i then _ else _); rw [if_pos rfl]; exact ⟨rfl, T0⟩
          · simp only [if_neg e]; exact HK2.out i hi)
        have HRN : Hid (∀ v, Row (wr.setCell ⟨gs, p, none⟩ (.int .i64 v)) gs n (nc (fun i => if i = p then v else K2 i))) := Lib.hid (fun v => nc_set HRT.out)
        have HON : Hid (∀ v, OnlyB gs w (wr.setCell ⟨gs, p, none⟩ v)) := Lib.hid (fun v => HO.out.set p v)
        have hgs : g ≠ gs := by omega
        generalize K2 p = v4 at *
        generalize hTT : talN n L p = T at *
        by_cases h0 : q = 0
        · subst h0
          have HT1 : Hid (T = 1) := Lib.hid (HT.out.trans (if_pos rfl))
          clear HT
          go_wp2
          go_ret
          exact ⟨ret_int (HT1.out.symm.trans hTT.symm), _, HKN.out, by rw [HT1.out]; exact HRN.out 1, HON.out _⟩
        · have HT1 : Hid (T = sumF (fun q => talN n L (nx L p q)) q) := Lib.hid (HT.out.trans (if_neg h0))
          clear HT
          generalize sumF (fun q => talN n L (nx L p q)) q = s at *
          have h0' : ((q : Int) == 0) = false := by simp; omega
          go_wp2
          go_ret
          exact ⟨ret_int (HT1.out.symm.trans hTT.symm), _, HKN.out, by rw [HT1.out]; exact HRN.out s, HON.out _⟩
  · generalize hTT : talN n L p = T at *
    rw [hKp] at c3 hK0
    have HK0 := Lib.hid HK.out
    go_enter Try.func46, Try.ntmps46
    go_wp2
    go_ret
    exact ⟨ret_int hTT.symm, K, HK.out, HRW.out.below HB0.out hlt, (OnlyB.refl gs w).below HB0.out⟩
theorem tales_any (a : Option Addr) (n c : Nat) (L : Rows) (W0 : World) (gs : Nat) (hs : storyOk n L) (hR0 : RSt W0 a n L) (hg : W0.heap.size ≤ gs) (r : Nat) : ∀ (p cs : Nat) (K : Nat → Int) (w : World), p < n → acy L p → rk n L p < r → Below W0.heap.size W0 w → KOk n L K → Row w gs n (nc K) →
    Calls Try.prog 46 #[.agg #[.slice a n c], .int .i64 p, .slice (some ⟨gs, 0, none⟩) n cs] w (TalP n L p gs w) := by
  induction r with
  | zero => intro p cs K w hp ha h; omega
  | succ r ih => intro p cs K w hp ha h hB hK hr; exact tales_step a n c L W0 gs hs hR0 hg p hp ha (fun y cs K w he hB hK hr => ih y cs K w (edge_lt hs hp he) (acy_next ha he) (by have := rk_next hs hp ha he; omega) hB hK hr) cs K w hB hK hr
set_option maxHeartbeats 2000000 in
theorem sCountTales_any (a : Option Addr) (n c : Nat) (L : Rows) (w : World) (hm : n ≤ 1048576) (hms : ∀ i, i < n → lenN L i ≤ 1048576) (hR : RSt w a n L) :
    Calls Try.prog 26 #[.agg #[.slice a n c]] w fun e w' => e = .returned (.int .i64 (ctR n L)) ∧ Below w.heap.size w w' := by
  have HM := Lib.hid hms
  have hb0 := Below.box w (.cells #[.slice a n c] 27 (0, 0))
  have HB0 := Lib.hid hb0
  have HR := Lib.hid (hR.below hb0)
  have cP : (w.alloc (.cells #[.slice a n c] 27 (0, 0))).cell? ⟨w.heap.size, 0, none⟩ = some (.slice a n c) := new_cell rfl
  clear hR hms hb0
  go_enter Try.func26, Try.ntmps26
  go_wp2_with fail
  refine (sStoryOk_any _ _ _ L _ hm HM.out HR.out).mono ?_
  rintro e w1 ⟨rfl, b1⟩
  replace cP := (b1.cell (p := ⟨w.heap.size, 0, none⟩) (World.block_lt_of_cell? _ _ cP)).trans cP
  have HR1 := Lib.hid (HR.out.below b1)
  have HB1 := Lib.hid (HB0.out.trans (b1.mono HB0.out.size))
  clear b1
  cases hsb : storyB n L
  · have HV : Hid (ctR n L = -1) := Lib.hid (ctR_no (.inl (fun h => by rw [storyB_t h] at hsb; cases hsb)))
    clear hsb
    go_wp2
    go_ret
    exact ⟨ret_int HV.out.symm, HB1.out⟩
  · have HS := Lib.hid (storyB_iff.1 hsb)
    obtain ⟨n1, n16⟩ := HS.out.1
    clear hsb
    go_wp2_with fail
    refine (sIsEndless_any _ _ _ L _ hm HM.out HR1.out).mono ?_
    rintro e w2 ⟨rfl, b2⟩
    replace cP := (b2.cell (p := ⟨w.heap.size, 0, none⟩) (World.block_lt_of_cell? _ _ cP)).trans cP
    have HR2 := Lib.hid (HR1.out.below b2)
    have HB2 := Lib.hid (HB1.out.trans (b2.mono HB1.out.size))
    clear b2
    by_cases hend : endless n L
    · have HE := Lib.hid (endB_t HS.out hend)
      have HV : Hid (ctR n L = -1) := Lib.hid (ctR_no (.inr hend))
      clear hend
      rw [HE.out]
      go_wp2
      go_ret
      exact ⟨ret_int HV.out.symm, HB2.out⟩
    · have HE := Lib.hid (endB_f (n := n) (L := L) (fun h => hend h.2))
      have HV : Hid (ctR n L = talN n L 0) := Lib.hid (ctR_yes HS.out hend)
      have HAC := Lib.hid (endless_not HS.out hend)
      clear hend
      rw [HE.out]
      have CP := Lib.hid cP
      go_wp2
      clear cP
      have O0 := Lib.hid (Own1.empty w2 3)
      have BX := Lib.hid (Below.box w2 (.cells #[] 3 (0, 0)))
      go_loopw [3, 4] (fun v i wr => ∃ (k g1 c1 : Nat), k ≤ n ∧ i = .int .i64 k ∧ v = .slice (some ⟨g1, 0, none⟩) k c1 ∧ Own1 wr w2.heap.size 3 g1 k c1 ((List.replicate k (-1)).map (Value.int .i64)) ∧ Below w2.heap.size w2 wr) (fun _ i _ => n - (intOf i).toNat)
      case atStart => exact ⟨0, _, 0, Nat.zero_le _, rfl, rfl, O0.out, BX.out⟩
      case round =>
        obtain ⟨k, g1, c1, hk, rfl, rfl, h1, hB⟩ := hrel
        have H1 := Lib.hid h1
        have HB := Lib.hid hB
        clear h1 hB
        have cPr := (HB.out.cell (p := ⟨w.heap.size, 0, none⟩) (World.block_lt_of_cell? _ _ CP.out)).trans CP.out
        by_cases hlt : k < n
        · have hl1 := H1.out.lt
          go_wp2_with (at_builtin; refine append_one rfl _ _ 31 rfl Try.underlying31 infoInt rfl (by omega) rfl (H1.out.alloc _) (by omega) rfl (new_cell (by simp)) rfl ?_; intro g' c' w3 o3 oo3 l3; have O3 := Lib.hid o3; have OO3 := Lib.hid oo3; clear o3 oo3 l3)
          go_roundw
          case rel =>
            have b2 := HB.out.alloc (o := .cells #[.int .i64 (-1)] 3 (0, 0)) HB.out.size
            exact ⟨k + 1, g', c', by omega, by go_num, rfl, by rw [List.replicate_succ', List.map_append]; exact O3.out, b2.trans (OO3.out.toBelow hl1.1 b2.size)⟩
          case measure => simp [intOf]; omega
        · have hk' : k = n := by omega
          subst hk'
          have HRW : Hid (Row wr g1 k (nc (fun _ => -1))) := Lib.hid (H1.out.cells.congr fun i hi => by unfold ic nc; simp [List.getD, hi])
          have hgl := H1.out.lt
          go_wp2_with fail
          refine (tales_any a k c L w2 g1 HS.out HR2.out hgl.1 _ 0 c1 _ _ n1 HAC.out (Nat.lt_succ_self _) HB.out (fun i _ => .inl rfl) HRW.out).mono ?_
          rintro e w4 ⟨rfl, K4, _, _, o4⟩
          have HB4 := Lib.hid (HB2.out.trans ((HB.out.trans (o4.toBelow hgl.1 HB.out.size)).mono HB2.out.size))
          clear o4
          rw [← HV.out]
          go_wp2
          go_ret
          exact ⟨rfl, HB4.out⟩
end Go.Proofs.Ytjnjlpljakkakaa
