/-
  Contracts of count and CountTales in the program (it keeps what it knows in a map).
  By an AI agent.
-/
import Derived.Test.YtjnjlpljakkakaaTalesS
import Derived.Maps.OwnSet
import Derived.Maps.OwnOps
namespace Go.Proofs.Ytjnjlpljakkakaa
open Go.ChangeShapes Go.WideShapes Go.ChangeAt Go.RowKit Go.Joins Go.Deep Go.Maps
set_option maxRecDepth 100000
set_option linter.unusedVariables false

theorem keyLaw : Keyed Try.prog 3 := int_keyed Try.underlying3
theorem zeroI (w : World) : (zeroValue 3).run Try.prog w = .ok (.int .i64 0) w := by kernel_rfl
theorem wf64 {x : Int} (h : -9223372036854775808 ≤ x ∧ x ≤ 9223372036854775807) : (Lit.int .i64 x).wf = true := by
  unfold Lit.wf; simp only [Bool.and_eq_true, decide_eq_true_eq]; exact h
def mkey (k : Nat) : Lit := .int .i64 (k : Int)
theorem mkey_ok (k : Nat) : WideAt.IsKeyLit (mkey k) := by unfold mkey; exact trivial
theorem mkey_ne {a b : Nat} (h : a ≠ b) : mkey a ≠ mkey b := by
  unfold mkey; intro e; simp only [Lit.int.injEq, true_and] at e; omega
def MOk (n : Nat) (L : Rows) (S : Nat → Bool) (D : DataW Unit) : Prop := ∀ k, k < n → Maps.has D (mkey k) = S k ∧ (S k = true → D.atKey (mkey k) (.lit (.int .i64 0)) = .lit (.int .i64 (talN n L k)))
theorem MOk.put {n : Nat} {L : Rows} {S : Nat → Bool} {D : DataW Unit} (h : MOk n L S D) (hD : IsMap D) (p : Nat) : MOk n L (fun i => if i = p then true else S i) (D.put (mkey p) (.lit (.int .i64 (talN n L p)))) := by
  intro k hk
  by_cases e : k = p
  · subst e
    refine ⟨?_, fun _ => atKey_put_same hD (mkey_ok _) _ _⟩
    simp only [if_true]
    exact has_put_same hD (mkey_ok _) _
  · simp only [if_neg e]
    refine ⟨(has_put_other (mkey_ne e) _).trans (h k hk).1, fun hs => (atKey_put_other (mkey_ne e) _ _).trans ((h k hk).2 hs)⟩
/-- The map at block b: at most nn entries; what it knows is S. -/
def MapW (n : Nat) (L : Rows) (b : Nat) (S : Nat → Bool) (w : World) : Prop := ∃ (nn : Nat) (D : DataW Unit), MOk n L S D ∧ w.ownsMap Try.prog 3 (plainElem Try.prog 3) b nn D ∧ nn + unseen n S ≤ 16
theorem MapW.lt {n b : Nat} {L : Rows} {S : Nat → Bool} {w : World} (h : MapW n L b S w) : b < w.heap.size := by obtain ⟨_, _, _, h, _⟩ := h; exact h.lt
theorem MapW.alloc {n b : Nat} {L : Rows} {S : Nat → Bool} {w : World} (h : MapW n L b S w) (o : Obj) : MapW n L b S (w.alloc o) := by
  obtain ⟨nn, D, h1, h2, h3⟩ := h; exact ⟨nn, D, h1, h2.alloc o, h3⟩
def CntP (n : Nat) (L : Rows) (p b : Nat) (S : Nat → Bool) (w : World) (e : Ending) (w' : World) : Prop := e = .returned (.int .i64 (talN n L p)) ∧ ∃ S', MapW n L b S' w' ∧ OnlyB b w w' ∧ ∀ x, S' x = true → S x = true ∨ x = p ∨ Path L p x
set_option maxHeartbeats 4000000 in
theorem count_step (a : Option Addr) (n c : Nat) (L : Rows) (W0 : World) (b : Nat) (hs : storyOk n L) (hR0 : RSt W0 a n L) (hg : W0.heap.size ≤ b) (p : Nat) (hp : p < n) (ha : acy L p)
    (ih : ∀ (y : Nat) (S : Nat → Bool) (w : World), edge L p y → Below W0.heap.size W0 w → MapW n L b S w → Calls Try.prog 47 #[.agg #[.slice a n c], .int .i64 y, .map (some b)] w (CntP n L y b S w))
    (S : Nat → Bool) (w : World) (hB : Below W0.heap.size W0 w) (hM : MapW n L b S w) :
    Calls Try.prog 47 #[.agg #[.slice a n c], .int .i64 p, .map (some b)] w (CntP n L p b S w) := by
  have HI := Lib.hid ih
  have HS := Lib.hid hs
  have HA := Lib.hid ha
  have hb0 := Below.box w (.cells #[.slice a n c] 27 (0, 0))
  have HB0 := Lib.hid hb0
  have HB := Lib.hid hB
  have HR0 := Lib.hid hR0
  have hlt := hM.lt
  have HMW := Lib.hid hM
  have n16 := hs.1.2
  have HT := Lib.hid (talN_eq hs hp ha)
  obtain ⟨T0, T1⟩ := talN_16 hs hp ha
  clear ih hs hb0 hB hR0 ha
  obtain ⟨nn, D, hok, hown, hnn⟩ := hM
  have HOK := Lib.hid hok
  have HOWN := Lib.hid hown
  have i0 : (0 : Int) ≤ (p : Int) := Int.natCast_nonneg _
  have i1 : (p : Int) < (n : Int) := by omega
  have hkey : keyOf Try.prog 3 (.int .i64 (p : Int)) = some (.int .i64 (p : Int)) := keyOf_int_mk Try.underlying3 (wf64 (by omega))
  have HKEY := Lib.hid hkey
  obtain ⟨hh1, hh2⟩ := hok p hp
  unfold mkey at hh1 hh2
  clear hok hown hkey
  obtain ⟨g, α, C, rfl, lg, c1, hC, s1⟩ := HR0.out.at hp
  have C1 := Lib.hid c1
  have S1 := Lib.hid s1
  have hlen : lenN L p ≤ 4 := (HS.out.2 p hp).1
  clear s1 c1
  cases hSp : S p
  · rw [hSp] at hh1
    have HSP := Lib.hid hSp
    clear hSp hh2
    have HO1 : Hid (OnlyB b w (w.alloc (.cells #[.slice (some ⟨g, 0, none⟩) n c] 27 (0, 0)))) := Lib.hid ((OnlyB.refl b w).below (Below.box _ _))
    have HM1 : Hid (MapW n L b S (w.alloc (.cells #[.slice (some ⟨g, 0, none⟩) n c] 27 (0, 0)))) := Lib.hid (HMW.out.alloc _)
    have HC1 : Hid ((w.alloc (.cells #[.slice (some ⟨g, 0, none⟩) n c] 27 (0, 0))).cell? ⟨w.heap.size, 0, none⟩ = some (.slice (some ⟨g, 0, none⟩) n c)) := Lib.hid (new_cell rfl)
    have FB : Hid (∀ wr, OnlyB b w wr → Below W0.heap.size W0 wr) := Lib.hid (fun wr h => HB.out.trans (h.toBelow hg HB.out.size))
    generalize hm : lenN L p = m at *
    have HM := Lib.hid hm
    clear hm
    have d1 := ((FB.out _ HO1.out).cell (p := ⟨g, p, none⟩) lg).trans C1.out
    go_enter Try.func47, Try.ntmps47
    go_wp2_with (at_lookup; refine wpList_lookup_own_ok_int _ rfl _ _ 53 rfl 3 3 .i64 keyLaw Try.underlying53 Try.underlying3 (zeroI _) b nn D rfl (HOWN.out.alloc _) _ _ rfl HKEY.out ?_; intro cc hat hwc)
    clear d1 hh1
    generalize w.alloc (.cells #[.slice (some ⟨g, 0, none⟩) n c] 27 (0, 0)) = W1 at *
    generalize hbx : w.heap.size = bx at *
    have HBX := Lib.hid hbx
    clear hbx hat hwc
    go_loopw [9, 26] (fun s i wr => ∃ (q : Nat) (S' : Nat → Bool), q ≤ m ∧ i = .int .i64 q ∧ s = .int .i64 (sumF (fun q => talN n L (nx L p q)) q) ∧ MapW n L b S' wr ∧ OnlyB b w wr ∧ wr.cell? ⟨bx, 0, none⟩ = some (.slice (some ⟨g, 0, none⟩) n c) ∧ ∀ x, S' x = true → S x = true ∨ Path L p x) (fun _ i _ => m - (intOf i).toNat)
    case atStart => exact ⟨0, _, Nat.zero_le _, rfl, rfl, HM1.out, HO1.out, HC1.out, fun x h => .inl h⟩
    case round =>
      obtain ⟨q, S2, hq, rfl, rfl, hm2, ho, d0, hn2⟩ := hrel
      have HM2 := Lib.hid hm2
      have HO := Lib.hid ho
      have HN2 := Lib.hid hn2
      clear hm2 ho hn2
      have hFB := FB.out _ HO.out
      by_cases hlq : q < m
      · obtain ⟨g3, rfl, hr3⟩ := (S1.out.below hFB).row (by omega)
        have c2 := hr3.cell hlq
        unfold ic at c2
        obtain ⟨he, hx⟩ := edge_nx HS.out hp (q := q) (by rw [HM.out]; exact hlq)
        rw [hx] at c2
        have HE := Lib.hid he
        have hyn := edge_lt HS.out hp he
        obtain ⟨y0, y1⟩ := talN_16 HS.out hyn (acy_next HA.out he)
        have hsb := sumF_bd (f := fun q => talN n L (nx L p q)) (B := 4294967296) (by omega) q (fun q' hq' => by
          have he := (edge_nx HS.out hp (q := q') (by rw [HM.out]; omega)).1
          exact talN_16 HS.out (edge_lt HS.out hp he) (acy_next HA.out he))
        obtain ⟨z0, z1⟩ := hsb
        have HSU : Hid (sumF (fun q => talN n L (nx L p q)) (q + 1) = sumF (fun q => talN n L (nx L p q)) q + talN n L (nx L p q)) := Lib.hid rfl
        have HFB := Lib.hid hFB
        have z2 : sumF (fun q => talN n L (nx L p q)) q ≤ 17179869184 := by omega
        clear hx hr3 hFB he z1
        generalize sumF (fun q => talN n L (nx L p q)) q = s at *
        generalize hyy : nx L p q = y at *
        generalize htt : talN n L y = ty at *
        have HTT := Lib.hid htt
        clear htt hyy
        have D0 := Lib.hid d0
        go_wp2_with (go_at_call 47; refine (HI.out y S2 _ HE.out HFB.out HM2.out).mono ?_; rintro e w2 ⟨rfl, S3, hm3, ho3, hn3⟩; rw [HTT.out]; have HM3 := Lib.hid hm3; have HN3 := Lib.hid hn3; have HO3 := Lib.hid (HO.out.then ho3); have HD3 := Lib.hid ((World.cell?_of_block (w := wr) (a := ⟨bx, 0, none⟩) (ho3.block bx (World.block_lt_of_cell? _ _ D0.out) (by have := HBX.out; omega))).trans D0.out); clear hm3 hn3 ho3)
        go_roundw
        case rel =>
          refine ⟨q + 1, S3, by omega, by go_num, congrArg (Value.int .i64) (by rw [HSU.out]), HM3.out, HO3.out, HD3.out, fun x hx => ?_⟩
          rcases HN3.out x hx with h | rfl | h
          · exact HN2.out x h
          · exact .inr (.one HE.out)
          · exact .inr (.more HE.out h)
        case measure => simp [intOf]; omega
      · have hq' : q = m := by omega
        subst hq'
        have d1 := (hFB.cell (p := ⟨g, p, none⟩) lg).trans C1.out
        have hS2p : S2 p = false := by
          cases e : S2 p
          · rfl
          · rcases HN2.out p e with h | h
            · rw [HSP.out] at h; cases h
            · exact absurd h (HA.out p (.inl rfl))
        obtain ⟨n2, D2, hok2, hown2, hnn2⟩ := HM2.out
        have hul := unseen_lt (n := n) (S := S2) (T := fun i => if i = p then true else S2 i) (fun i h => by show (if i = p then true else S2 i) = true; split; rfl; exact h) hp hS2p (by simp)
        have HOWN2 := Lib.hid hown2
        have HPUT := Lib.hid (hok2.put hown2.isMap p)
        have hn16 : n2 < 16 := by omega
        have hfin : n2 + 1 + unseen n (fun i => if i = p then true else S2 i) ≤ 16 := by omega
        have HFIN := Lib.hid hfin
        clear hok2 hown2 hul hfin hnn2 hFB
        have hwT : (Lit.int .i64 (talN n L p)).wf = true := wf64 (by omega)
        have HWT := Lib.hid hwT
        generalize hTT : talN n L p = T at *
        unfold mkey at HPUT
        by_cases h0 : q = 0
        · subst h0
          have HT1 : Hid (T = 1) := Lib.hid (HT.out.trans (if_pos rfl))
          clear HT hwT
          rw [HT1.out] at HPUT HWT
          go_wp2_with (at_mapUpdate; refine wpList_mapUpdate_own _ rfl _ _ _ 53 rfl 3 3 keyLaw Try.underlying53 _ b n2 _ rfl HOWN2.out (by unfold maxLen; omega) _ _ _ rfl rfl HKEY.out _ [] (plainElem_int Try.underlying3 HWT.out) ?_; intro w5 hown5 hgrow5; have H5 := Lib.hid hown5; have G5 := Lib.hid hgrow5; clear hown5 hgrow5)
          go_ret
          refine ⟨ret_int (HT1.out.symm.trans hTT.symm), _, ⟨_, _, HPUT.out, H5.out, HFIN.out⟩, HO.out.then (OnlyB.of_grown G5.out), fun x hx => ?_⟩
          by_cases e : x = p
          · exact .inr (.inl e)
          · simp only [if_neg e] at hx
            rcases HN2.out x hx with h | h
            · exact .inl h
            · exact .inr (.inr h)
        · have HT1 : Hid (T = sumF (fun q => talN n L (nx L p q)) q) := Lib.hid (HT.out.trans (if_neg h0))
          clear HT hwT
          rw [HT1.out] at HPUT HWT
          generalize sumF (fun q => talN n L (nx L p q)) q = s at *
          have h0' : ((q : Int) == 0) = false := by simp; omega
          go_wp2_with (at_mapUpdate; refine wpList_mapUpdate_own _ rfl _ _ _ 53 rfl 3 3 keyLaw Try.underlying53 _ b n2 _ rfl HOWN2.out (by unfold maxLen; omega) _ _ _ rfl rfl HKEY.out _ [] (plainElem_int Try.underlying3 HWT.out) ?_; intro w5 hown5 hgrow5; have H5 := Lib.hid hown5; have G5 := Lib.hid hgrow5; clear hown5 hgrow5)
          go_ret
          refine ⟨ret_int (HT1.out.symm.trans hTT.symm), _, ⟨_, _, HPUT.out, H5.out, HFIN.out⟩, HO.out.then (OnlyB.of_grown G5.out), fun x hx => ?_⟩
          by_cases e : x = p
          · exact .inr (.inl e)
          · simp only [if_neg e] at hx
            rcases HN2.out x hx with h | h
            · exact .inl h
            · exact .inr (.inr h)
  · rw [hSp] at hh1
    have HH2 := Lib.hid (hh2 hSp)
    clear hh2 hSp
    go_enter Try.func47, Try.ntmps47
    go_wp2_with (at_lookup; refine wpList_lookup_own_ok_int _ rfl _ _ 53 rfl 3 3 .i64 keyLaw Try.underlying53 Try.underlying3 (zeroI _) b nn D rfl (HOWN.out.alloc _) _ _ rfl HKEY.out ?_; intro cc hat hwc)
    go_ret
    have hcc : cc = talN n L p := by
      rw [HH2.out] at hat
      simp only [DataW.lit.injEq, Lit.int.injEq, true_and] at hat
      exact hat.symm
    exact ⟨ret_int hcc, S, HMW.out.alloc _, (OnlyB.refl b w).below HB0.out, fun x h => .inl h⟩
theorem count_any (a : Option Addr) (n c : Nat) (L : Rows) (W0 : World) (b : Nat) (hs : storyOk n L) (hR0 : RSt W0 a n L) (hg : W0.heap.size ≤ b) (r : Nat) : ∀ (p : Nat) (S : Nat → Bool) (w : World), p < n → acy L p → rk n L p < r → Below W0.heap.size W0 w → MapW n L b S w →
    Calls Try.prog 47 #[.agg #[.slice a n c], .int .i64 p, .map (some b)] w (CntP n L p b S w) := by
  induction r with
  | zero => intro p S w hp ha h; omega
  | succ r ih => intro p S w hp ha h hB hM; exact count_step a n c L W0 b hs hR0 hg p hp ha (fun y S w he hB hM => ih y S w (edge_lt hs hp he) (acy_next ha he) (by have := rk_next hs hp ha he; omega) hB hM) S w hB hM
set_option maxHeartbeats 2000000 in
theorem iCountTales_any (a : Option Addr) (n c : Nat) (L : Rows) (w : World) (hm : n ≤ 1048576) (hms : ∀ i, i < n → lenN L i ≤ 1048576) (hR : RSt w a n L) :
    Calls Try.prog 27 #[.agg #[.slice a n c]] w fun e w' => e = .returned (.int .i64 (ctR n L)) ∧ Below w.heap.size w w' := by
  have HM := Lib.hid hms
  have hb0 := Below.box w (.cells #[.slice a n c] 27 (0, 0))
  have HB0 := Lib.hid hb0
  have HR := Lib.hid (hR.below hb0)
  have cP : (w.alloc (.cells #[.slice a n c] 27 (0, 0))).cell? ⟨w.heap.size, 0, none⟩ = some (.slice a n c) := new_cell rfl
  have hmm := @run_makeMap Try.prog
  clear hR hms hb0
  go_enter Try.func27, Try.ntmps27
  go_wp2_with fail
  refine (iStoryOk_any _ _ _ L _ hm HM.out HR.out).mono ?_
  rintro e w1 ⟨rfl, b1⟩
  replace cP := (b1.cell (p := ⟨w.heap.size, 0, none⟩) (World.block_lt_of_cell? _ _ cP)).trans cP
  have HR1 := Lib.hid (HR.out.below b1)
  have HB1 := Lib.hid (HB0.out.trans (b1.mono HB0.out.size))
  clear b1
  cases hsb : storyB n L
  · have HV : Hid (ctR n L = -1) := Lib.hid (ctR_no (.inl (fun h => by rw [storyB_t h] at hsb; cases hsb)))
    clear hsb
    go_wp2
    go_ret
    exact ⟨ret_int HV.out.symm, HB1.out⟩
  · have HS := Lib.hid (storyB_iff.1 hsb)
    obtain ⟨n1, n16⟩ := HS.out.1
    clear hsb
    go_wp2_with fail
    refine (iIsEndless_any _ _ _ L _ hm HM.out HR1.out).mono ?_
    rintro e w2 ⟨rfl, b2⟩
    replace cP := (b2.cell (p := ⟨w.heap.size, 0, none⟩) (World.block_lt_of_cell? _ _ cP)).trans cP
    have HR2 := Lib.hid (HR1.out.below b2)
    have HB2 := Lib.hid (HB1.out.trans (b2.mono HB1.out.size))
    clear b2
    by_cases hend : endless n L
    · have HE := Lib.hid (endB_t HS.out hend)
      have HV : Hid (ctR n L = -1) := Lib.hid (ctR_no (.inr hend))
      clear hend
      rw [HE.out]
      go_wp2
      go_ret
      exact ⟨ret_int HV.out.symm, HB2.out⟩
    · have HE := Lib.hid (endB_f (n := n) (L := L) (fun h => hend h.2))
      have HV : Hid (ctR n L = talN n L 0) := Lib.hid (ctR_yes HS.out hend)
      have HAC := Lib.hid (endless_not HS.out hend)
      clear hend
      rw [HE.out]
      have HB3 := Lib.hid (Below.box w2 (.map #[] 0))
      have HMW : Hid (MapW n L w2.heap.size (fun _ => false) (w2.alloc (.map #[] 0))) := Lib.hid ⟨0, .map [], fun k hk => ⟨rfl, fun h => by cases h⟩, World.ownsMap_made _ _ _ _, by
        have : unseen n (fun _ => false) ≤ n := by unfold unseen; exact Nat.le_trans (List.length_filter_le _ _) (by simp)
        omega⟩
      go_wp2_with fail
      refine (count_any a n c L w2 w2.heap.size HS.out HR2.out (Nat.le_refl _) _ 0 _ _ n1 HAC.out (Nat.lt_succ_self _) HB3.out HMW.out).mono ?_
      rintro e w4 ⟨rfl, S4, _, o4, _⟩
      have HB4 := Lib.hid (HB2.out.trans ((HB3.out.trans (o4.toBelow (Nat.le_refl _) HB3.out.size)).mono HB2.out.size))
      clear o4
      rw [← HV.out]
      go_wp2
      go_ret
      exact ⟨rfl, HB4.out⟩
end Go.Proofs.Ytjnjlpljakkakaa
