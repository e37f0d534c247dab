/-
  The contract of ThickOrder in the program: the library's stable sort, slices.Delete, the two ends.
  By an AI agent.
-/
import Derived.Test.YtjkcmjnejbobeaaTOrdI
namespace Go.Proofs.Ytjkcmjnejbobeaa
open Go.ChangeShapes Go.WideShapes Go.ChangeAt Go.RowKit Go.Joins Go.Deep Go.Sort
set_option maxRecDepth 100000
set_option linter.unusedVariables false

theorem thNop_any (a b n cO : Nat) (g : Option Addr) (v : Value) (w : World) (h : b ≤ a) (ha : a ≤ 1000) :
    Calls Try.prog 69 #[.slice g n cO, .int .i64 (a : Nat), .int .i64 (b : Nat), v] w fun e w' => e = .returned (.tuple #[]) ∧ w' = w := by
  have e1 : IntKind.i64.wrap ((a : Int) + 1) = (a : Int) + 1 := IntWalk.i64_in _ (by omega)
  have h1 : ¬ ((a : Int) + 1 < (b : Int)) := by omega
  go_enter Try.func69, Try.ntmps69
  go_wp2
  refine wp_loop_rounds 1 ?_
  rw [rounds_succ]
  go_wp2
  go_end0
  exact ⟨rfl, rfl⟩
/-- What the sort leaves. -/
def ThS (W0 gO n cO : Nat) (key : Nat → Int) (w : World) (e : Ending) (w' : World) : Prop := e = .returned (.tuple #[]) ∧ Own1 w' W0 3 gO n cO (vl (ordF key n) n) ∧ OnlyB gO w w'
set_option maxHeartbeats 2000000 in
theorem thStable_any (p q g o n c gO cO : Nat) (xs : List DCard) (sh : Int) (w0 w : World) (hC : ThC w0 p q g o n c xs sh) (hb : Below w0.heap.size w0 w) (hO : Own1 w w0.heap.size 3 gO n cO (vl id n)) (hl : xs.length = n) (hn : n ≤ 20) (hms : ∀ i, i < n → (xs.getD i default).modest) :
    Calls Try.prog 51 #[.slice (some ⟨gO, 0, none⟩) n cO, .int .i64 (n : Nat), cmpF p q] w (ThS w0.heap.size gO n cO (tcN xs sh) w) := by
  have HI := Lib.hid (thIns_any p q g o n c gO cO xs sh w0 w hC hb hO hl hn hms)
  clear hC hb hO hl hms
  by_cases h20 : n = 20
  · have HN : Hid (∀ w1, Calls Try.prog 69 #[.slice (some ⟨gO, 0, none⟩) n cO, .int .i64 (20 : Nat), .int .i64 (n : Nat), cmpF p q] w1 fun e w' => e = .returned (.tuple #[]) ∧ w' = w1) := Lib.hid (fun w1 => thNop_any 20 n n cO _ _ w1 (by omega) (by omega))
    subst h20
    go_enter Try.func51, Try.ntmps51
    go_wp2_with fail
    refine wp_loop_rounds 2 ?_
    rw [rounds_succ]
    go_wp2_with fail
    refine HI.out.mono ?_
    rintro e w1 ⟨rfl, h1, h2⟩
    have H1 := Lib.hid h1
    have H2 := Lib.hid h2
    clear h1 h2
    go_wp2_with fail
    rw [rounds_succ]
    go_wp2_with fail
    refine (HN.out _).mono ?_
    rintro e w2 ⟨rfl, rfl⟩
    go_wp2_with fail
    refine wp_loop_rounds 1 ?_
    rw [rounds_succ]
    go_wp2
    go_end0
    exact ⟨rfl, H1.out, H2.out⟩
  · have h1 : ¬ ((20 : Int) ≤ (n : Int)) := by omega
    have h2 : ¬ ((20 : Int) < (n : Int)) := by omega
    go_enter Try.func51, Try.ntmps51
    go_wp2_with fail
    refine wp_loop_rounds 1 ?_
    rw [rounds_succ]
    go_wp2_with fail
    refine HI.out.mono ?_
    rintro e w1 ⟨rfl, h1, h2⟩
    have H1 := Lib.hid h1
    have H2 := Lib.hid h2
    clear h1 h2
    go_wp2_with fail
    refine wp_loop_rounds 1 ?_
    rw [rounds_succ]
    go_wp2
    go_end0
    exact ⟨rfl, H1.out, H2.out⟩
theorem thSort_any (p q g o n c gO cO : Nat) (xs : List DCard) (sh : Int) (w0 w : World) (hC : ThC w0 p q g o n c xs sh) (hb : Below w0.heap.size w0 w) (hO : Own1 w w0.heap.size 3 gO n cO (vl id n)) (hl : xs.length = n) (hn : n ≤ 20) (hms : ∀ i, i < n → (xs.getD i default).modest) :
    Calls Try.prog 35 #[.slice (some ⟨gO, 0, none⟩) n cO, cmpF p q] w (ThS w0.heap.size gO n cO (tcN xs sh) w) := by
  have HI := Lib.hid (thStable_any p q g o n c gO cO xs sh w0 w hC hb hO hl hn hms)
  clear hC hb hO hl hms
  go_enter Try.func35, Try.ntmps35
  go_wp2_with fail
  refine HI.out.mono ?_
  rintro e w1 ⟨rfl, h1, h2⟩
  have H1 := Lib.hid h1
  have H2 := Lib.hid h2
  clear h1 h2
  go_wp2
  go_end0
  exact ⟨rfl, H1.out, H2.out⟩
/-- slices.Delete of one number. -/
theorem thDel_any (B gO n cO k : Nat) (f : Nat → Nat) (w : World) (hO : Own1 w B 3 gO n cO (vl f n)) (hk : k < n) (hn : n ≤ 20) :
    Calls Try.prog 37 #[.slice (some ⟨gO, 0, none⟩) n cO, .int .i64 (k : Nat), .int .i64 ((k + 1 : Nat) : Int)] w fun e w' => e = .returned (.slice (some ⟨gO, 0, none⟩) (n - 1) cO) ∧ Own1 w' B 3 gO (n - 1) cO (vl (fun i => if i < k then f i else f (i + 1)) (n - 1)) ∧ OnlyB gO w w' := by
  have hown : w.ownsRow B 3 1 (.slice (some ⟨gO, 0, none⟩) n cO) n ((nl f n).map (Value.int .i64)) := hO
  obtain ⟨g', cap, hv, hbg, hgl, hncap, hcap, hlen, hH⟩ := Lib.holds_of_ownsRow (enc := Value.int .i64) hown (by simp)
  cases hv
  have hd := sh_slices_Delete_int gO 0 cO k (k + 1) (nl f n) w hH (by rw [nl_len]; exact hncap) hcap (by omega) (by rw [nl_len]; omega)
  rw [nl_len, show n - (k + 1 - k) = n - 1 by omega] at hd
  refine hd.mono ?_
  rintro e w' ⟨he, qq, hw⟩
  have hk1 : (nl f n).take k ++ (nl f n).drop (k + 1) = nl (fun i => if i < k then f i else f (i + 1)) (n - 1) := nl_drop1 hk
  rw [hk1, show k + 1 - k = 1 by omega] at hw
  subst hw
  have hc := Lib.ownsRow_putRow (q := qq) (k := n - 1) (ys := nl (fun i => if i < k then f i else f (i + 1)) (n - 1) ++ List.replicate 1 0) hown (by rw [List.length_append, nl_len, List.length_replicate]; omega) (by omega)
  rw [List.take_left' (by rw [nl_len])] at hc
  refine ⟨he, hc, rfl, rfl, rfl, ?_, fun i hi hne => ?_⟩
  · simp [putRow, mapBlock, Sort.ahead]
  · have : gO ≠ i := fun e => hne e.symm
    simp [putRow, mapBlock, Sort.ahead, Array.getElem?_modify, this]
def lenV : Value → Nat
  | .slice _ n _ => n
  | _ => 0
set_option maxHeartbeats 4000000 in
theorem iThickOrder_any (g o n c : Nat) (xs : List DCard) (sh : Int) (w : World) (hl : xs.length = n) (hm : n ≤ 1048576) (hms : ∀ i, i < n → (xs.getD i default).modest) (hR : LC w g o n xs) :
    Calls Try.prog 14 #[.slice (some ⟨g, o, none⟩) n c, .int .i64 sh] w (GetL (thR xs sh) w) := by
  have hb0 := (Below.box w (.cells #[.slice (some ⟨g, o, none⟩) n c] 24 (0, 0)))
  have hb1 := (Below.box (w.alloc (.cells #[.slice (some ⟨g, o, none⟩) n c] 24 (0, 0))) (.cells #[.int .i64 sh] 3 (0, 0)))
  have hz1 : (w.alloc (.cells #[.slice (some ⟨g, o, none⟩) n c] 24 (0, 0))).heap.size = w.heap.size + 1 := by simp
  have hbw : Below w.heap.size w ((w.alloc (.cells #[.slice (some ⟨g, o, none⟩) n c] 24 (0, 0))).alloc (.cells #[.int .i64 sh] 3 (0, 0))) := hb0.trans (hb1.mono (by omega))
  have HBW := Lib.hid hbw
  have HC : Hid (ThC ((w.alloc (.cells #[.slice (some ⟨g, o, none⟩) n c] 24 (0, 0))).alloc (.cells #[.int .i64 sh] 3 (0, 0))) w.heap.size (w.heap.size + 1) g o n c xs sh) := Lib.hid
    ⟨((hb1.cell (by show w.heap.size < _; omega)).trans (new_cell rfl)), new_cell (by rw [hz1]), hR.below hbw⟩
  have HL := Lib.hid hl
  have HM := Lib.hid hms
  clear hR hms hb0 hb1 hbw hz1
  go_enter Try.func14, Try.ntmps14
  go_wp2_with fail
  generalize (w.alloc (.cells #[.slice (some ⟨g, o, none⟩) n c] 24 (0, 0))).alloc (.cells #[.int .i64 sh] 3 (0, 0)) = W at *
  generalize hpp : w.heap.size = p at *
  have HPP := Lib.hid hpp
  clear hpp
  have hc0 := HC.out.cards
  have hc1 := HC.out.sheet
  cases hb : bookB xs sh
  · have HX : Hid (spineR xs sh = -1) := Lib.hid (by unfold spineR; rw [hb]; rfl)
    have HV : Hid (thR xs sh = []) := Lib.hid (by unfold thR; rw [hb]; rfl)
    clear hb hl
    go_wp2_with (go_at_call 13; refine (iSpineWidth_any _ _ _ _ xs _ _ HL.out hm HM.out HC.out.row).mono ?_; rw [HX.out]; rintro e w2 ⟨rfl, hb1⟩; have HB1 := Lib.hid hb1; clear hb1)
    go_ret
    exact GetL.nil HV.out (by rw [HPP.out]; exact HBW.out.trans (HB1.out.mono (by have := HBW.out.size; have := HPP.out; omega))) _ _
  · obtain ⟨h20, hok⟩ := bookB_iff.1 hb
    have hsn := sumT_bd (xs := xs) (sh := sh) xs.length hok
    have HX : Hid (spineR xs sh = sumT xs sh n) := Lib.hid (by unfold spineR; rw [if_pos hb, hl])
    rw [hl] at h20 hsn
    obtain ⟨sn0, sn1⟩ := hsn
    have HV : Hid (thR xs sh = nl (zgF (ordF (tcN xs sh) n) n) n) := Lib.hid (by unfold thR thO; rw [if_pos hb, hl])
    have hQ : decide (sumT xs sh n < 0) = false := decide_eq_false (by omega)
    clear hb hl hok
    generalize sumT xs sh n = Q at *
    go_wp2_with fail
    refine (iSpineWidth_any _ _ _ _ xs _ _ HL.out hm HM.out HC.out.row).mono ?_
    rw [HX.out]
    rintro e w1 ⟨rfl, hb1⟩
    have HB1 := Lib.hid hb1
    have hA1 := Below.box w1 (.cells #[] 3 (0, 0))
    have hA2 := Below.box (w1.alloc (.cells #[] 3 (0, 0))) (.cells #[] 3 (0, 0))
    have hs1 : (w1.alloc (.cells #[] 3 (0, 0))).heap.size = w1.heap.size + 1 := by simp
    have hs2 : ((w1.alloc (.cells #[] 3 (0, 0))).alloc (.cells #[] 3 (0, 0))).heap.size = w1.heap.size + 2 := by simp
    have O5 := Lib.hid (((Own1.empty w1 3).alloc (.cells #[] 3 (0, 0))).mono hb1.size)
    have O6 : Hid (Own1 ((w1.alloc (.cells #[] 3 (0, 0))).alloc (.cells #[] 3 (0, 0))) W.heap.size 3 (w1.heap.size + 1) 0 0 []) := Lib.hid (by
      have h := (Own1.empty (w1.alloc (.cells #[] 3 (0, 0))) 3).mono (B' := W.heap.size) (by rw [hs1]; have := hb1.size; omega)
      rw [hs1] at h
      exact h)
    have HB2 : Hid (Below W.heap.size W ((w1.alloc (.cells #[] 3 (0, 0))).alloc (.cells #[] 3 (0, 0)))) := Lib.hid (hb1.trans ((hA1.trans (hA2.mono (by omega))).mono hb1.size))
    have hcA := (HB2.out.cell (World.block_lt_of_cell? _ _ hc0)).trans hc0
    clear hb1 hA1 hA2 hs1 hc0 hc1 HX HB1
    go_wp2_with fail
    generalize (w1.alloc (.cells #[] 3 (0, 0))).alloc (.cells #[] 3 (0, 0)) = wA at *
    generalize w1.heap.size = b5 at *
    obtain ⟨b6, hb6⟩ : ∃ b6, b6 = b5 + 1 := ⟨_, rfl⟩
    rw [← hb6] at O6 ⊢
    have h56 : b5 ≠ b6 := by omega
    clear hb6
    go_loopw [5, 17] (fun v i wr => ∃ (k gO cO : Nat), k ≤ n ∧ i = .int .i64 k ∧ v = .slice (some ⟨gO, 0, none⟩) k cO ∧ Own1 wr W.heap.size 3 gO k cO (vl id k) ∧ Own1 wr W.heap.size 3 b6 0 0 [] ∧ gO ≠ b6 ∧ Below W.heap.size W wr) (fun _ i _ => n - (intOf i).toNat)
    case atStart => exact ⟨0, b5, 0, Nat.zero_le _, rfl, rfl, O5.out, O6.out, h56, HB2.out⟩
    case round =>
      clear O5 O6 HB2 hcA h56
      obtain ⟨k, gO, cO, hk, rfl, rfl, h5, h6, hne, hB⟩ := hrel
      have H5 := Lib.hid h5
      have H6 := Lib.hid h6
      have HB := Lib.hid hB
      have l5 := h5.lt
      have l6 := h6.lt
      have hsz := hB.size
      clear h5 h6 hB
      by_cases hlt : k < n
      · have HSU := Lib.hid (vl_succ id k)
        go_wp2_with (at_builtin; refine append_one rfl _ _ 27 rfl Try.underlying27 infoInt rfl (by omega) rfl (H5.out.alloc _) (by omega) rfl (new_cell (by simp)) rfl ?_; intro g' c'' w3 o3 oo3 l3; have O3 := Lib.hid o3; have OO3 := Lib.hid oo3; have L3 := Lib.hid l3; clear o3 oo3 l3)
        go_roundw
        case rel =>
          refine ⟨k + 1, g', c'', by omega, by go_num, rfl, by rw [HSU.out]; exact O3.out, (H6.out.alloc _).keep OO3.out (by omega), ?_, HB.out.trans (((Below.box wr (.cells #[.int .i64 (k : Int)] 3 (0, 0))).mono hsz).trans (OO3.out.toBelow l5.1 (by simp; omega)))⟩
          rcases L3.out with h | h
          · omega
          · simp at h; omega
        case measure => simp [intOf]; omega
      · have hk' : n = k := by omega
        subst hk'
        go_wp2_with fail
        refine (thSort_any _ _ g o n c gO cO xs sh W _ HC.out HB.out H5.out HL.out h20 HM.out).mono ?_
        rintro e w3 ⟨rfl, h5, hO⟩
        have H5' := Lib.hid h5
        have H6' := Lib.hid (H6.out.keep hO (fun e => hne e.symm))
        have HB' := Lib.hid (below_only HB.out hO l5.1 hsz)
        clear h5 hO H5 H6 HB l5 l6 hsz hk hlt
        generalize ordF (tcN xs sh) n = f at *
        go_wp2
        go_loopw [5, 6] (fun v5 v6 wr => ∃ (t m g6 c6 : Nat), m + t = n ∧ v5 = .slice (some ⟨gO, 0, none⟩) m cO ∧ v6 = .slice (some ⟨g6, 0, none⟩) t c6 ∧ Own1 wr W.heap.size 3 gO m cO (vl (fun i => f (i + (t + 1) / 2)) m) ∧ Own1 wr W.heap.size 3 g6 t c6 (vl (zgF f n) t) ∧ gO ≠ g6 ∧ Below W.heap.size W wr) (fun v5 _ _ => lenV v5)
        case atStart => exact ⟨0, n, b6, 0, rfl, rfl, rfl, H5'.out, H6'.out, hne, HB'.out⟩
        case round =>
          clear H5' H6' HB' hne
          obtain ⟨t, m, g6, c6, hmt, rfl, rfl, h5, h6, hne, hB⟩ := hrel
          have HMT := Lib.hid hmt
          have hm20 : m ≤ 20 := by omega
          have ht20 : t ≤ 20 := by omega
          have H5 := Lib.hid h5
          have H6 := Lib.hid h6
          have HB := Lib.hid hB
          have l5 := h5.lt
          have l6 := h6.lt
          have hsz := hB.size
          clear h5 h6 hB hmt
          by_cases hlt : 0 < m
          · obtain ⟨r, hr⟩ : ∃ r, m = r + 1 := ⟨m - 1, by omega⟩
            have HRM := Lib.hid hr
            have hrm : r < m := by omega
            have hr1 : m - 1 = r := by omega
            have HR1 := Lib.hid hr1
            have gm : (m : Int) > 0 := by omega
            have HSU := Lib.hid (vl_succ (zgF f n) t)
            clear hr hr1
            by_cases hev : t % 2 = 0
            · have e3 : (t : Int).tmod 2 = 0 := by rw [Int.tmod_eq_emod_of_nonneg (by omega)]; omega
              have c0 := H5.out.vcell (i := 0) hlt
              simp only [Nat.zero_add] at c0
              have HZG : Hid (zgF f n t = f ((t + 1) / 2)) := Lib.hid (by unfold zgF; rw [if_pos hev]; congr 1; omega)
              have HNX : Hid (vl (fun i => if i < 0 then f (i + (t + 1) / 2) else f (i + 1 + (t + 1) / 2)) r = vl (fun i => f (i + (t + 1 + 1) / 2)) r) := Lib.hid (vl_congr fun i hi => by
                rw [if_neg (by omega)]
                congr 1; omega)
              clear hev
              generalize f ((t + 1) / 2) = v at *
              go_wp2_with (at_builtin; refine append_one rfl _ _ 27 rfl Try.underlying27 infoInt rfl (by omega) rfl (H6.out.alloc _) (by omega) rfl (new_cell (by simp)) rfl ?_; intro g' c'' w4 o3 oo3 l3; have O3 := Lib.hid o3; have OO3 := Lib.hid oo3; have L3 := Lib.hid l3; clear o3 oo3 l3)
              have HG' : Hid (gO ≠ g') := Lib.hid (by
                rcases L3.out with h | h
                · omega
                · simp at h; omega)
              have H54 := Lib.hid ((H5.out.alloc (.cells #[.int .i64 (v : Nat)] 3 (0, 0))).keep OO3.out hne)
              have HB4 := Lib.hid (HB.out.trans (((Below.box wr (.cells #[.int .i64 (v : Nat)] 3 (0, 0))).mono hsz).trans (OO3.out.toBelow l6.1 (by simp; omega))))
              have hs4 := HB4.out.size
              refine (show Calls Try.prog 37 #[.slice (some ⟨gO, 0, none⟩) m cO, .int .i64 0, .int .i64 1] w4 _ from thDel_any W.heap.size gO m cO 0 _ w4 H54.out hlt hm20).mono ?_
              rw [HR1.out, HNX.out]
              rintro e w5 ⟨rfl, h5, hO⟩
              have H55 := Lib.hid h5
              have HB5 := Lib.hid (below_only HB4.out hO l5.1 hs4)
              have HO5 := Lib.hid hO
              clear h5 hO
              go_wp2
              go_roundw
              case rel => exact ⟨t + 1, r, g', c'', by have := HMT.out; have := HRM.out; omega, rfl, rfl, H55.out, by rw [HSU.out, HZG.out]; exact O3.out.keep HO5.out (fun e => HG'.out e.symm), HG'.out, HB5.out⟩
              case measure => simp [lenV]; omega
            · have e3 : (t : Int).tmod 2 = 1 := by rw [Int.tmod_eq_emod_of_nonneg (by omega)]; omega
              have c0 := H5.out.vcell (i := r) hrm
              have i1 : IntKind.i64.wrap ((m : Int) - 1) = (r : Int) := by rw [show (m : Int) - 1 = (r : Int) by have := HRM.out; omega]; exact IntWalk.i64_in _ (by omega)
              have i2 : IntKind.i64.wrap ((r : Int) + 1) = (m : Int) := by rw [show (r : Int) + 1 = (m : Int) by have := HRM.out; omega]; exact IntWalk.i64_in _ (by omega)
              have i3 : (0 : Int) ≤ (r : Int) := by omega
              have i4 : (r : Int) < (m : Int) := by omega
              have HZG : Hid (zgF f n t = f (r + (t + 1) / 2)) := Lib.hid (by unfold zgF; rw [if_neg hev]; congr 1; have := HMT.out; have := HRM.out; omega)
              have HNX : Hid (vl (fun i => if i < r then f (i + (t + 1) / 2) else f (i + 1 + (t + 1) / 2)) r = vl (fun i => f (i + (t + 1 + 1) / 2)) r) := Lib.hid (vl_congr fun i hi => by
                rw [if_pos hi]
                congr 1; omega)
              clear hev
              generalize f (r + (t + 1) / 2) = v at *
              go_wp2_with (at_builtin; refine append_one rfl _ _ 27 rfl Try.underlying27 infoInt rfl (by omega) rfl (H6.out.alloc _) (by omega) rfl (new_cell (by simp)) rfl ?_; intro g' c'' w4 o3 oo3 l3; have O3 := Lib.hid o3; have OO3 := Lib.hid oo3; have L3 := Lib.hid l3; clear o3 oo3 l3)
              have HG' : Hid (gO ≠ g') := Lib.hid (by
                rcases L3.out with h | h
                · omega
                · simp at h; omega)
              have H54 := Lib.hid ((H5.out.alloc (.cells #[.int .i64 (v : Nat)] 3 (0, 0))).keep OO3.out hne)
              have HB4 := Lib.hid (HB.out.trans (((Below.box wr (.cells #[.int .i64 (v : Nat)] 3 (0, 0))).mono hsz).trans (OO3.out.toBelow l6.1 (by simp; omega))))
              have hs4 := HB4.out.size
              have HD := Lib.hid (thDel_any W.heap.size gO m cO r _ w4 H54.out hrm hm20)
              rw [← HRM.out] at HD
              refine HD.out.mono ?_
              rw [HR1.out, HNX.out]
              rintro e w5 ⟨rfl, h5, hO⟩
              have H55 := Lib.hid h5
              have HB5 := Lib.hid (below_only HB4.out hO l5.1 hs4)
              have HO5 := Lib.hid hO
              clear h5 hO HD
              go_wp2
              go_roundw
              case rel => exact ⟨t + 1, r, g', c'', by have := HMT.out; have := HRM.out; omega, rfl, rfl, H55.out, by rw [HSU.out, HZG.out]; exact O3.out.keep HO5.out (fun e => HG'.out e.symm), HG'.out, HB5.out⟩
              case measure => simp [lenV]; omega
          · have hm0 : m = 0 := by omega
            subst hm0
            have htn : t = n := by have := HMT.out; omega
            subst htn
            go_wp2
            go_ret
            have hwW := HBW.out.size
            exact GetL.own (B := W.heap.size) (by rw [HV.out]; exact H6.out) hwW (by rw [HPP.out]; exact HBW.out.trans (HB.out.mono (by have := HPP.out; omega)))
end Go.Proofs.Ytjkcmjnejbobeaa
