/-
  Contracts of ShortestTale and LongestTale in the reference.
  By an AI agent.
-/
import Derived.Test.YtjnjlpljakkakaaWalkS
import Derived.Test.YtjnjlpljakkakaaFrom
namespace Go.Proofs.Ytjnjlpljakkakaa
open Go.ChangeShapes Go.WideShapes Go.ChangeAt Go.RowKit Go.Joins Go.Deep
set_option maxRecDepth 100000
set_option linter.unusedVariables false

/-- Which pages the table is asked for. -/
def Xm (L : Rows) (m : Bool) (p : Nat) : Prop := m = false ∨ p = 0 ∨ Path L 0 p
theorem Xm_zero (L : Rows) (m : Bool) : Xm L m 0 := .inr (.inl rfl)
theorem Xm_path {L : Rows} {m : Bool} {p : Nat} (h : Path L 0 p) : Xm L m p := .inr (.inr h)
theorem Xm_next {L : Rows} {m : Bool} (p y : Nat) (h : Xm L m p) (he : edge L p y) : Xm L m y := by
  rcases h with h | rfl | h
  · exact .inl h
  · exact .inr (.inr (.one he))
  · exact .inr (.inr (h.trans (.one he)))
theorem Xm_bd {n : Nat} {L : Rows} {m : Bool} (h : okFor n L m) : m = true → ∀ p, p < n → Xm L m p → ∀ j, E L j p → j < n := by
  intro hm p hp hX j hj
  have ha := endless_not h.1 (h.2 hm)
  have hap : acy L p := by
    rcases hX with hX | rfl | hX
    · rw [hm] at hX; cases hX
    · exact ha
    · intro k hk
      rcases hk with rfl | hk
      · exact ha _ (.inr hX)
      · exact ha _ (.inr (hX.trans hk))
  have := E_rk h.1 j hp hap hj
  have := rk_lt hp hap
  omega
def TabP (n : Nat) (L : Rows) (m : Bool) (w : World) (e : Ending) (w' : World) : Prop :=
  ∃ (g c : Nat) (f : Nat → Int), e = .returned (.slice (some ⟨g, 0, none⟩) n c) ∧ Row w' g n (nc f) ∧ Tab n L (Xm L m) m f ∧ (∀ p, p < n → -1 ≤ f p ∧ f p ≤ n) ∧ Below w.heap.size w w'
theorem far_tab (m : Bool) (a : Option Addr) (n c : Nat) (L : Rows) (w : World) (h : okFor n L m) (hR : RSt w a n L) :
    Calls Try.prog 49 #[.agg #[.slice a n c], .bool m] w (TabP n L m w) := by
  have hfin : ∀ e w', FarP n L (Xm L m) m w e w' → TabP n L m w e w' := by
    rintro e w' ⟨g, c, f, rfl, hr, hsn, hcp, hb⟩
    refine ⟨g, c, f, rfl, hr, tab_of hsn hcp (fun p hp hX k hk => ⟨fun hm => Nat.le_of_lt (Xm_bd h hm p hp hX k hk), ?_⟩), fun p hp => ?_, hb⟩
    · obtain ⟨s, hs, hmin⟩ := E_least hk
      exact ⟨s, Nat.le_of_lt (E_min h.1 hp hs hmin), hs, hmin k hk⟩
    · rcases hsn p hp with h | ⟨h1, h2, _⟩ <;> omega
  cases m
  · exact (far_false a n c L (Xm L false) w h.1 hR Xm_next (fun h => by cases h)).mono hfin
  · exact (far_true a n c L (Xm L true) w h.1 hR Xm_next (Xm_bd h)).mono hfin
theorem tab_best {n : Nat} {L : Rows} {m : Bool} {f : Nat → Int} {s : Nat} (h : okFor n L m) (hT : Tab n L (Xm L m) m f) (hf : f 0 = s) : isBest L m s := by
  rcases hT 0 h.1.1.1 (Xm_zero L m) with ⟨h1, _⟩ | ⟨_, h2, h3⟩
  · omega
  · rw [hf] at h2 h3
    refine ⟨by simpa using h2, fun k hk => ?_⟩
    have := h3 k hk
    cases m
    · simp only [if_false, Bool.false_eq_true] at this ⊢; omega
    · simp only [if_true] at this ⊢; omega
theorem walk_any (a : Option Addr) (n c : Nat) (L : Rows) (m : Bool) (gf cf : Nat) (f : Nat → Int) (w : World) (h : okFor n L m) (hR : RSt w a n L) (hF : Row w gf n (nc f)) (hT : Tab n L (Xm L m) m f) (hfb : ∀ p, p < n → -1 ≤ f p ∧ f p ≤ n) :
    Calls Try.prog 48 #[.agg #[.slice a n c], .slice (some ⟨gf, 0, none⟩) n cf] w (GetL (tlR n L m) w) := by
  rcases hT 0 h.1.1.1 (Xm_zero L m) with ⟨h1, h2⟩ | ⟨h1, _, _⟩
  · rw [tlR_no (.inr h2)]
    exact walk_no a n c L gf cf f w h.1 hF h1
  · obtain ⟨s, hs⟩ : ∃ s : Nat, f 0 = s := ⟨(f 0).toNat, by omega⟩
    have hb := tab_best h hT hs
    rw [tlR_yes h hb]
    exact walk_yes a n c L (Xm L m) m gf cf f s w h.1 hR hF hT (Xm_zero L m) (fun p hp => Xm_path hp) hs (best_lt h hb) hfb
set_option maxHeartbeats 2000000 in
theorem sShortestTale_any (a : Option Addr) (n c : Nat) (L : Rows) (w : World) (hm : n ≤ 1048576) (hms : ∀ i, i < n → lenN L i ≤ 1048576) (hR : RSt w a n L) :
    Calls Try.prog 28 #[.agg #[.slice a n c]] w (GetL (tlR n L false) w) := by
  have HM := Lib.hid hms
  have hb0 := Below.box w (.cells #[.slice a n c] 27 (0, 0))
  have HB0 := Lib.hid hb0
  have HR := Lib.hid (hR.below hb0)
  have cP : (w.alloc (.cells #[.slice a n c] 27 (0, 0))).cell? ⟨w.heap.size, 0, none⟩ = some (.slice a n c) := new_cell rfl
  clear hR hms hb0
  go_enter Try.func28, Try.ntmps28
  go_wp2_with fail
  refine (sStoryOk_any _ _ _ L _ hm HM.out HR.out).mono ?_
  rintro e w1 ⟨rfl, b1⟩
  replace cP := (b1.cell (p := ⟨w.heap.size, 0, none⟩) (World.block_lt_of_cell? _ _ cP)).trans cP
  have HR1 := Lib.hid (HR.out.below b1)
  have HB1 := Lib.hid (HB0.out.trans (b1.mono HB0.out.size))
  clear b1
  cases hsb : storyB n L
  · have HV : Hid (tlR n L false = []) := Lib.hid (tlR_no (.inl (fun h => by rw [storyB_t h.1] at hsb; cases hsb)))
    clear hsb
    go_wp2
    go_ret
    exact GetL.nil HV.out (HB1.out.alloc HB1.out.size _) _ _
  · have HS : Hid (okFor n L false) := Lib.hid ⟨storyB_iff.1 hsb, fun h => by cases h⟩
    clear hsb
    have HSd : Hid (OneC w1 w.heap.size (.slice a n c) w1.drew) := Lib.hid ⟨cP, Lib.hid (Below.refl _ _).drew⟩
    go_wp2
    go_region_law (first | (go_simp; go_at_call 49; refine (far_tab false _ _ _ L _ HS.out (HR1.out.below (Below.refl _ _).drew)).mono ?_; rintro e w2 ⟨g, c2, f, rfl, hr, hT, hfb, b2⟩; have hS2 := Lib.hid (OneC.next HSd.out b2); have cP2 := hS2.out.1; have HRF := Lib.hid hr; have HT := Lib.hid hT; have HFB := Lib.hid hfb; clear b2 hr hT hfb) | (go_simp; go_at_call 48; refine (walk_any _ _ _ L false _ _ f _ HS.out (HR1.out.below hS2.out.2.out) HRF.out HT.out HFB.out).mono ?_; rintro e w3 ⟨aO, cO, rfl, rO, fO, b3⟩; have hS3 := Lib.hid (OneC.next hS2.out b3); have RO := Lib.hid rO; have FO := Lib.hid (fO.mono (HB1.out.trans (hS2.out.2.out.mono HB1.out.size)).size); clear rO fO b3))
    all_goals
      have HX := Lib.hid (HB1.out.trans (hS3.out.2.out.mono HB1.out.size))
      clear HSd cP cP2 hS2 hS3
      try go_wp2
      go_ret
      exact ⟨_, _, rfl, RO.out, FO.out, HX.out⟩
set_option maxHeartbeats 2000000 in
theorem sLongestTale_any (a : Option Addr) (n c : Nat) (L : Rows) (w : World) (hm : n ≤ 1048576) (hms : ∀ i, i < n → lenN L i ≤ 1048576) (hR : RSt w a n L) :
    Calls Try.prog 30 #[.agg #[.slice a n c]] w (GetL (tlR n L true) w) := by
  have HM := Lib.hid hms
  have hb0 := Below.box w (.cells #[.slice a n c] 27 (0, 0))
  have HB0 := Lib.hid hb0
  have HR := Lib.hid (hR.below hb0)
  have cP : (w.alloc (.cells #[.slice a n c] 27 (0, 0))).cell? ⟨w.heap.size, 0, none⟩ = some (.slice a n c) := new_cell rfl
  clear hR hms hb0
  go_enter Try.func30, Try.ntmps30
  go_wp2_with fail
  refine (sStoryOk_any _ _ _ L _ hm HM.out HR.out).mono ?_
  rintro e w0 ⟨rfl, b1⟩
  replace cP := (b1.cell (p := ⟨w.heap.size, 0, none⟩) (World.block_lt_of_cell? _ _ cP)).trans cP
  have HR0 := Lib.hid (HR.out.below b1)
  have HBa := Lib.hid (HB0.out.trans (b1.mono HB0.out.size))
  clear b1
  cases hsb : storyB n L
  · have HV : Hid (tlR n L true = []) := Lib.hid (tlR_no (.inl (fun h => by rw [storyB_t h.1] at hsb; cases hsb)))
    clear hsb
    go_wp2
    go_ret
    exact GetL.nil HV.out (HBa.out.alloc HBa.out.size _) _ _
  · have HS0 := Lib.hid (storyB_iff.1 hsb)
    clear hsb
    go_wp2_with fail
    refine (sIsEndless_any _ _ _ L _ hm HM.out HR0.out).mono ?_
    rintro e w1 ⟨rfl, b2⟩
    replace cP := (b2.cell (p := ⟨w.heap.size, 0, none⟩) (World.block_lt_of_cell? _ _ cP)).trans cP
    have HR1 := Lib.hid (HR0.out.below b2)
    have HB1 := Lib.hid (HBa.out.trans (b2.mono HBa.out.size))
    clear b2
    by_cases hend : endless n L
    · have HE := Lib.hid (endB_t HS0.out hend)
      have HV : Hid (tlR n L true = []) := Lib.hid (tlR_no (.inl (fun h => h.2 rfl hend)))
      clear hend
      rw [HE.out]
      go_wp2
      go_ret
      exact GetL.nil HV.out (HB1.out.alloc HB1.out.size _) _ _
    · have HE := Lib.hid (endB_f (n := n) (L := L) (fun h => hend h.2))
      have HS : Hid (okFor n L true) := Lib.hid ⟨HS0.out, fun _ => hend⟩
      clear hend
      rw [HE.out]
      have HSd : Hid (OneC w1 w.heap.size (.slice a n c) w1.drew) := Lib.hid ⟨cP, Lib.hid (Below.refl _ _).drew⟩
      go_wp2
      go_region_law (first | (go_simp; go_at_call 49; refine (far_tab true _ _ _ L _ HS.out (HR1.out.below (Below.refl _ _).drew)).mono ?_; rintro e w2 ⟨g, c2, f, rfl, hr, hT, hfb, b2⟩; have hS2 := Lib.hid (OneC.next HSd.out b2); have cP2 := hS2.out.1; have HRF := Lib.hid hr; have HT := Lib.hid hT; have HFB := Lib.hid hfb; clear b2 hr hT hfb) | (go_simp; go_at_call 48; refine (walk_any _ _ _ L true _ _ f _ HS.out (HR1.out.below hS2.out.2.out) HRF.out HT.out HFB.out).mono ?_; rintro e w3 ⟨aO, cO, rfl, rO, fO, b3⟩; have hS3 := Lib.hid (OneC.next hS2.out b3); have RO := Lib.hid rO; have FO := Lib.hid (fO.mono (HB1.out.trans (hS2.out.2.out.mono HB1.out.size)).size); clear rO fO b3))
      all_goals
        have HX := Lib.hid (HB1.out.trans (hS3.out.2.out.mono HB1.out.size))
        clear HSd cP cP2 hS2 hS3
        try go_wp2
        go_ret
        exact ⟨_, _, rfl, RO.out, FO.out, HX.out⟩
end Go.Proofs.Ytjnjlpljakkakaa
