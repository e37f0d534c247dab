/-
  Contracts of CardsIn in the program and in the reference.
  By an AI agent.
-/
import Derived.Test.YtjkcmjnejbobeaaBook
namespace Go.Proofs.Ytjkcmjnejbobeaa
open Go.ChangeShapes Go.WideShapes Go.ChangeAt Go.RowKit Go.Joins Go.Deep
set_option maxRecDepth 100000
set_option linter.unusedVariables false

theorem ciR_no {W : Int} {xs : List DCard} {sh : Int} (h : bookB xs sh = false ∨ W < 0) : ciR W xs sh = -1 := by
  unfold ciR; rw [if_neg]
  rintro ⟨a, b⟩
  rcases h with h | h
  · rw [h] at a; cases a
  · omega
theorem ciR_yes {W : Int} {xs : List DCard} {sh : Int} (h : bookB xs sh = true) (h1 : 0 ≤ W) : ciR W xs sh = (cif W xs sh xs.length 0 : Nat) := by
  unfold ciR; rw [if_pos ⟨h, h1⟩]
set_option maxHeartbeats 1000000 in
theorem sCardsIn_any (W : Int) (g o n c : Nat) (xs : List DCard) (sh : Int) (w : World) (hl : xs.length = n) (hm : n ≤ 1048576) (hms : ∀ i, i < n → (xs.getD i default).modest) (hR : LC w g o n xs) (hW : (Lit.int .i64 W).wf = true) :
    Calls Try.prog 27 #[.int .i64 W, .slice (some ⟨g, o, none⟩) n c, .int .i64 sh] w fun e w' => e = .returned (.int .i64 (ciR W xs sh)) ∧ Below w.heap.size w w' := by
  obtain ⟨w0, w1⟩ := lit_bd hW
  have HL := Lib.hid hl
  have HR := Lib.hid hR
  have HM := Lib.hid hms
  clear hR hms hW
  cases hb : bookB xs sh
  · have HBK := Lib.hid hb
    have HV : Hid (ciR W xs sh = -1) := Lib.hid (ciR_no (.inl hb))
    clear hb hl
    go_enter Try.func27, Try.ntmps27
    go_wp2_with (go_at_call 43; refine (l22Sizes_no _ _ _ _ xs _ _ HL.out hm HM.out HR.out HBK.out).mono ?_; rintro e w1 ⟨a, c', rfl, hb1⟩)
    go_ret
    exact ⟨ret_int HV.out.symm, hb1⟩
  · have HBK := Lib.hid hb
    by_cases hW0 : W < 0
    · have HV : Hid (ciR W xs sh = -1) := Lib.hid (ciR_no (.inr hW0))
      clear hb hl
      go_enter Try.func27, Try.ntmps27
      go_wp2_with (go_at_call 43; refine (l22Sizes_yes _ _ _ _ xs _ _ HL.out hm HM.out HR.out HBK.out).mono ?_; rintro e w1 ⟨a, c', rfl, hr, hb1⟩)
      go_ret
      exact ⟨ret_int HV.out.symm, hb1⟩
    have hW1 : 0 ≤ W := by omega
    have HV : Hid (ciR W xs sh = (cif W xs sh (n - 0) 0 : Nat)) := Lib.hid (by rw [ciR_yes hb hW1, hl]; rfl)
    obtain ⟨h20, hok⟩ := bookB_iff.1 hb
    rw [hl] at h20 hok
    have HOK := Lib.hid hok
    clear hb hl hok
    go_enter Try.func27, Try.ntmps27
    go_wp2_with (go_at_call 43; refine (l22Sizes_yes _ _ _ _ xs _ _ HL.out hm HM.out HR.out HBK.out).mono ?_; rintro e w1 ⟨a, c', rfl, hr, hb1⟩; have HR1 := Lib.hid hr.1; have HB1 := Lib.hid hb1; clear hr hb1)
    go_loop [0, 9] (fun s i => ∃ k : Nat, k ≤ n ∧ i = .int .i64 k ∧ s = .int .i64 (W - sumT xs sh k) ∧ 0 ≤ W - sumT xs sh k ∧ cif W xs sh (n - 0) 0 = cif W xs sh (n - k) k) (fun _ i => n - (intOf i).toNat)
    case atStart => exact ⟨0, Nat.zero_le _, rfl, by simp [sumT], by simp [sumT]; omega, rfl⟩
    case round =>
      obtain ⟨k, hk, rfl, rfl, hnn, hc⟩ := hrel
      have hs := sumT_bd (xs := xs) (sh := sh) k (fun i hi => HOK.out i (by omega))
      obtain ⟨s0, s1⟩ := hs
      have HC := Lib.hid hc
      clear hc
      by_cases hlt : k < n
      · obtain ⟨g2, rfl, hr⟩ := HR1.out.row (by omega)
        have c0 := hr.cell hlt
        unfold zc at c0
        clear hr
        have t0 := HOK.out k hlt
        have t1 := (tcN_bd xs sh k).2
        have HS : Hid (sumT xs sh (k + 1) = sumT xs sh k + tcN xs sh k) := Lib.hid rfl
        by_cases hst : W < sumT xs sh (k + 1)
        · have HE : Hid (cif W xs sh (n - k) k = k) := Lib.hid (cif_stop hst (by omega))
          rw [HS.out] at hst
          generalize tcN xs sh k = q at *
          have hq : ¬ q ≤ W - sumT xs sh k := by omega
          go_wp2
          go_ret
          exact ⟨ret_int (by rw [HV.out, HC.out, HE.out]), HB1.out⟩
        · have HE : Hid (cif W xs sh (n - k) k = cif W xs sh (n - (k + 1)) (k + 1)) := Lib.hid (cif_go hst hlt)
          rw [HS.out] at hst
          generalize tcN xs sh k = q at *
          have hq : q ≤ W - sumT xs sh k := by omega
          go_wp2
          go_round
          case rel => exact ⟨k + 1, by omega, by go_num, congrArg (Value.int .i64) (by rw [HS.out]; omega), by rw [HS.out]; omega, HC.out.trans HE.out⟩
          case measure => simp [intOf]; omega
      · have hk' : k = n := by omega
        subst hk'
        go_wp2
        go_ret
        exact ⟨ret_int (by rw [HV.out, HC.out, Nat.sub_self, cif_zero]), HB1.out⟩
set_option maxHeartbeats 1000000 in
theorem iCardsIn_any (W : Int) (g o n c : Nat) (xs : List DCard) (sh : Int) (w : World) (hl : xs.length = n) (hm : n ≤ 1048576) (hms : ∀ i, i < n → (xs.getD i default).modest) (hR : LC w g o n xs) (hW : (Lit.int .i64 W).wf = true) :
    Calls Try.prog 17 #[.int .i64 W, .slice (some ⟨g, o, none⟩) n c, .int .i64 sh] w fun e w' => e = .returned (.int .i64 (ciR W xs sh)) ∧ Below w.heap.size w w' := by
  obtain ⟨w0, w1⟩ := lit_bd hW
  have HL := Lib.hid hl
  have HR := Lib.hid hR
  have HM := Lib.hid hms
  clear hR hms hW
  cases hb : bookB xs sh
  · have HX : Hid (spineR xs sh = -1) := Lib.hid (by unfold spineR; rw [hb]; rfl)
    have HV : Hid (ciR W xs sh = -1) := Lib.hid (ciR_no (.inl hb))
    clear hb hl
    go_enter Try.func17, Try.ntmps17
    go_wp2_with (go_at_call 13; refine (iSpineWidth_any _ _ _ _ xs _ _ HL.out hm HM.out HR.out).mono ?_; rw [HX.out]; rintro e w2 ⟨rfl, hb1⟩)
    go_ret
    exact ⟨ret_int HV.out.symm, hb1⟩
  · obtain ⟨h20, hok⟩ := bookB_iff.1 hb
    have hsn := sumT_bd (xs := xs) (sh := sh) xs.length hok
    have HX : Hid (spineR xs sh = sumT xs sh n) := Lib.hid (by unfold spineR; rw [if_pos hb, hl])
    rw [hl] at h20 hok hsn
    obtain ⟨sn0, sn1⟩ := hsn
    by_cases hW0 : W < 0
    · have HV : Hid (ciR W xs sh = -1) := Lib.hid (ciR_no (.inr hW0))
      clear hb hl hok
      generalize sumT xs sh n = q at *
      go_enter Try.func17, Try.ntmps17
      go_wp2_with (go_at_call 13; refine (iSpineWidth_any _ _ _ _ xs _ _ HL.out hm HM.out HR.out).mono ?_; rw [HX.out]; rintro e w2 ⟨rfl, hb1⟩)
      go_ret
      exact ⟨ret_int HV.out.symm, hb1⟩
    have hW1 : 0 ≤ W := by omega
    have HV : Hid (ciR W xs sh = (cif W xs sh (n - 0) 0 : Nat)) := Lib.hid (by rw [ciR_yes hb hW1, hl]; rfl)
    have HOK := Lib.hid hok
    clear hb hl hok
    generalize hQQ : sumT xs sh n = Q at *
    clear hQQ
    go_enter Try.func17, Try.ntmps17
    go_wp2_with (go_at_call 13; refine (iSpineWidth_any _ _ _ _ xs _ _ HL.out hm HM.out HR.out).mono ?_; rw [HX.out]; rintro e w2 ⟨rfl, hb1⟩; have HB1 := Lib.hid hb1; clear hb1)
    go_loopw [0, 19] (fun s i wr => ∃ k : Nat, k ≤ n ∧ i = .int .i64 k ∧ s = .int .i64 (W - sumT xs sh k) ∧ 0 ≤ W - sumT xs sh k ∧ cif W xs sh (n - 0) 0 = cif W xs sh (n - k) k ∧ Below w.heap.size w wr) (fun _ i _ => n - (intOf i).toNat)
    case atStart => exact ⟨0, Nat.zero_le _, rfl, by simp [sumT], by simp [sumT]; omega, rfl, HB1.out⟩
    case round =>
      obtain ⟨k, hk, rfl, rfl, hnn, hc, hB⟩ := hrel
      have HB := Lib.hid hB
      have HC := Lib.hid hc
      clear hB hc
      have hs := sumT_bd (xs := xs) (sh := sh) k (fun i hi => HOK.out i (by omega))
      obtain ⟨s0, s1⟩ := hs
      by_cases hlt : k < n
      · obtain ⟨a1, cp, ⟨c0, c1', c2⟩, s1'⟩ := (HR.out.below HB.out).at hlt
        obtain ⟨m1, m2⟩ := HM.out k hlt
        have S1 := Lib.hid (s1'.below (Below.box wr (.cells #[.int .i64 (xs.getD k default).d, .int .i64 (xs.getD k default).f, .slice (some ⟨a1, 0, none⟩) (xs.getD k default).n cp] 34 (0, 0))))
        have M1 := Lib.hid m1
        have HX2 : Hid (thk (xs.getD k default).d (xs.getD k default).f (xs.getD k default).ss sh = tcN xs sh k) := Lib.hid rfl
        have HS : Hid (sumT xs sh (k + 1) = sumT xs sh k + tcN xs sh k) := Lib.hid rfl
        have t0 := HOK.out k hlt
        have t1 := (tcN_bd xs sh k).2
        by_cases hst : W < sumT xs sh (k + 1)
        · have HE : Hid (cif W xs sh (n - k) k = k) := Lib.hid (cif_stop hst (by omega))
          rw [HS.out] at hst
          clear s1' m1
          generalize xs.getD k default = x at *
          generalize tcN xs sh k = q at *
          have hq : W - sumT xs sh k - q < 0 := by omega
          go_wp2_with (first | (go_at_call 34; refine (iThickness_any x.d x.f _ x.n cp x.ss sh _ M1.out m2 S1.out).mono ?_; rw [HX2.out]; rintro e w2 ⟨rfl, hb2⟩; have HB2 := Lib.hid (HB.out.trans (((Below.box wr _).trans (hb2.mono (by simp))).mono HB.out.size)); clear hb2))
          go_ret
          exact ⟨ret_int (by rw [HV.out, HC.out, HE.out]), HB2.out⟩
        · have HE : Hid (cif W xs sh (n - k) k = cif W xs sh (n - (k + 1)) (k + 1)) := Lib.hid (cif_go hst hlt)
          rw [HS.out] at hst
          clear s1' m1
          generalize xs.getD k default = x at *
          generalize tcN xs sh k = q at *
          have hq : ¬ W - sumT xs sh k - q < 0 := by omega
          go_wp2_with (first | (go_at_call 34; refine (iThickness_any x.d x.f _ x.n cp x.ss sh _ M1.out m2 S1.out).mono ?_; rw [HX2.out]; rintro e w2 ⟨rfl, hb2⟩; have HB2 := Lib.hid (HB.out.trans (((Below.box wr _).trans (hb2.mono (by simp))).mono HB.out.size)); clear hb2))
          go_roundw
          case rel => exact ⟨k + 1, by omega, by go_num, congrArg (Value.int .i64) (by rw [HS.out]; omega), by rw [HS.out]; omega, HC.out.trans HE.out, HB2.out⟩
          case measure => simp [intOf]; omega
      · have hk' : k = n := by omega
        subst hk'
        go_wp2
        go_ret
        exact ⟨ret_int (by rw [HV.out, HC.out, Nat.sub_self, cif_zero]), HB.out⟩
end Go.Proofs.Ytjkcmjnejbobeaa
