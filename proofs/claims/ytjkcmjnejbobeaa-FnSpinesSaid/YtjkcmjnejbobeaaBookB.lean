/-
  Contracts of BookSwells in the program and in the reference.
  By an AI agent.
-/
import Derived.Test.YtjkcmjnejbobeaaBook
namespace Go.Proofs.Ytjkcmjnejbobeaa
open Go.ChangeShapes Go.WideShapes Go.ChangeAt Go.RowKit Go.Joins Go.Deep
set_option maxRecDepth 100000
set_option linter.unusedVariables false

theorem isGuard_any (gd : Int) (w : World) : Calls Try.prog 33 #[.int .i64 gd] w fun e w' => e = .returned (.bool (inB gd 1 1000)) ∧ w' = w := by
  by_cases h : 1 ≤ gd ∧ gd ≤ 1000
  · obtain ⟨h1, h2⟩ := h
    have hv := inB_t h1 h2
    go_enter Try.func33, Try.ntmps33
    go_wp2_with (go_at_call 41; (first | refine (within_t _ _ _ _ (by omega) (by omega)).mono ?_ | refine (within_f _ _ _ _ (by omega)).mono ?_); rintro e w' ⟨rfl, rfl⟩)
    go_ret
    rw [hv]; exact ⟨rfl, rfl⟩
  · have h' : gd < 1 ∨ 1000 < gd := by omega
    have hv := inB_f h'
    go_enter Try.func33, Try.ntmps33
    go_wp2_with (go_at_call 41; (first | refine (within_t _ _ _ _ (by omega) (by omega)).mono ?_ | refine (within_f _ _ _ _ (by omega)).mono ?_); rintro e w' ⟨rfl, rfl⟩)
    go_ret
    rw [hv]; exact ⟨rfl, rfl⟩
set_option maxHeartbeats 1000000 in
theorem sBookSwells_any (g o n c : Nat) (xs : List DCard) (sh gd : Int) (a3 : Option Addr) (l3 c3 : Nat) (zs : List Int) (w : World) (hl : xs.length = n) (hm : n ≤ 1048576) (hms : ∀ i, i < n → (xs.getD i default).modest) (hR : LC w g o n xs) (hl3 : zs.length = l3) (hm3 : l3 ≤ 1048576) (hZ : SlR w a3 l3 (ic zs)) :
    Calls Try.prog 28 #[.slice (some ⟨g, o, none⟩) n c, .int .i64 sh, .int .i64 gd, .slice a3 l3 c3] w fun e w' => e = .returned (.bool (swellB xs sh gd zs)) ∧ Below w.heap.size w w' := by
  have HL := Lib.hid hl
  have HR := Lib.hid hR
  have HM := Lib.hid hms
  have HZ := Lib.hid hZ
  clear hR hms hZ
  cases hb : bookB xs sh
  · have HBK := Lib.hid hb
    have HV : Hid (swellB xs sh gd zs = false) := Lib.hid (swell_no (.inl hb))
    clear hb hl hl3
    go_enter Try.func28, Try.ntmps28
    go_wp2_with (go_at_call 43; refine (l22Sizes_no _ _ _ _ xs _ _ HL.out hm HM.out HR.out HBK.out).mono ?_; rintro e w1 ⟨a, c', rfl, hb1⟩)
    go_ret
    exact ⟨ret_bool HV.out.symm, hb1⟩
  · have HBK := Lib.hid hb
    by_cases hg : 1 ≤ gd ∧ gd ≤ 1000
    · obtain ⟨g1, g2⟩ := hg
      by_cases hll : l3 = n
      · subst hll
        obtain ⟨h20, hok⟩ := bookB_iff.1 hb
        rw [hl] at h20 hok
        have HOK := Lib.hid hok
        have HL3 := Lib.hid hl3
        clear hb hl hl3 hok
        go_enter Try.func28, Try.ntmps28
        go_wp2_with (first | (go_at_call 39; (first | refine (l01In_t _ _ _ _ (by omega) (by omega)).mono ?_ | refine (l01In_f _ _ _ _ (by omega)).mono ?_); rintro e w' ⟨rfl, rfl⟩) | (go_at_call 43; refine (l22Sizes_yes _ _ _ _ xs _ _ HL.out hm HM.out HR.out HBK.out).mono ?_; rintro e w1 ⟨a, c', rfl, hr, hb1⟩; have HR1 := Lib.hid hr.1; have HB1 := Lib.hid hb1; clear hr hb1))
        have HZ1 := Lib.hid (HZ.out.below HB1.out)
        go_loopw [11, 12] (fun s i wr => ∃ k : Nat, k ≤ l3 ∧ i = .int .i64 k ∧ s = .int .i64 (sumT xs sh k - sumG sh gd zs k) ∧ (∀ j, j < k → 0 ≤ zs.getD j 0 ∧ zs.getD j 0 ≤ 1000) ∧ Below w1.heap.size w1 wr) (fun _ i _ => l3 - (intOf i).toNat)
        case atStart => exact ⟨0, Nat.zero_le _, rfl, rfl, fun j h => absurd h (Nat.not_lt_zero j), Below.refl _ _⟩
        case round =>
          obtain ⟨k, hk, rfl, rfl, hz, hB⟩ := hrel
          have HB := Lib.hid (HB1.out.trans (hB.mono HB1.out.size))
          have HBw := Lib.hid hB
          clear hB
          have hs := sumT_bd (xs := xs) (sh := sh) k (fun i hi => HOK.out i (by omega))
          obtain ⟨s0, s1⟩ := hs
          have hsd : 0 < l3 → 1 ≤ sh ∧ sh ≤ 1000 := fun h => (tcN_sh (HOK.out 0 h)).2
          have hs2 := sumG_bd (sh := sh) (gd := gd) (zs := zs) k g1 g2 hz (by by_cases h : k = 0; exact .inl h; exact .inr (hsd (by omega)))
          obtain ⟨s2, s3⟩ := hs2
          have HZZ := Lib.hid hz
          clear hz
          by_cases hlt : k < l3
          · obtain ⟨q0, q1⟩ := hsd (by omega)
            obtain ⟨g2', rfl, hr⟩ := (HR1.out.below HBw.out).row (by omega)
            have c0 := hr.cell hlt
            unfold zc at c0
            obtain ⟨g3, rfl, hr3⟩ := (HZ1.out.below HBw.out).row (by omega)
            have c1 := hr3.cell hlt
            unfold ic at c1
            clear hr hr3 hsd
            have t0 := HOK.out k hlt
            have t1 := (tcN_bd xs sh k).2
            have HS : Hid (sumT xs sh (k + 1) = sumT xs sh k + tcN xs sh k) := Lib.hid rfl
            have HG : Hid (sumG sh gd zs (k + 1) = sumG sh gd zs k + (2 * sh + gd * zs.getD k 0)) := Lib.hid rfl
            by_cases hz : 0 ≤ zs.getD k 0 ∧ zs.getD k 0 ≤ 1000
            · obtain ⟨z0, z1⟩ := hz
              obtain ⟨p0, p1⟩ := gmul_bd g1 g2 z0 z1
              have HN : Hid (∀ j, j < k + 1 → 0 ≤ zs.getD j 0 ∧ zs.getD j 0 ≤ 1000) := Lib.hid (by
                intro j hj
                by_cases e : j = k
                · rw [e]; exact ⟨z0, z1⟩
                · exact HZZ.out j (by omega))
              generalize tcN xs sh k = q at *
              generalize zs.getD k 0 = z at *
              have i0 : (0 : Int) ≤ (k : Int) := Int.natCast_nonneg _
              have i1 : (k : Int) < (l3 : Int) := by omega
              generalize hdd : sumT xs sh k - sumG sh gd zs k = d at *
              have e1 : IntKind.i64.wrap (d + q) = d + q := IntWalk.i64_in _ (by omega)
              have e2 : IntKind.i64.wrap (2 * sh) = 2 * sh := IntWalk.i64_in _ (by omega)
              have e3 : IntKind.i64.wrap (d + q - 2 * sh) = d + q - 2 * sh := IntWalk.i64_in _ (by omega)
              have e4 : IntKind.i64.wrap (gd * z) = gd * z := IntWalk.i64_in _ (by omega)
              have e5 : IntKind.i64.wrap (d + q - 2 * sh - gd * z) = d + q - 2 * sh - gd * z := IntWalk.i64_in _ (by omega)
              go_wp2_with (go_at_call 39; (first | refine (l01In_t _ _ _ _ (by omega) (by omega)).mono ?_ | refine (l01In_f _ _ _ _ (by omega)).mono ?_); rintro e w' ⟨rfl, rfl⟩)
              go_quiet (fail)
              clear e1 e2 e3 e4 e5
              go_wp2
              go_roundw
              case rel => exact ⟨k + 1, by omega, by go_num, congrArg (Value.int .i64) (by rw [HS.out, HG.out]; omega), HN.out, below_drewN HBw.out _⟩
              case measure => simp [intOf]; omega
            · have HV : Hid (swellB xs sh gd zs = false) := Lib.hid (swell_no (.inr (.inr (.inr (gok_no (k := k) (by rw [HL3.out]; exact hlt) (by omega))))))
              have hz' : zs.getD k 0 < 0 ∨ 1000 < zs.getD k 0 := by omega
              generalize tcN xs sh k = q at *
              generalize zs.getD k 0 = z at *
              go_wp2_with (go_at_call 39; (first | refine (l01In_t _ _ _ _ (by omega) (by omega)).mono ?_ | refine (l01In_f _ _ _ _ (by omega)).mono ?_); rintro e w' ⟨rfl, rfl⟩)
              go_ret
              exact ⟨ret_bool HV.out.symm, HB.out⟩
          · have hk' : k = l3 := by omega
            subst hk'
            have HV : Hid (swellB xs sh gd zs = decide (0 < sumT xs sh k - sumG sh gd zs k)) := Lib.hid (by
              rw [swell_yes HBK.out g1 g2 (by rw [HL.out, HL3.out]) (gok_iff.2 (by rw [HL3.out]; exact HZZ.out)), HL.out]
              congr 1; simp only [eq_iff_iff]; omega)
            clear hsd
            generalize sumT xs sh k - sumG sh gd zs k = q at *
            go_wp2
            go_ret
            refine ⟨?_, HB.out⟩
            rw [HV.out]
            simp
      · have HV : Hid (swellB xs sh gd zs = false) := Lib.hid (swell_no (.inr (.inr (.inl (by omega)))))
        have hne : ((l3 : Int) == (n : Int)) = false := by simp; omega
        clear hb hl hl3
        go_enter Try.func28, Try.ntmps28
        go_wp2_with (first | (go_at_call 39; (first | refine (l01In_t _ _ _ _ (by omega) (by omega)).mono ?_ | refine (l01In_f _ _ _ _ (by omega)).mono ?_); rintro e w' ⟨rfl, rfl⟩) | (go_at_call 43; refine (l22Sizes_yes _ _ _ _ xs _ _ HL.out hm HM.out HR.out HBK.out).mono ?_; rintro e w1 ⟨a, c', rfl, hr, hb1⟩; have HB1 := Lib.hid hb1; clear hr hb1))
        go_ret
        exact ⟨ret_bool HV.out.symm, HB1.out⟩
    · have hg' : gd < 1 ∨ 1000 < gd := by omega
      have HV : Hid (swellB xs sh gd zs = false) := Lib.hid (swell_no (.inr (.inl hg')))
      clear hb hl hl3
      go_enter Try.func28, Try.ntmps28
      go_wp2_with (first | (go_at_call 39; (first | refine (l01In_t _ _ _ _ (by omega) (by omega)).mono ?_ | refine (l01In_f _ _ _ _ (by omega)).mono ?_); rintro e w' ⟨rfl, rfl⟩) | (go_at_call 43; refine (l22Sizes_yes _ _ _ _ xs _ _ HL.out hm HM.out HR.out HBK.out).mono ?_; rintro e w1 ⟨a, c', rfl, hr, hb1⟩; have HB1 := Lib.hid hb1; clear hr hb1))
      go_ret
      exact ⟨ret_bool HV.out.symm, HB1.out⟩
set_option maxHeartbeats 1000000 in
theorem iBookSwells_any (g o n c : Nat) (xs : List DCard) (sh gd : Int) (a3 : Option Addr) (l3 c3 : Nat) (zs : List Int) (w : World) (hl : xs.length = n) (hm : n ≤ 1048576) (hms : ∀ i, i < n → (xs.getD i default).modest) (hR : LC w g o n xs) (hl3 : zs.length = l3) (hm3 : l3 ≤ 1048576) (hZ : SlR w a3 l3 (ic zs)) :
    Calls Try.prog 16 #[.slice (some ⟨g, o, none⟩) n c, .int .i64 sh, .int .i64 gd, .slice a3 l3 c3] w fun e w' => e = .returned (.bool (swellB xs sh gd zs)) ∧ Below w.heap.size w w' := by
  have HL := Lib.hid hl
  have HR := Lib.hid hR
  have HM := Lib.hid hms
  have HZ := Lib.hid hZ
  clear hR hms hZ
  cases hb : bookB xs sh
  · have HBK := Lib.hid hb
    have HX : Hid (spineR xs sh = -1) := Lib.hid (by unfold spineR; rw [hb]; rfl)
    have HV : Hid (swellB xs sh gd zs = false) := Lib.hid (swell_no (.inl hb))
    clear hb hl hl3
    go_enter Try.func16, Try.ntmps16
    go_wp2_with (go_at_call 13; refine (iSpineWidth_any _ _ _ _ xs _ _ HL.out hm HM.out HR.out).mono ?_; rw [HX.out]; rintro e w2 ⟨rfl, hb1⟩)
    go_ret
    exact ⟨ret_bool HV.out.symm, hb1⟩
  · have HBK := Lib.hid hb
    obtain ⟨h20, hok⟩ := bookB_iff.1 hb
    have hsn := sumT_bd (xs := xs) (sh := sh) xs.length hok
    have HX : Hid (spineR xs sh = sumT xs sh n) := Lib.hid (by unfold spineR; rw [if_pos hb, hl])
    rw [hl] at h20 hok hsn
    obtain ⟨sn0, sn1⟩ := hsn
    by_cases hg : 1 ≤ gd ∧ gd ≤ 1000
    · obtain ⟨g1, g2⟩ := hg
      have HGT := Lib.hid (inB_t g1 g2)
      by_cases hll : l3 = n
      · subst hll
        have HOK := Lib.hid hok
        have HL3 := Lib.hid hl3
        have hQ : decide (sumT xs sh l3 < 0) = false := decide_eq_false (by omega)
        clear hb hl hl3 hok
        go_enter Try.func16, Try.ntmps16
        go_wp2_with (first | (go_at_call 33; refine (isGuard_any _ _).mono ?_; rw [HGT.out]; rintro e w' ⟨rfl, rfl⟩) | (go_at_call 13; refine (iSpineWidth_any _ _ _ _ xs _ _ HL.out hm HM.out HR.out).mono ?_; rw [HX.out]; rintro e w2 ⟨rfl, hb1⟩; have HB1 := Lib.hid hb1; clear hb1))
        have HZ1 := Lib.hid (HZ.out.below HB1.out)
        go_loop [10, 32] (fun s i => ∃ k : Nat, k ≤ l3 ∧ i = .int .i64 k ∧ s = .int .i64 (sumG sh gd zs k) ∧ (∀ j, j < k → 0 ≤ zs.getD j 0 ∧ zs.getD j 0 ≤ 1000)) (fun _ i => l3 - (intOf i).toNat)
        case atStart => exact ⟨0, Nat.zero_le _, rfl, rfl, fun j h => absurd h (Nat.not_lt_zero j)⟩
        case round =>
          obtain ⟨k, hk, rfl, rfl, hz⟩ := hrel
          have hsd : 0 < l3 → 1 ≤ sh ∧ sh ≤ 1000 := fun h => (tcN_sh (HOK.out 0 h)).2
          have hs2 := sumG_bd (sh := sh) (gd := gd) (zs := zs) k g1 g2 hz (by by_cases h : k = 0; exact .inl h; exact .inr (hsd (by omega)))
          obtain ⟨s2, s3⟩ := hs2
          have HZZ := Lib.hid hz
          clear hz
          by_cases hlt : k < l3
          · obtain ⟨q0, q1⟩ := hsd (by omega)
            obtain ⟨g3, rfl, hr3⟩ := HZ1.out.row (by omega)
            have c1 := hr3.cell hlt
            unfold ic at c1
            clear hr3 hsd
            have HG : Hid (sumG sh gd zs (k + 1) = sumG sh gd zs k + (2 * sh + gd * zs.getD k 0)) := Lib.hid rfl
            by_cases hz : 0 ≤ zs.getD k 0 ∧ zs.getD k 0 ≤ 1000
            · obtain ⟨z0, z1⟩ := hz
              obtain ⟨p0, p1⟩ := gmul_bd g1 g2 z0 z1
              have HN : Hid (∀ j, j < k + 1 → 0 ≤ zs.getD j 0 ∧ zs.getD j 0 ≤ 1000) := Lib.hid (by
                intro j hj
                by_cases e : j = k
                · rw [e]; exact ⟨z0, z1⟩
                · exact HZZ.out j (by omega))
              generalize zs.getD k 0 = z at *
              go_wp2_with (go_at_call 41; (first | refine (within_t _ _ _ _ (by omega) (by omega)).mono ?_ | refine (within_f _ _ _ _ (by omega)).mono ?_); rintro e w' ⟨rfl, rfl⟩)
              go_round
              case rel => exact ⟨k + 1, by omega, by go_num, congrArg (Value.int .i64) (by rw [HG.out]), HN.out⟩
              case measure => simp [intOf]; omega
            · have HV : Hid (swellB xs sh gd zs = false) := Lib.hid (swell_no (.inr (.inr (.inr (gok_no (k := k) (by rw [HL3.out]; exact hlt) (by omega))))))
              have hz' : zs.getD k 0 < 0 ∨ 1000 < zs.getD k 0 := by omega
              generalize zs.getD k 0 = z at *
              go_wp2_with (go_at_call 41; (first | refine (within_t _ _ _ _ (by omega) (by omega)).mono ?_ | refine (within_f _ _ _ _ (by omega)).mono ?_); rintro e w' ⟨rfl, rfl⟩)
              go_ret
              exact ⟨ret_bool HV.out.symm, HB1.out⟩
          · have hk' : k = l3 := by omega
            subst hk'
            have HV : Hid (swellB xs sh gd zs = decide (sumG sh gd zs k < sumT xs sh k)) := Lib.hid (by
              rw [swell_yes HBK.out g1 g2 (by rw [HL.out, HL3.out]) (gok_iff.2 (by rw [HL3.out]; exact HZZ.out)), HL.out])
            clear hsd
            generalize sumT xs sh k = q at *
            generalize sumG sh gd zs k = q' at *
            go_wp2
            go_ret
            exact ⟨ret_bool HV.out.symm, HB1.out⟩
      · have HV : Hid (swellB xs sh gd zs = false) := Lib.hid (swell_no (.inr (.inr (.inl (by omega)))))
        have hne : ((l3 : Int) == (n : Int)) = false := by simp; omega
        clear hb hl hl3 hok
        generalize sumT xs sh n = Q at *
        have hQ : decide (Q < 0) = false := decide_eq_false (by omega)
        go_enter Try.func16, Try.ntmps16
        go_wp2_with (first | (go_at_call 33; refine (isGuard_any _ _).mono ?_; rw [HGT.out]; rintro e w' ⟨rfl, rfl⟩) | (go_at_call 13; refine (iSpineWidth_any _ _ _ _ xs _ _ HL.out hm HM.out HR.out).mono ?_; rw [HX.out]; rintro e w2 ⟨rfl, hb1⟩; have HB1 := Lib.hid hb1; clear hb1))
        go_ret
        exact ⟨ret_bool HV.out.symm, HB1.out⟩
    · have hg' : gd < 1 ∨ 1000 < gd := by omega
      have HGT := Lib.hid (inB_f hg')
      have HV : Hid (swellB xs sh gd zs = false) := Lib.hid (swell_no (.inr (.inl hg')))
      clear hb hl hl3 hok
      generalize sumT xs sh n = Q at *
      have hQ : decide (Q < 0) = false := decide_eq_false (by omega)
      go_enter Try.func16, Try.ntmps16
      go_wp2_with (first | (go_at_call 33; refine (isGuard_any _ _).mono ?_; rw [HGT.out]; rintro e w' ⟨rfl, rfl⟩) | (go_at_call 13; refine (iSpineWidth_any _ _ _ _ xs _ _ HL.out hm HM.out HR.out).mono ?_; rw [HX.out]; rintro e w2 ⟨rfl, hb1⟩; have HB1 := Lib.hid hb1; clear hb1))
      go_ret
      exact ⟨ret_bool HV.out.symm, HB1.out⟩
end Go.Proofs.Ytjkcmjnejbobeaa
