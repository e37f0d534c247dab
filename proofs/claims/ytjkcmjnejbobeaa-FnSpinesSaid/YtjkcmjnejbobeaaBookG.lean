/-
  Contracts of GuardsNeeded in the program and in the reference.
  By an AI agent.
-/
import Derived.Test.YtjkcmjnejbobeaaBookB
import Derived.Test.YtjkcmjnejbobeaaCardX
namespace Go.Proofs.Ytjkcmjnejbobeaa
open Go.ChangeShapes Go.WideShapes Go.ChangeAt Go.RowKit Go.Joins Go.Deep
set_option maxRecDepth 100000
set_option linter.unusedVariables false

theorem GetL.own {L : List Int} {w w' : World} {e : TypeId} {B g n c : Nat} (h : Own1 w' B e g n c (L.map (Value.int .i64))) (hB : w.heap.size ≤ B) (hb : Below w.heap.size w w') : GetL L w (.returned (.slice (some ⟨g, 0, none⟩) n c)) w' := by
  have hl := h.len
  rw [List.length_map] at hl
  subst hl
  exact ⟨_, _, rfl, h.sl, .of (Nat.le_trans hB h.lt.1), hb⟩
theorem gn_bd {t sh gd : Int} (h1 : 1 ≤ gd) (h2 : gd ≤ 1000) (h3 : 2 * sh ≤ t) (h4 : t ≤ 18000) (h5 : 1 ≤ sh) : 0 ≤ (t - 2 * sh + gd - 1).tdiv gd ∧ (t - 2 * sh + gd - 1).tdiv gd ≤ 20000 := by
  have hn : 0 ≤ t - 2 * sh + gd - 1 := by omega
  rw [Int.tdiv_eq_ediv_of_nonneg hn]
  refine ⟨Int.ediv_nonneg hn (by omega), ?_⟩
  exact Int.le_trans (Int.ediv_le_self _ hn) (by omega)
set_option maxHeartbeats 2000000 in
theorem sGuardsNeeded_any (g o n c : Nat) (xs : List DCard) (sh gd : Int) (w : World) (hl : xs.length = n) (hm : n ≤ 1048576) (hms : ∀ i, i < n → (xs.getD i default).modest) (hR : LC w g o n xs) :
    Calls Try.prog 30 #[.slice (some ⟨g, o, none⟩) n c, .int .i64 sh, .int .i64 gd] w (GetL (gnR xs sh gd) w) := by
  have HL := Lib.hid hl
  have HR := Lib.hid (hR.below (Below.box w (.cells #[] 3 (0, 0))))
  have HB0 := Lib.hid (Below.box w (.cells #[] 3 (0, 0)))
  have HM := Lib.hid hms
  have O0 := Lib.hid (Own1.empty w 3)
  clear hR hms
  cases hb : bookB xs sh
  · have HBK := Lib.hid hb
    have HV : Hid (gnR xs sh gd = []) := Lib.hid (gnR_no (.inl hb))
    clear hb hl
    go_enter Try.func30, Try.ntmps30
    go_wp2_with (go_at_call 43; refine (l22Sizes_no _ _ _ _ xs _ _ HL.out hm HM.out HR.out HBK.out).mono ?_; rintro e w1 ⟨a, c', rfl, hb1⟩; have HB1 := Lib.hid (HB0.out.trans (hb1.mono HB0.out.size)); clear hb1)
    go_ret
    exact GetL.nil HV.out HB1.out _ _
  · have HBK := Lib.hid hb
    by_cases hg : 1 ≤ gd ∧ gd ≤ 1000
    · obtain ⟨g1, g2⟩ := hg
      obtain ⟨h20, hok⟩ := bookB_iff.1 hb
      rw [hl] at h20 hok
      have HOK := Lib.hid hok
      have HV : Hid (gnR xs sh gd = gl xs sh gd n) := Lib.hid (by rw [gnR_yes hb g1 g2, hl])
      clear hb hl hok
      go_enter Try.func30, Try.ntmps30
      go_wp2_with (first | (go_at_call 39; (first | refine (l01In_t _ _ _ _ (by omega) (by omega)).mono ?_ | refine (l01In_f _ _ _ _ (by omega)).mono ?_); rintro e w' ⟨rfl, rfl⟩) | (go_at_call 43; refine (l22Sizes_yes _ _ _ _ xs _ _ HL.out hm HM.out HR.out HBK.out).mono ?_; rintro e w1 ⟨a, c', rfl, hr, hb1⟩; have HR1 := Lib.hid hr.1; have HFR := Lib.hid hr.2; have HB1 := Lib.hid (HB0.out.trans (hb1.mono HB0.out.size)); have O1 := Lib.hid (O0.out.below hb1); clear hr hb1))
      go_loopw [7, 10] (fun v i wr => ∃ (k g1 c1 : Nat), k ≤ n ∧ i = .int .i64 k ∧ v = .slice (some ⟨g1, 0, none⟩) k c1 ∧ Own1 wr w.heap.size 3 g1 k c1 ((gl xs sh gd k).map (Value.int .i64)) ∧ Below w.heap.size w wr ∧ (n = 0 ∨ ∃ ga, a = some ⟨ga, 0, none⟩ ∧ ga ≠ g1 ∧ Row wr ga n (zc xs sh))) (fun _ i _ => n - (intOf i).toNat)
      case atStart =>
        refine ⟨0, _, 0, Nat.zero_le _, rfl, rfl, O1.out, HB1.out, ?_⟩
        rcases HR1.out with h | ⟨ga, h, hr⟩
        · exact .inl h
        · rcases HFR.out with h' | ⟨gb, h', hf⟩
          · exact .inl h'
          · rw [h] at h'
            simp only [Option.some.injEq, Addr.mk.injEq, and_true] at h'
            simp at hf
            exact .inr ⟨ga, h, by omega, hr⟩
      case round =>
        obtain ⟨k, g3, c1, hk, rfl, rfl, h1, hB, hz⟩ := hrel
        have H1 := Lib.hid h1
        have HB := Lib.hid hB
        have HZ := Lib.hid hz
        clear h1 hB hz
        by_cases hlt : k < n
        · obtain ⟨ga, rfl, hga, hr⟩ := HZ.out.resolve_left (by omega)
          have c0 := hr.cell hlt
          unfold zc at c0
          have HRA := Lib.hid hr
          have hal := hr.lt
          clear hr
          have t0 := HOK.out k hlt
          have t1 := (tcN_bd xs sh k).2
          obtain ⟨t2, q0, q1⟩ := tcN_sh t0
          have HS := Lib.hid (gl_succ xs sh gd k)
          have HGN : Hid (gnN xs sh gd k = (tcN xs sh k - 2 * sh + gd - 1).tdiv gd) := Lib.hid rfl
          obtain ⟨d0, d1⟩ := gn_bd g1 g2 t2 t1 q0
          have hl1 := H1.out.lt
          generalize tcN xs sh k = q at *
          generalize hdd : (q - 2 * sh + gd - 1).tdiv gd = D at *
          go_wp2_with (at_builtin; refine append_one rfl _ _ 27 rfl Try.underlying27 infoInt rfl (by omega) rfl (H1.out.alloc _) (by omega) rfl (new_cell (by simp)) rfl ?_; intro g' c' w3 o3 oo3 l3; have O3 := Lib.hid o3; have OO3 := Lib.hid oo3; have L3 := Lib.hid l3; clear o3 oo3 l3)
          go_roundw
          case rel =>
            have b2 := HB.out.alloc (o := .cells #[.int .i64 D] 3 (0, 0)) HB.out.size
            refine ⟨k + 1, g', c', by omega, by go_num, rfl, by rw [HS.out, List.map_append, HGN.out]; exact O3.out, b2.trans (OO3.out.toBelow hl1.1 b2.size), .inr ⟨ga, rfl, ?_, OO3.out.row (HRA.out.below (Below.box wr _) hal) hga⟩⟩
            rcases L3.out with h | h
            · omega
            · simp at h; omega
          case measure => simp [intOf]; omega
        · have hk' : k = n := by omega
          subst hk'
          go_wp2
          go_ret
          exact GetL.own (by rw [HV.out]; exact H1.out) (Nat.le_refl _) HB.out
    · have hg' : gd < 1 ∨ 1000 < gd := by omega
      have HV : Hid (gnR xs sh gd = []) := Lib.hid (gnR_no (.inr (by omega)))
      clear hb hl
      go_enter Try.func30, Try.ntmps30
      go_wp2_with (first | (go_at_call 39; (first | refine (l01In_t _ _ _ _ (by omega) (by omega)).mono ?_ | refine (l01In_f _ _ _ _ (by omega)).mono ?_); rintro e w' ⟨rfl, rfl⟩) | (go_at_call 43; refine (l22Sizes_yes _ _ _ _ xs _ _ HL.out hm HM.out HR.out HBK.out).mono ?_; rintro e w1 ⟨a, c', rfl, hr, hb1⟩; have HB1 := Lib.hid (HB0.out.trans (hb1.mono HB0.out.size)); clear hr hb1))
      go_ret
      exact GetL.nil HV.out HB1.out _ _
set_option maxHeartbeats 2000000 in
theorem iGuardsNeeded_any (g o n c : Nat) (xs : List DCard) (sh gd : Int) (w : World) (hl : xs.length = n) (hm : n ≤ 1048576) (hms : ∀ i, i < n → (xs.getD i default).modest) (hR : LC w g o n xs) :
    Calls Try.prog 12 #[.slice (some ⟨g, o, none⟩) n c, .int .i64 sh, .int .i64 gd] w (GetL (gnR xs sh gd) w) := by
  have HL := Lib.hid hl
  have HR := Lib.hid hR
  have HM := Lib.hid hms
  clear hR hms
  cases hb : bookB xs sh
  · have HX : Hid (spineR xs sh = -1) := Lib.hid (by unfold spineR; rw [hb]; rfl)
    have HV : Hid (gnR xs sh gd = []) := Lib.hid (gnR_no (.inl hb))
    clear hb hl
    go_enter Try.func12, Try.ntmps12
    go_wp2_with (go_at_call 13; refine (iSpineWidth_any _ _ _ _ xs _ _ HL.out hm HM.out HR.out).mono ?_; rw [HX.out]; rintro e w2 ⟨rfl, hb1⟩)
    go_ret
    exact GetL.nil HV.out hb1 _ _
  · obtain ⟨h20, hok⟩ := bookB_iff.1 hb
    have hsn := sumT_bd (xs := xs) (sh := sh) xs.length hok
    have HX : Hid (spineR xs sh = sumT xs sh n) := Lib.hid (by unfold spineR; rw [if_pos hb, hl])
    rw [hl] at h20 hok hsn
    obtain ⟨sn0, sn1⟩ := hsn
    by_cases hg : 1 ≤ gd ∧ gd ≤ 1000
    · obtain ⟨g1, g2⟩ := hg
      have HGT := Lib.hid (inB_t g1 g2)
      have HOK := Lib.hid hok
      have HV : Hid (gnR xs sh gd = gl xs sh gd n) := Lib.hid (by rw [gnR_yes hb g1 g2, hl])
      have hQ : decide (sumT xs sh n < 0) = false := decide_eq_false (by omega)
      clear hb hl hok
      generalize sumT xs sh n = Q at *
      go_enter Try.func12, Try.ntmps12
      go_wp2_with (first | (go_at_call 33; refine (isGuard_any _ _).mono ?_; rw [HGT.out]; rintro e w' ⟨rfl, rfl⟩) | (go_at_call 13; refine (iSpineWidth_any _ _ _ _ xs _ _ HL.out hm HM.out HR.out).mono ?_; rw [HX.out]; rintro e w2 ⟨rfl, hb1⟩; have HB1 := Lib.hid hb1; clear hb1))
      have O1 := Lib.hid ((Own1.empty w' 3).mono HB1.out.size)
      have HB2 := Lib.hid (HB1.out.alloc (o := .cells #[] 3 (0, 0)) HB1.out.size)
      go_loopw [7, 22] (fun v i wr => ∃ (k g1 c1 : Nat), k ≤ n ∧ i = .int .i64 k ∧ v = .slice (some ⟨g1, 0, none⟩) k c1 ∧ Own1 wr w.heap.size 3 g1 k c1 ((gl xs sh gd k).map (Value.int .i64)) ∧ Below w.heap.size w wr) (fun _ i _ => n - (intOf i).toNat)
      case atStart => exact ⟨0, _, 0, Nat.zero_le _, rfl, rfl, O1.out, HB2.out⟩
      case round =>
        obtain ⟨k, g3, c1, hk, rfl, rfl, h1, hB⟩ := hrel
        have H1 := Lib.hid h1
        have HB := Lib.hid hB
        clear h1 hB
        by_cases hlt : k < n
        · obtain ⟨a1, cp, ⟨c0, c1', c2⟩, s1'⟩ := (HR.out.below HB.out).at hlt
          obtain ⟨m1, m2⟩ := HM.out k hlt
          have S1 := Lib.hid (s1'.below (Below.box wr (.cells #[.int .i64 (xs.getD k default).d, .int .i64 (xs.getD k default).f, .slice (some ⟨a1, 0, none⟩) (xs.getD k default).n cp] 34 (0, 0))))
          have M1 := Lib.hid m1
          have HX2 : Hid (thk (xs.getD k default).d (xs.getD k default).f (xs.getD k default).ss sh = tcN xs sh k) := Lib.hid rfl
          have t0 := HOK.out k hlt
          have t1 := (tcN_bd xs sh k).2
          obtain ⟨t2, q0, q1⟩ := tcN_sh t0
          have HS := Lib.hid (gl_succ xs sh gd k)
          have HGN : Hid (gnN xs sh gd k = (tcN xs sh k - 2 * sh + gd - 1).tdiv gd) := Lib.hid rfl
          obtain ⟨d0, d1⟩ := gn_bd g1 g2 t2 t1 q0
          have hl1 := H1.out.lt
          clear s1' m1
          generalize xs.getD k default = x at *
          generalize tcN xs sh k = q at *
          generalize hdd : (q - 2 * sh + gd - 1).tdiv gd = D at *
          go_wp2_with (first | (go_at_call 34; refine (iThickness_any x.d x.f _ x.n cp x.ss sh _ M1.out m2 S1.out).mono ?_; rw [HX2.out]; rintro e w2 ⟨rfl, hb2⟩; have HBW := Lib.hid (((Below.box wr _).trans (hb2.mono (by simp)))); have HB2 := Lib.hid (HB.out.trans (HBW.out.mono HB.out.size)); have H2 := Lib.hid (H1.out.below HBW.out); clear hb2) | (at_builtin; refine append_one rfl _ _ 27 rfl Try.underlying27 infoInt rfl (by omega) rfl (H2.out.alloc _) (by omega) rfl (new_cell (by simp)) rfl ?_; intro g' c' w3 o3 oo3 l3; have O3 := Lib.hid o3; have OO3 := Lib.hid oo3; clear o3 oo3 l3))
          go_roundw
          case rel =>
            have b2 := HB2.out.alloc (o := .cells #[.int .i64 D] 3 (0, 0)) HB2.out.size
            exact ⟨k + 1, g', c', by omega, by go_num, rfl, by rw [HS.out, List.map_append, HGN.out]; exact O3.out, b2.trans (OO3.out.toBelow hl1.1 b2.size)⟩
          case measure => simp [intOf]; omega
        · have hk' : k = n := by omega
          subst hk'
          go_wp2
          go_ret
          exact GetL.own (by rw [HV.out]; exact H1.out) (Nat.le_refl _) HB.out
    · have hg' : gd < 1 ∨ 1000 < gd := by omega
      have HGT := Lib.hid (inB_f hg')
      have HV : Hid (gnR xs sh gd = []) := Lib.hid (gnR_no (.inr (by omega)))
      have hQ : decide (sumT xs sh n < 0) = false := decide_eq_false (by omega)
      clear hb hl hok
      generalize sumT xs sh n = Q at *
      go_enter Try.func12, Try.ntmps12
      go_wp2_with (first | (go_at_call 33; refine (isGuard_any _ _).mono ?_; rw [HGT.out]; rintro e w' ⟨rfl, rfl⟩) | (go_at_call 13; refine (iSpineWidth_any _ _ _ _ xs _ _ HL.out hm HM.out HR.out).mono ?_; rw [HX.out]; rintro e w2 ⟨rfl, hb1⟩; have HB1 := Lib.hid hb1; clear hb1))
      go_ret
      exact GetL.nil HV.out HB1.out _ _
end Go.Proofs.Ytjkcmjnejbobeaa
