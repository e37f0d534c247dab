/-
  Contracts of FoldContrast in the program and in the reference: how many pairs of touching faces differ in color.
  By an AI agent.
-/
import Derived.Test.YteojoifhmaoiaaaTouchI
import Derived.Test.YteojoifhmaoiaaaColor
namespace Go.Proofs.Yteojoifhmaoiaaa
open Go.ChangeShapes Go.WideShapes Go.ChangeAt Go.RowKit Go.Joins Go.Deep
set_option maxRecDepth 100000
set_option linter.unusedVariables false

def colAt (zs : List Int) (L : Rows) (j s : Nat) : Int := zs.getD ((rowN L j).getD s 0).toNat 0
def fcN (zs : List Int) (L : Rows) : Nat → Nat
  | 0 => 0
  | j + 1 => fcN zs L j + if colAt zs L j 0 = colAt zs L j 1 then 0 else 1
theorem fcN_le (zs : List Int) (L : Rows) : ∀ j, fcN zs L j ≤ j := by
  intro j
  induction j with
  | zero => exact Nat.le_refl _
  | succ j ih =>
    show fcN zs L j + (if _ then 0 else 1) ≤ j + 1
    by_cases h : colAt zs L j 0 = colAt zs L j 1
    · rw [if_pos h]; omega
    · rw [if_neg h]; omega
def foldV (d f : Int) (n : Nat) (ss : List ByteArray) (zs : List Int) (F : Nat → Nat) (k : Nat) : Int := if colB d f ss zs k = true then (fcN zs (touchR d f n ss F k) (touchR d f n ss F k).length : Nat) else -1
theorem touch_row {d f : Int} {n : Nat} {ss : List ByteArray} {F : Nat → Nat} {k j : Nat} (hj : j < (touchR d f n ss F k).length) : ∃ p q : Nat, rowN (touchR d f n ss F k) j = [(p : Int), (q : Int)] ∧ p < k ∧ q < k := by
  unfold touchR at *
  by_cases ho : cardOkB d f ss = true
  · rw [if_pos ho] at *
    have hm : rowN (tcL (tbB F (d + f).toNat k (n * (d + f).toNat)) k (k * k)) j ∈ tcL (tbB F (d + f).toNat k (n * (d + f).toNat)) k (k * k) := by unfold rowN; rw [getD_at _ _ hj]; exact List.getElem_mem hj
    generalize rowN (tcL (tbB F (d + f).toNat k (n * (d + f).toNat)) k (k * k)) j = r at hm
    rw [tcL_eq] at hm
    obtain ⟨x, hx, rfl⟩ := List.mem_map.1 hm
    have hx2 := List.mem_range.1 (List.mem_filter.1 hx).1
    refine ⟨x / k, x % k, rfl, ?_, ?_⟩
    · exact Nat.div_lt_of_lt_mul hx2
    · refine Nat.mod_lt _ ?_
      rcases Nat.eq_zero_or_pos k with e | e
      · subst e; simp at hx2
      · exact e
  · rw [if_neg ho] at hj
    exact absurd hj (Nat.not_lt_zero j)
theorem touch_len {d f : Int} {n : Nat} {ss : List ByteArray} {F : Nat → Nat} {k : Nat} (hk : k ≤ 160) : (touchR d f n ss F k).length ≤ 25600 := by
  unfold touchR
  by_cases ho : cardOkB d f ss = true
  · rw [if_pos ho]; exact Nat.le_trans (tcL_len _ _ _) (Nat.mul_le_mul hk hk)
  · rw [if_neg ho]; exact Nat.zero_le _
theorem colB_all {d f : Int} {ss : List ByteArray} {cs : List Int} {k : Nat} (h : colB d f ss cs k = true) : colsB cs = true ∧ cardOkB d f ss = true ∧ cs.length = k := by
  unfold colB at h
  simp only [Bool.and_eq_true, decide_eq_true_eq] at h
  exact ⟨h.1, h.2.1, h.2.2⟩
/-- What a round reads. -/
theorem OSt.pair {w : World} {lo hi g n : Nat} {L : Rows} (h : OSt w lo hi g n L) {j : Nat} (hj : j < n) {p q : Int} (hr : rowN L j = [p, q]) :
    ∃ b, w.cell? ⟨g, j, none⟩ = some (.slice (some ⟨b, 0, none⟩) 2 2) ∧ w.cell? ⟨b, 0, none⟩ = some (.int .i64 p) ∧ w.cell? ⟨b, 1, none⟩ = some (.int .i64 q) := by
  obtain ⟨_, A, h1, h2⟩ := h
  have h3 := (h2 j hj).2
  have h4 := h1.cell hj
  unfold crow lenN at h4
  unfold lenN at h3
  rw [hr] at h3 h4
  exact ⟨A j, h4, h3.cell (i := 0) (by simp), h3.cell (i := 1) (by simp)⟩
theorem OSt.heap {w w' : World} {lo hi g n : Nat} {L : Rows} (h : OSt w lo hi g n L) (hh : w'.heap = w.heap) : OSt w' lo hi g n L := by
  obtain ⟨h0, A, h1, h2⟩ := h
  exact ⟨h0, A, h1.of_heap (by rw [hh]), fun i hi => ⟨(h2 i hi).1, (h2 i hi).2.of_heap (by rw [hh])⟩⟩
set_option maxHeartbeats 4000000 in
theorem sFoldContrast_any (d f : Int) (a : Option Addr) (n c : Nat) (ss : List ByteArray) (F : Nat → Nat) (k : Nat) (b : Option Addr) (m cb : Nat) (cs : List Int) (w : World) (hF : FcO d f n ss F k) (hl : ss.length = n) (hm : (n : Int) + tot ss n ≤ 1048576) (hR : SlR w a n (sc ss)) (hcl : cs.length = m) (hcm : m ≤ 1048576) (hB : SlR w b m (ic cs)) :
    Calls Try.prog 35 #[.agg #[.int .i64 d, .int .i64 f, .slice a n c], .slice b m cb] w fun e w' => e = .returned (.int .i64 (foldV d f n ss cs F k)) ∧ Below w.heap.size w w' := by
  have HB0 := Lib.hid (Below.box w (.cells #[.int .i64 d, .int .i64 f, .slice a n c] 26 (0, 0)))
  have HR := Lib.hid (hR.below HB0.out)
  have HBC := Lib.hid (hB.below HB0.out)
  have HF := Lib.hid hF
  have HL := Lib.hid hl
  have HCL := Lib.hid hcl
  clear hR hF hl hB hcl
  go_enter Try.func35, Try.ntmps35
  cases ho : colB d f ss cs k
  · have HV : Hid (foldV d f n ss cs F k = -1) := Lib.hid (by unfold foldV; rw [ho]; rfl)
    have HO := Lib.hid ho
    clear ho
    go_wp2_with (go_at_call 36; refine (sColorsOk_any d f _ n _ ss F k _ m _ cs _ HF.out HL.out hm HR.out HCL.out hcm HBC.out).mono ?_; rw [HO.out]; rintro e w1 ⟨rfl, hb1⟩; have HR1 := Lib.hid (HR.out.below hb1); have HBC1 := Lib.hid (HBC.out.below hb1); have HB1 := Lib.hid (HB0.out.trans (hb1.mono HB0.out.size)); obtain ⟨d0, d1, d2⟩ := box3 hb1; clear hb1)
    go_ret
    exact ⟨by rw [HV.out]; rfl, HB1.out⟩
  · obtain ⟨L, hL⟩ : ∃ L, L = touchR d f n ss F k := ⟨_, rfl⟩
    have HV : Hid (foldV d f n ss cs F k = (fcN cs L L.length : Nat)) := Lib.hid (by unfold foldV; rw [if_pos ho, hL])
    obtain ⟨_, hok, hck⟩ := colB_all ho
    obtain ⟨N, hC, hFc, h160⟩ := HF.out.yes hok HL.out hm
    have hk160 : k ≤ 160 := Nat.le_trans hFc.le h160
    have HROW : Hid (∀ j, j < L.length → ∃ p q : Nat, rowN L j = [(p : Int), (q : Int)] ∧ p < m ∧ q < m) := Lib.hid (fun j hj => by
      rw [hL] at hj ⊢
      obtain ⟨p, q, h1, h2, h3⟩ := touch_row hj
      rw [← HCL.out, hck]
      exact ⟨p, q, h1, h2, h3⟩)
    have hlen : L.length ≤ 25600 := by rw [hL]; exact touch_len hk160
    have HTL := Lib.hid hL
    have HO := Lib.hid ho
    clear ho hok hck hC hFc hL
    go_wp2_with (first | (go_at_call 36; refine (sColorsOk_any d f _ n _ ss F k _ m _ cs _ HF.out HL.out hm HR.out HCL.out hcm HBC.out).mono ?_; rw [HO.out]; rintro e w1 ⟨rfl, hb1⟩; have HR1 := Lib.hid (HR.out.below hb1); have HBC1 := Lib.hid (HBC.out.below hb1); have HB1 := Lib.hid (HB0.out.trans (hb1.mono HB0.out.size)); obtain ⟨d0, d1, d2⟩ := box3 hb1; clear hb1) | (go_at_call 29; refine (sTouchingFaces_any d f _ n _ ss F k _ HF.out HL.out hm HR1.out).mono ?_; rw [← HTL.out]; rintro e w2 ⟨aL, cL, rfl, hgl, hb2⟩; have HBC2 := Lib.hid (HBC1.out.below hb2); have HB2 := Lib.hid (HB1.out.trans (hb2.mono HB1.out.size)); have HGL := Lib.hid hgl; clear hb2 hgl))
    clear HF HR HR1 HBC HBC1 HB0 HB1 d0 d1 d2
    have HLE : Hid (∀ j, fcN cs L j ≤ j) := Lib.hid (fcN_le cs L)
    have HST : Hid (∀ j, fcN cs L (j + 1) = fcN cs L j + if colAt cs L j 0 = colAt cs L j 1 then 0 else 1) := Lib.hid (fun j => rfl)
    have HS0 : Hid (fcN cs L 0 = 0) := Lib.hid rfl
    go_loopw [5, 7] (fun v x wr => ∃ j : Nat, j ≤ L.length ∧ x = .int .i64 j ∧ v = .int .i64 (fcN cs L j : Nat) ∧ wr.heap = w2.heap ∧ Below w.heap.size w wr) (fun _ x _ => L.length - (intOf x).toNat)
    case atStart => exact ⟨0, Nat.zero_le _, rfl, by rw [HS0.out]; rfl, rfl, HB2.out⟩
    case round =>
      obtain ⟨j, hj, rfl, rfl, h1, h2⟩ := hrel
      rename World => wr
      have H1 := Lib.hid h1
      have H2 := Lib.hid h2
      clear h1 h2
      have hle := HLE.out j
      by_cases hlj : j < L.length
      · obtain ⟨p, q, hr, hp, hq⟩ := HROW.out j hlj
        rcases HGL.out with hgl | ⟨g, rfl, hgl⟩
        · rw [hgl] at hlj
          exact absurd hlj (Nat.not_lt_zero j)
        · obtain ⟨bb, c0, c1, c2⟩ := (hgl.heap H1.out).pair hlj hr
          obtain ⟨gb, rfl, hrow⟩ := HBC2.out.row (by omega)
          have hrow2 := hrow.of_heap (w' := wr) (by rw [H1.out])
          have cp := hrow2.cell hp
          have cq := hrow2.cell hq
          unfold ic at cp cq
          have hst := HST.out j
          have hc0 : colAt cs L j 0 = cs.getD p 0 := by unfold colAt; rw [hr]; rfl
          have hc1 : colAt cs L j 1 = cs.getD q 0 := by unfold colAt; rw [hr]; rfl
          rw [hc0, hc1] at hst
          have k0 : (0 : Int) ≤ (p : Int) := Int.natCast_nonneg _
          have k1 : (p : Int) < (m : Int) := by omega
          have k2 : (0 : Int) ≤ (q : Int) := Int.natCast_nonneg _
          have k3 : (q : Int) < (m : Int) := by omega
          have k4 : (0 : Int) ≤ (j : Int) := Int.natCast_nonneg _
          have k5 : (j : Int) < (L.length : Int) := by omega
          clear hr hrow hrow2 hc0 hc1 hgl
          generalize hz : fcN cs L (j + 1) = z1 at hst
          have HZ := Lib.hid hz
          clear hz
          generalize fcN cs L j = z0 at *
          have e1 : IntKind.i64.wrap ((z0 : Int) + 1) = (z0 : Int) + 1 := IntWalk.i64_in _ (by omega)
          by_cases hc : cs.getD p 0 = cs.getD q 0
          · have ec : (cs.getD p 0 != cs.getD q 0) = false := by rw [hc]; simp
            have HEQ : Hid (z1 = z0) := Lib.hid (by rw [hst, if_pos hc]; rfl)
            clear hc hst
            generalize cs.getD p 0 = u at *
            generalize cs.getD q 0 = v at *
            go_wp2
            go_quiet (fail)
            go_wp2
            go_roundw
            case rel => exact ⟨j + 1, by omega, by go_num, by rw [HZ.out, HEQ.out], H1.out, ⟨H2.out.os, H2.out.tape, H2.out.output, H2.out.size, H2.out.block⟩⟩
            case measure => simp [intOf]; omega
          · have ec : (cs.getD p 0 != cs.getD q 0) = true := by simpa using hc
            have HEQ : Hid (z1 = z0 + 1) := Lib.hid (by rw [hst, if_neg hc])
            clear hc hst
            generalize cs.getD p 0 = u at *
            generalize cs.getD q 0 = v at *
            go_wp2
            go_quiet (fail)
            go_wp2
            go_roundw
            case rel => exact ⟨j + 1, by omega, by go_num, by rw [HZ.out, HEQ.out]; go_num, H1.out, ⟨H2.out.os, H2.out.tape, H2.out.output, H2.out.size, H2.out.block⟩⟩
            case measure => simp [intOf]; omega
      · have hj' : j = L.length := by omega
        rw [hj']
        go_wp2
        go_ret
        exact ⟨by rw [HV.out]; rfl, H2.out⟩
set_option maxHeartbeats 4000000 in
theorem iFoldContrast_any (d f : Int) (a : Option Addr) (n c : Nat) (ss : List ByteArray) (F : Nat → Nat) (k : Nat) (b : Option Addr) (m cb : Nat) (cs : List Int) (w : World) (hF : FcO d f n ss F k) (hl : ss.length = n) (hm : (n : Int) + tot ss n ≤ 1048576) (hR : SlR w a n (sc ss)) (hcl : cs.length = m) (hcm : m ≤ 1048576) (hB : SlR w b m (ic cs)) :
    Calls Try.prog 16 #[.agg #[.int .i64 d, .int .i64 f, .slice a n c], .slice b m cb] w fun e w' => e = .returned (.int .i64 (foldV d f n ss cs F k)) ∧ Below w.heap.size w w' := by
  have HB0 := Lib.hid (Below.box w (.cells #[.int .i64 d, .int .i64 f, .slice a n c] 26 (0, 0)))
  have HR := Lib.hid (hR.below HB0.out)
  have HBC := Lib.hid (hB.below HB0.out)
  have HF := Lib.hid hF
  have HL := Lib.hid hl
  have HCL := Lib.hid hcl
  clear hR hF hl hB hcl
  go_enter Try.func16, Try.ntmps16
  cases ho : colB d f ss cs k
  · have HV : Hid (foldV d f n ss cs F k = -1) := Lib.hid (by unfold foldV; rw [ho]; rfl)
    have HO := Lib.hid ho
    clear ho
    go_wp2_with (go_at_call 15; refine (iColorsOk_any d f _ n _ ss F k _ m _ cs _ HF.out HL.out hm HR.out HCL.out hcm HBC.out).mono ?_; rw [HO.out]; rintro e w1 ⟨rfl, hb1⟩; have HR1 := Lib.hid (HR.out.below hb1); have HBC1 := Lib.hid (HBC.out.below hb1); have HB1 := Lib.hid (HB0.out.trans (hb1.mono HB0.out.size)); obtain ⟨d0, d1, d2⟩ := box3 hb1; clear hb1)
    go_ret
    exact ⟨by rw [HV.out]; rfl, HB1.out⟩
  · obtain ⟨L, hL⟩ : ∃ L, L = touchR d f n ss F k := ⟨_, rfl⟩
    have HV : Hid (foldV d f n ss cs F k = (fcN cs L L.length : Nat)) := Lib.hid (by unfold foldV; rw [if_pos ho, hL])
    obtain ⟨_, hok, hck⟩ := colB_all ho
    obtain ⟨N, hC, hFc, h160⟩ := HF.out.yes hok HL.out hm
    have hk160 : k ≤ 160 := Nat.le_trans hFc.le h160
    have HROW : Hid (∀ j, j < L.length → ∃ p q : Nat, rowN L j = [(p : Int), (q : Int)] ∧ p < m ∧ q < m) := Lib.hid (fun j hj => by
      rw [hL] at hj ⊢
      obtain ⟨p, q, h1, h2, h3⟩ := touch_row hj
      rw [← HCL.out, hck]
      exact ⟨p, q, h1, h2, h3⟩)
    have hlen : L.length ≤ 25600 := by rw [hL]; exact touch_len hk160
    have HTL := Lib.hid hL
    have HO := Lib.hid ho
    clear ho hok hck hC hFc hL
    go_wp2_with (first | (go_at_call 15; refine (iColorsOk_any d f _ n _ ss F k _ m _ cs _ HF.out HL.out hm HR.out HCL.out hcm HBC.out).mono ?_; rw [HO.out]; rintro e w1 ⟨rfl, hb1⟩; have HR1 := Lib.hid (HR.out.below hb1); have HBC1 := Lib.hid (HBC.out.below hb1); have HB1 := Lib.hid (HB0.out.trans (hb1.mono HB0.out.size)); obtain ⟨d0, d1, d2⟩ := box3 hb1; clear hb1) | (go_at_call 13; refine (iTouchingFaces_any d f _ n _ ss F k _ HF.out HL.out hm HR1.out).mono ?_; rw [← HTL.out]; rintro e w2 ⟨aL, cL, rfl, hgl, hb2⟩; have HBC2 := Lib.hid (HBC1.out.below hb2); have HB2 := Lib.hid (HB1.out.trans (hb2.mono HB1.out.size)); have HGL := Lib.hid hgl; clear hb2 hgl))
    clear HF HR HR1 HBC HBC1 HB0 HB1 d0 d1 d2
    have HLE : Hid (∀ j, fcN cs L j ≤ j) := Lib.hid (fcN_le cs L)
    have HST : Hid (∀ j, fcN cs L (j + 1) = fcN cs L j + if colAt cs L j 0 = colAt cs L j 1 then 0 else 1) := Lib.hid (fun j => rfl)
    have HS0 : Hid (fcN cs L 0 = 0) := Lib.hid rfl
    go_loopw [5, 15] (fun v x wr => ∃ j : Nat, j ≤ L.length ∧ x = .int .i64 j ∧ v = .int .i64 (fcN cs L j : Nat) ∧ wr.heap = w2.heap ∧ Below w.heap.size w wr) (fun _ x _ => L.length - (intOf x).toNat)
    case atStart => exact ⟨0, Nat.zero_le _, rfl, by rw [HS0.out]; rfl, rfl, HB2.out⟩
    case round =>
      obtain ⟨j, hj, rfl, rfl, h1, h2⟩ := hrel
      rename World => wr
      have H1 := Lib.hid h1
      have H2 := Lib.hid h2
      clear h1 h2
      have hle := HLE.out j
      by_cases hlj : j < L.length
      · obtain ⟨p, q, hr, hp, hq⟩ := HROW.out j hlj
        rcases HGL.out with hgl | ⟨g, rfl, hgl⟩
        · rw [hgl] at hlj
          exact absurd hlj (Nat.not_lt_zero j)
        · obtain ⟨bb, c0, c1, c2⟩ := (hgl.heap H1.out).pair hlj hr
          obtain ⟨gb, rfl, hrow⟩ := HBC2.out.row (by omega)
          have hrow2 := hrow.of_heap (w' := wr) (by rw [H1.out])
          have cp := hrow2.cell hp
          have cq := hrow2.cell hq
          unfold ic at cp cq
          have hst := HST.out j
          have hc0 : colAt cs L j 0 = cs.getD p 0 := by unfold colAt; rw [hr]; rfl
          have hc1 : colAt cs L j 1 = cs.getD q 0 := by unfold colAt; rw [hr]; rfl
          rw [hc0, hc1] at hst
          have k0 : (0 : Int) ≤ (p : Int) := Int.natCast_nonneg _
          have k1 : (p : Int) < (m : Int) := by omega
          have k2 : (0 : Int) ≤ (q : Int) := Int.natCast_nonneg _
          have k3 : (q : Int) < (m : Int) := by omega
          have k4 : (0 : Int) ≤ (j : Int) := Int.natCast_nonneg _
          have k5 : (j : Int) < (L.length : Int) := by omega
          clear hr hrow hrow2 hc0 hc1 hgl
          generalize hz : fcN cs L (j + 1) = z1 at hst
          have HZ := Lib.hid hz
          clear hz
          generalize fcN cs L j = z0 at *
          have e1 : IntKind.i64.wrap ((z0 : Int) + 1) = (z0 : Int) + 1 := IntWalk.i64_in _ (by omega)
          by_cases hc : cs.getD p 0 = cs.getD q 0
          · have ec : (cs.getD p 0 != cs.getD q 0) = false := by rw [hc]; simp
            have HEQ : Hid (z1 = z0) := Lib.hid (by rw [hst, if_pos hc]; rfl)
            clear hc hst
            generalize cs.getD p 0 = u at *
            generalize cs.getD q 0 = v at *
            go_wp2
            go_quiet (fail)
            go_wp2
            go_roundw
            case rel => exact ⟨j + 1, by omega, by go_num, by rw [HZ.out, HEQ.out], H1.out, ⟨H2.out.os, H2.out.tape, H2.out.output, H2.out.size, H2.out.block⟩⟩
            case measure => simp [intOf]; omega
          · have ec : (cs.getD p 0 != cs.getD q 0) = true := by simpa using hc
            have HEQ : Hid (z1 = z0 + 1) := Lib.hid (by rw [hst, if_neg hc])
            clear hc hst
            generalize cs.getD p 0 = u at *
            generalize cs.getD q 0 = v at *
            go_wp2
            go_quiet (fail)
            go_wp2
            go_roundw
            case rel => exact ⟨j + 1, by omega, by go_num, by rw [HZ.out, HEQ.out]; go_num, H1.out, ⟨H2.out.os, H2.out.tape, H2.out.output, H2.out.size, H2.out.block⟩⟩
            case measure => simp [intOf]; omega
      · have hj' : j = L.length := by omega
        rw [hj']
        go_wp2
        go_ret
        exact ⟨by rw [HV.out]; rfl, H2.out⟩
end Go.Proofs.Yteojoifhmaoiaaa
