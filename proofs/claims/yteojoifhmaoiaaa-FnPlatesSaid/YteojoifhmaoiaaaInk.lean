/-
  Contracts of InkOf in the program and in the reference: how many tiles a color covers.
  By an AI agent.
-/
import Derived.Test.YteojoifhmaoiaaaColor
namespace Go.Proofs.Yteojoifhmaoiaaa
open Go.ChangeShapes Go.WideShapes Go.ChangeAt Go.RowKit Go.Joins Go.Deep
set_option maxRecDepth 100000
set_option linter.unusedVariables false

theorem cntB_add {P Q R : Nat → Bool} {m : Nat} (h : ∀ t, t < m → (if R t then 1 else 0 : Nat) = (if P t then 1 else 0) + (if Q t then 1 else 0)) : cntB R m = cntB P m + cntB Q m := by
  induction m with
  | zero => rfl
  | succ m ih =>
    have h1 := ih (fun t ht => h t (by omega))
    have h2 := h m (by omega)
    show cntB R m + (if R m then 1 else 0) = (cntB P m + (if P m then 1 else 0)) + (cntB Q m + (if Q m then 1 else 0))
    omega
/-- The tiles whose face bears the color. -/
def inkN (zs : List Int) (F : Nat → Nat) (col : Int) (m : Nat) : Nat := cntB (fun t => decide (zs.getD (F t) 0 = col)) m
/-- The same, face by face. -/
def inkS (zs : List Int) (F : Nat → Nat) (col : Int) (m : Nat) : Nat → Nat
  | 0 => 0
  | j + 1 => inkS zs F col m j + if zs.getD j 0 = col then cntB (fun t => decide (F t = j)) m else 0
theorem inkS_eq (zs : List Int) (F : Nat → Nat) (col : Int) (m : Nat) : ∀ j, inkS zs F col m j = cntB (fun t => decide (F t < j ∧ zs.getD (F t) 0 = col)) m := by
  intro j
  induction j with
  | zero =>
    have h : ∀ m, cntB (fun t => decide (F t < 0 ∧ zs.getD (F t) 0 = col)) m = 0 := by
      intro m
      induction m with
      | zero => rfl
      | succ m ih =>
        show cntB _ m + (if decide (F m < 0 ∧ zs.getD (F m) 0 = col) then 1 else 0) = 0
        rw [ih, decide_eq_false (by omega)]
        rfl
    exact (h m).symm
  | succ j ih =>
    show inkS zs F col m j + (if zs.getD j 0 = col then cntB (fun t => decide (F t = j)) m else 0) = _
    rw [ih]
    by_cases hc : zs.getD j 0 = col
    · rw [if_pos hc]
      refine (cntB_add fun t _ => ?_).symm
      by_cases h1 : F t = j
      · rw [h1, decide_eq_true (show j < j + 1 ∧ zs.getD j 0 = col from ⟨by omega, hc⟩), decide_eq_false (show ¬ (j < j ∧ zs.getD j 0 = col) by omega), decide_eq_true rfl]
        rfl
      · rw [decide_eq_false h1]
        by_cases h2 : F t < j ∧ zs.getD (F t) 0 = col
        · rw [decide_eq_true h2, decide_eq_true (show F t < j + 1 ∧ zs.getD (F t) 0 = col from ⟨by omega, h2.2⟩)]
          rfl
        · rw [decide_eq_false h2, decide_eq_false (show ¬ (F t < j + 1 ∧ zs.getD (F t) 0 = col) from fun h => h2 ⟨by omega, h.2⟩)]
          rfl
    · rw [if_neg hc, Nat.add_zero]
      refine cntB_congr fun t _ => ?_
      by_cases h1 : F t = j
      · rw [h1, decide_eq_false (show ¬ (j < j ∧ zs.getD j 0 = col) by omega), decide_eq_false (show ¬ (j < j + 1 ∧ zs.getD j 0 = col) from fun h => hc h.2)]
      · by_cases h2 : F t < j ∧ zs.getD (F t) 0 = col
        · rw [decide_eq_true h2, decide_eq_true (show F t < j + 1 ∧ zs.getD (F t) 0 = col from ⟨by omega, h2.2⟩)]
        · rw [decide_eq_false h2, decide_eq_false (show ¬ (F t < j + 1 ∧ zs.getD (F t) 0 = col) from fun h => h2 ⟨by omega, h.2⟩)]
theorem inkS_le (zs : List Int) (F : Nat → Nat) (col : Int) (m j : Nat) : inkS zs F col m j ≤ m := by rw [inkS_eq]; exact cntB_le _ _
theorem inkS_all {zs : List Int} {F : Nat → Nat} {col : Int} {m k : Nat} (h : ∀ t, t < m → F t < k) : inkS zs F col m k = inkN zs F col m := by
  rw [inkS_eq]
  refine cntB_congr fun t ht => ?_
  by_cases h2 : zs.getD (F t) 0 = col
  · rw [decide_eq_true h2, decide_eq_true ⟨h t ht, h2⟩]
  · rw [decide_eq_false h2, decide_eq_false (fun h => h2 h.2)]
def inkV (d f : Int) (n : Nat) (ss : List ByteArray) (zs : List Int) (F : Nat → Nat) (k : Nat) (col : Int) : Nat := if colB d f ss zs k = true then inkN zs F col (n * (d + f).toNat) else 0
theorem colB_yes {d f : Int} {ss : List ByteArray} {cs : List Int} {k : Nat} (h : colB d f ss cs k = true) : colsB cs = true ∧ cardOkB d f ss = true ∧ cs.length = k := by
  unfold colB at h
  simp only [Bool.and_eq_true, decide_eq_true_eq] at h
  exact ⟨h.1, h.2.1, h.2.2⟩

theorem sInkOf_any (d f : Int) (a : Option Addr) (n c : Nat) (ss : List ByteArray) (F : Nat → Nat) (k : Nat) (b : Option Addr) (m cb : Nat) (cs : List Int) (col : Int) (w : World) (hF : FcO d f n ss F k) (hl : ss.length = n) (hm : (n : Int) + tot ss n ≤ 1048576) (hR : SlR w a n (sc ss)) (hcl : cs.length = m) (hcm : m ≤ 1048576) (hB : SlR w b m (ic cs)) :
    Calls Try.prog 37 #[.agg #[.int .i64 d, .int .i64 f, .slice a n c], .slice b m cb, .int .i64 col] w fun e w' => e = .returned (.int .i64 (inkV d f n ss cs F k col : Nat)) ∧ Below w.heap.size w w' := by
  have HB0 := Lib.hid (Below.box w (.cells #[.int .i64 d, .int .i64 f, .slice a n c] 26 (0, 0)))
  have HR := Lib.hid (hR.below HB0.out)
  have HBC := Lib.hid (hB.below HB0.out)
  have HF := Lib.hid hF
  have HL := Lib.hid hl
  have HCL := Lib.hid hcl
  clear hR hF hl hB hcl
  go_enter Try.func37, Try.ntmps37
  cases ho : colB d f ss cs k
  · have HV : Hid (inkV d f n ss cs F k col = 0) := Lib.hid (by unfold inkV; rw [ho]; rfl)
    have HO := Lib.hid ho
    clear ho
    go_wp2_with (go_at_call 36; refine (sColorsOk_any d f _ n _ ss F k _ m _ cs _ HF.out HL.out hm HR.out HCL.out hcm HBC.out).mono ?_; rw [HO.out]; rintro e w1 ⟨rfl, hb1⟩; have HB1 := Lib.hid (HB0.out.trans (hb1.mono HB0.out.size)); clear hb1)
    go_ret
    exact ⟨by rw [HV.out]; rfl, HB1.out⟩
  · have HV : Hid (inkV d f n ss cs F k col = inkN cs F col (n * (d + f).toNat)) := Lib.hid (by unfold inkV; rw [if_pos ho])
    obtain ⟨_, hok, hck⟩ := colB_yes ho
    obtain ⟨N, hC, hFc, h160⟩ := HF.out.yes hok HL.out hm
    have hN : (d + f).toNat = N := by have := hC.sum; omega
    rw [hN] at HV
    have HC := Lib.hid hC
    have HFc := Lib.hid hFc
    have HO := Lib.hid ho
    have HCK : Hid (m = k) := Lib.hid (HCL.out.symm.trans hck)
    clear ho hC hFc hok hck hN
    go_wp2_with (first | (go_at_call 36; refine (sColorsOk_any d f _ n _ ss F k _ m _ cs _ HF.out HL.out hm HR.out HCL.out hcm HBC.out).mono ?_; rw [HO.out]; rintro e w1 ⟨rfl, hb1⟩; have HR1 := Lib.hid (HR.out.below hb1); have HBC1 := Lib.hid (HBC.out.below hb1); have HB1 := Lib.hid (HB0.out.trans (hb1.mono HB0.out.size)); obtain ⟨d0, d1, d2⟩ := box3 hb1; clear hb1) | (go_at_call 48; refine (l06Faces_any d f _ n c N ss _ HC.out HR1.out).mono ?_; rintro e w2 ⟨g, G, rfl, _, hrow, hG, hb2⟩; have HBC2 := Lib.hid (HBC1.out.below hb2); have HB2 := Lib.hid (HB1.out.trans (hb2.mono HB1.out.size)); have HG := Lib.hid hG; have HRO := Lib.hid hrow; clear hb2 hG hrow))
    have HGF : Hid (∀ t, t < n * N → G t = F t) := Lib.hid (HFc.out.eq _ HG.out)
    have HGL : Hid (∀ t, t < n * N → G t < m) := Lib.hid (fun t ht => by rw [HCK.out, ← HFc.out.top _ HG.out]; exact lt_top ht)
    have HV2 : Hid (inkV d f n ss cs F k col = cntB (fun t => decide (cs.getD (G t) 0 = col)) (n * N)) := Lib.hid (by rw [HV.out]; exact (cntB_congr fun t ht => by rw [HGF.out t ht]))
    generalize hM : n * N = M at *
    clear hM HC HFc HF HG HGF HV HBC HBC1
    go_loopw [7, 9] (fun nn x wr => ∃ t : Nat, t ≤ M ∧ x = .int .i64 t ∧ nn = .int .i64 (cntB (fun t => decide (cs.getD (G t) 0 = col)) t : Nat) ∧ wr = w2) (fun _ x _ => M - (intOf x).toNat)
    case atStart => exact ⟨0, Nat.zero_le _, rfl, rfl, rfl⟩
    case round =>
      obtain ⟨t, ht, rfl, rfl, rfl⟩ := hrel
      by_cases hlt : t < M
      · have ct := HRO.out.cell hlt
        unfold nc at ct
        have h1 := HGL.out t hlt
        obtain ⟨gb, rfl, hrow⟩ := HBC2.out.row (by omega)
        have cx := hrow.cell h1
        unfold ic at cx
        have k2 : (0 : Int) ≤ ((G t : Nat) : Int) := Int.natCast_nonneg _
        have k3 : ((G t : Nat) : Int) < (m : Int) := by omega
        have hle := cntB_le (fun t => decide (cs.getD (G t) 0 = col)) t
        have HS : Hid (cntB (fun t => decide (cs.getD (G t) 0 = col)) (t + 1) = cntB (fun t => decide (cs.getD (G t) 0 = col)) t + if decide (cs.getD (G t) 0 = col) then 1 else 0) := Lib.hid rfl
        clear hrow
        generalize cntB (fun t => decide (cs.getD (G t) 0 = col)) t = s at hle HS
        by_cases hc : cs.getD (G t) 0 = col
        · have hS2 : cntB (fun t => decide (cs.getD (G t) 0 = col)) (t + 1) = s + 1 := by rw [HS.out, decide_eq_true hc]; rfl
          have HS2 := Lib.hid hS2
          have ec : (cs.getD (G t) 0 == col) = true := by rw [hc]; simp
          have e1 : IntKind.i64.wrap ((s : Int) + 1) = (s : Int) + 1 := IntWalk.i64_in _ (by omega)
          clear hc hS2 HS
          generalize cs.getD (G t) 0 = x at cx ec
          generalize G t = q at *
          go_wp2
          go_roundw
          case rel => exact ⟨t + 1, by omega, by go_num, by rw [HS2.out]; go_num, trivial⟩
          case measure => simp [intOf]; omega
        · have hS2 : cntB (fun t => decide (cs.getD (G t) 0 = col)) (t + 1) = s := by rw [HS.out, decide_eq_false hc]; rfl
          have HS2 := Lib.hid hS2
          have ec : (cs.getD (G t) 0 == col) = false := by simpa using hc
          clear hc hS2 HS
          generalize cs.getD (G t) 0 = x at cx ec
          generalize G t = q at *
          go_wp2
          go_roundw
          case rel => exact ⟨t + 1, by omega, by go_num, by rw [HS2.out], trivial⟩
          case measure => simp [intOf]; omega
      · have ht' : t = M := by omega
        subst ht'
        go_wp2
        go_ret
        exact ⟨by rw [HV2.out]; rfl, HB2.out⟩
theorem iInkOf_any (d f : Int) (a : Option Addr) (n c : Nat) (ss : List ByteArray) (F : Nat → Nat) (k : Nat) (b : Option Addr) (m cb : Nat) (cs : List Int) (col : Int) (w : World) (hF : FcO d f n ss F k) (hl : ss.length = n) (hm : (n : Int) + tot ss n ≤ 1048576) (hR : SlR w a n (sc ss)) (hcl : cs.length = m) (hcm : m ≤ 1048576) (hB : SlR w b m (ic cs)) :
    Calls Try.prog 18 #[.agg #[.int .i64 d, .int .i64 f, .slice a n c], .slice b m cb, .int .i64 col] w fun e w' => e = .returned (.int .i64 (inkV d f n ss cs F k col : Nat)) ∧ Below w.heap.size w w' := by
  have HB0 := Lib.hid (Below.box w (.cells #[.int .i64 d, .int .i64 f, .slice a n c] 26 (0, 0)))
  have HR := Lib.hid (hR.below HB0.out)
  have HBC := Lib.hid (hB.below HB0.out)
  have HF := Lib.hid hF
  have HL := Lib.hid hl
  have HCL := Lib.hid hcl
  clear hR hF hl hB hcl
  go_enter Try.func18, Try.ntmps18
  cases ho : colB d f ss cs k
  · have HV : Hid (inkV d f n ss cs F k col = 0) := Lib.hid (by unfold inkV; rw [ho]; rfl)
    have HO := Lib.hid ho
    clear ho
    go_wp2_with (go_at_call 15; refine (iColorsOk_any d f _ n _ ss F k _ m _ cs _ HF.out HL.out hm HR.out HCL.out hcm HBC.out).mono ?_; rw [HO.out]; rintro e w1 ⟨rfl, hb1⟩; have HB1 := Lib.hid (HB0.out.trans (hb1.mono HB0.out.size)); clear hb1)
    go_ret
    exact ⟨by rw [HV.out]; rfl, HB1.out⟩
  · have HV : Hid (inkV d f n ss cs F k col = inkN cs F col (n * (d + f).toNat)) := Lib.hid (by unfold inkV; rw [if_pos ho])
    obtain ⟨_, hok, hck⟩ := colB_yes ho
    obtain ⟨N, hC, hFc, h160⟩ := HF.out.yes hok HL.out hm
    have hN : (d + f).toNat = N := by have := hC.sum; omega
    rw [hN] at HV
    have HC := Lib.hid hC
    have HFc := Lib.hid hFc
    have HO := Lib.hid ho
    have HCK : Hid (m = k) := Lib.hid (HCL.out.symm.trans hck)
    clear ho hC hFc hok hck hN
    go_wp2_with (first | (go_at_call 15; refine (iColorsOk_any d f _ n _ ss F k _ m _ cs _ HF.out HL.out hm HR.out HCL.out hcm HBC.out).mono ?_; rw [HO.out]; rintro e w1 ⟨rfl, hb1⟩; have HR1 := Lib.hid (HR.out.below hb1); have HBC1 := Lib.hid (HBC.out.below hb1); have HB1 := Lib.hid (HB0.out.trans (hb1.mono HB0.out.size)); obtain ⟨d0, d1, d2⟩ := box3 hb1; clear hb1) | (go_at_call 42; refine (faces_any d f _ n c N ss _ HC.out HR1.out).mono ?_; rintro e w2 ⟨lo, hi, go, cp, gz, cz, A, G, sz, rfl, _, _, hS, hZ, _, hrow, hb2⟩; have HBC2 := Lib.hid (HBC1.out.below hb2); have HB2 := Lib.hid (HB1.out.trans (hb2.mono HB1.out.size)); have HS := Lib.hid hS; have HZ := Lib.hid hZ; have HRO := Lib.hid hrow; clear hb2 hS hZ hrow))
    have HGF : Hid (∀ t, t < n * N → (G t).toNat = F t) := Lib.hid (HFc.out.eq _ HS.out.done)
    have HSZ : Hid (sz.length = m) := Lib.hid (by rw [HCK.out, ← HFc.out.top _ HS.out.done]; exact HS.out.cnt.symm)
    have HFK : Hid (∀ t, t < n * N → F t < m) := Lib.hid (fun t ht => by rw [← HGF.out t ht, HCK.out, ← HFc.out.top _ HS.out.done]; exact lt_top (F := fun y => (G y).toNat) ht)
    have HZF : Hid (∀ j, j < m → sz.getD j 0 = (cntB (fun t => decide (F t = j)) (n * N) : Nat)) := Lib.hid (fun j hj => by
      rw [HZ.out j (by rw [HSZ.out]; exact hj)]
      unfold numF
      congr 1
      refine cntB_congr fun t ht => ?_
      have h1 := HS.out.pos ht
      have h2 := HGF.out t ht
      by_cases e : F t = j
      · rw [decide_eq_true e, decide_eq_true (show G t = (j : Int) by omega)]
      · rw [decide_eq_false e, decide_eq_false (show ¬ G t = (j : Int) by omega)])
    have HV2 : Hid (inkV d f n ss cs F k col = inkS cs F col (n * N) m) := Lib.hid (by rw [HV.out]; exact (inkS_all HFK.out).symm)
    have HLE : Hid (∀ j, inkS cs F col (n * N) j ≤ 160) := Lib.hid (fun j => Nat.le_trans (inkS_le _ _ _ _ _) h160)
    have HST : Hid (∀ j, inkS cs F col (n * N) (j + 1) = inkS cs F col (n * N) j + if cs.getD j 0 = col then cntB (fun t => decide (F t = j)) (n * N) else 0) := Lib.hid (fun j => rfl)
    generalize hM : n * N = M at *
    clear hM HC HFc HF HS HZ HGF HV HBC HBC1 HFK
    have hI0 : inkS cs F col M 0 = 0 := rfl
    generalize inkS cs F col M = I at *
    have HI0 : Hid (I 0 = 0) := Lib.hid hI0
    clear hI0
    go_loopw [9, 23] (fun nn x wr => ∃ j : Nat, j ≤ m ∧ x = .int .i64 j ∧ nn = .int .i64 (I j : Nat) ∧ wr = w2) (fun _ x _ => m - (intOf x).toNat)
    case atStart => exact ⟨0, Nat.zero_le _, rfl, by rw [HI0.out]; rfl, rfl⟩
    case round =>
      obtain ⟨j, hj, rfl, rfl, rfl⟩ := hrel
      by_cases hlt : j < m
      · obtain ⟨gb, rfl, hrow⟩ := HBC2.out.row (by omega)
        have cx := hrow.cell hlt
        have cz := HRO.out.cell (i := j) (by rw [HSZ.out]; exact hlt)
        unfold ic at cx cz
        rw [HZF.out j hlt, HSZ.out] at *
        have hl1 := HLE.out (j + 1)
        have hl0 := HLE.out j
        have hst := HST.out j
        have z0 : (0 : Int) ≤ (j : Int) := Int.natCast_nonneg _
        have z1 : (j : Int) < (m : Int) := by omega
        clear hrow
        generalize cntB (fun t => decide (F t = j)) M = q at *
        generalize hi1 : I (j + 1) = i1 at hl1 hst
        have HI1 := Lib.hid hi1
        clear hi1
        generalize I j = i0 at *
        by_cases hc : cs.getD j 0 = col
        · rw [if_pos hc] at hst
          have ec : (cs.getD j 0 == col) = true := by rw [hc]; simp
          have e1 : IntKind.i64.wrap ((i0 : Int) + (q : Int)) = (i1 : Int) := by rw [show (i0 : Int) + (q : Int) = (i1 : Int) by omega]; exact IntWalk.i64_in _ (by omega)
          clear hc hst
          generalize cs.getD j 0 = x at cx ec
          go_wp2
          go_roundw
          case rel => exact ⟨j + 1, by omega, by go_num, by rw [HI1.out], trivial⟩
          case measure => simp [intOf]; omega
        · rw [if_neg hc, Nat.add_zero] at hst
          have ec : (cs.getD j 0 == col) = false := by simpa using hc
          have HEQ := Lib.hid hst
          clear hc hst
          generalize cs.getD j 0 = x at cx ec
          go_wp2
          go_roundw
          case rel => exact ⟨j + 1, by omega, by go_num, by rw [HI1.out, HEQ.out], trivial⟩
          case measure => simp [intOf]; omega
      · have hj' : j = m := by omega
        subst hj'
        go_wp2
        go_ret
        exact ⟨by rw [HV2.out]; rfl, HB2.out⟩
end Go.Proofs.Yteojoifhmaoiaaa
