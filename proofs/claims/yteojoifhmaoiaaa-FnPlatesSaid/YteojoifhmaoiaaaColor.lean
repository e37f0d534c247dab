/-
  Contracts of ColorsOk in the program and in the reference: whether a list of numbers colors all faces of a card.
  By an AI agent.
-/
import Derived.Test.YteojoifhmaoiaaaFaceC
namespace Go.Proofs.Yteojoifhmaoiaaa
open Go.ChangeShapes Go.WideShapes Go.ChangeAt Go.RowKit Go.Joins Go.Deep
set_option maxRecDepth 100000
set_option linter.unusedVariables false

/-- All are colors. -/
def colsB (cs : List Int) : Bool := cs.all (fun x => decide (0 ≤ x ∧ x ≤ 7))
def colB (d f : Int) (ss : List ByteArray) (cs : List Int) (k : Nat) : Bool := colsB cs && (cardOkB d f ss && decide (cs.length = k))
theorem colsB_at {cs : List Int} (h : colsB cs = true) {j : Nat} (hj : j < cs.length) : 0 ≤ cs.getD j 0 ∧ cs.getD j 0 ≤ 7 := by
  rw [getD_at _ _ hj]
  exact of_decide_eq_true (List.all_eq_true.1 h _ (List.getElem_mem hj))
theorem colsB_yes {cs : List Int} (h : ∀ j, j < cs.length → 0 ≤ cs.getD j 0 ∧ cs.getD j 0 ≤ 7) : colsB cs = true := by
  refine List.all_eq_true.2 fun x hx => ?_
  obtain ⟨j, hj, rfl⟩ := List.getElem_of_mem hx
  have := h j hj
  rw [getD_at _ _ hj] at this
  exact decide_eq_true this
theorem colB_no {d f : Int} {ss : List ByteArray} {cs : List Int} {k j : Nat} (hj : j < cs.length) (h : ¬ (0 ≤ cs.getD j 0 ∧ cs.getD j 0 ≤ 7)) : colB d f ss cs k = false := by
  unfold colB
  cases e : colsB cs
  · rfl
  · exact absurd (colsB_at e hj) h
theorem iColorsOk_any (d f : Int) (a : Option Addr) (n c : Nat) (ss : List ByteArray) (F : Nat → Nat) (k : Nat) (b : Option Addr) (m cb : Nat) (cs : List Int) (w : World) (hF : FcO d f n ss F k) (hl : ss.length = n) (hm : (n : Int) + tot ss n ≤ 1048576) (hR : SlR w a n (sc ss)) (hcl : cs.length = m) (hcm : m ≤ 1048576) (hB : SlR w b m (ic cs)) :
    Calls Try.prog 15 #[.agg #[.int .i64 d, .int .i64 f, .slice a n c], .slice b m cb] w fun e w' => e = .returned (.bool (colB d f ss cs k)) ∧ Below w.heap.size w w' := by
  have HB0 := Lib.hid (Below.box w (.cells #[.int .i64 d, .int .i64 f, .slice a n c] 26 (0, 0)))
  have HR := Lib.hid (hR.below HB0.out)
  have HBC := Lib.hid (hB.below HB0.out)
  have HF := Lib.hid hF
  have HL := Lib.hid hl
  have HCL := Lib.hid hcl
  clear hR hF hl hB hcl
  go_enter Try.func15, Try.ntmps15
  go_wp2
  go_loopw [9] (fun x wr => ∃ j : Nat, j ≤ m ∧ x = .int .i64 j ∧ (∀ i, i < j → 0 ≤ cs.getD i 0 ∧ cs.getD i 0 ≤ 7) ∧ wr = w.alloc (.cells #[.int .i64 d, .int .i64 f, .slice a n c] 26 (0, 0))) (fun x _ => m - (intOf x).toNat)
  case atStart => exact ⟨0, Nat.zero_le _, rfl, fun i hi => absurd hi (Nat.not_lt_zero i), rfl⟩
  case round =>
    obtain ⟨j, hj, rfl, hin, rfl⟩ := hrel
    have HIN := Lib.hid hin
    clear hin
    by_cases hlt : j < m
    · obtain ⟨gb, rfl, hrow⟩ := HBC.out.row (by omega)
      have cj := hrow.cell hlt
      unfold ic at cj
      have HX : Hid (cs.getD j 0 = cs.getD j 0) := Lib.hid rfl
      by_cases hx : 0 ≤ cs.getD j 0 ∧ cs.getD j 0 ≤ 7
      · have HN : Hid (∀ i, i < j + 1 → 0 ≤ cs.getD i 0 ∧ cs.getD i 0 ≤ 7) := Lib.hid (fun i hi => by
          by_cases e : i = j
          · subst e; exact hx
          · exact HIN.out i (by omega))
        clear hrow
        generalize cs.getD j 0 = x at cj hx
        obtain ⟨x0, x1⟩ := hx
        go_wp2_with (go_at_call 49; (first | refine (within_t _ _ _ _ (by omega) (by omega)).mono ?_ | refine (within_f _ _ _ _ (by omega)).mono ?_); rintro e w' ⟨rfl, rfl⟩)
        go_roundw
        case rel => exact ⟨j + 1, by omega, by go_num, HN.out, trivial⟩
        case measure => simp [intOf]; omega
      · have HV : Hid (colB d f ss cs k = false) := Lib.hid (colB_no (by rw [HCL.out]; exact hlt) hx)
        have hx' : cs.getD j 0 < 0 ∨ 7 < cs.getD j 0 := by omega
        clear hrow hx HX
        generalize cs.getD j 0 = x at cj hx'
        go_wp2_with (go_at_call 49; (first | refine (within_t _ _ _ _ (by omega) (by omega)).mono ?_ | refine (within_f _ _ _ _ (by omega)).mono ?_); rintro e w' ⟨rfl, rfl⟩)
        go_ret
        exact ⟨ret_bool HV.out.symm, HB0.out⟩
    · have hj' : m = j := by omega
      subst hj'
      have HCI : Hid (colsB cs = true) := Lib.hid (colsB_yes (by rw [HCL.out]; exact HIN.out))
      clear HIN
      cases ho : cardOkB d f ss
      · have HO := Lib.hid ho
        have HV : Hid (colB d f ss cs k = false) := Lib.hid (by unfold colB; rw [ho, Bool.false_and, Bool.and_false])
        clear ho
        go_wp2_with (go_at_call 40; refine (iCardOk_any _ _ _ _ _ _ _ HL.out hm HR.out).mono ?_; rw [HO.out]; rintro e w1 ⟨rfl, hb1⟩; have HR1 := Lib.hid (HR.out.below hb1); have HB1 := Lib.hid (HB0.out.trans (hb1.mono HB0.out.size)); obtain ⟨d0, d1, d2⟩ := box3 hb1; clear hb1)
        go_ret
        exact ⟨ret_bool HV.out.symm, HB1.out⟩
      · have HO := Lib.hid ho
        by_cases hk : m = k
        · have HV : Hid (colB d f ss cs k = true) := Lib.hid (by unfold colB; rw [ho, HCI.out, HCL.out, decide_eq_true hk]; rfl)
          have ek : ((m : Int) == (k : Int)) = true := by simp; omega
          clear ho hk
          go_wp2_with (first | (go_at_call 40; refine (iCardOk_any _ _ _ _ _ _ _ HL.out hm HR.out).mono ?_; rw [HO.out]; rintro e w1 ⟨rfl, hb1⟩; have HR1 := Lib.hid (HR.out.below hb1); have HB1 := Lib.hid (HB0.out.trans (hb1.mono HB0.out.size)); obtain ⟨d0, d1, d2⟩ := box3 hb1; clear hb1) | (go_at_call 41; refine (iCountFaces_any d f _ n _ ss F k _ HF.out HL.out hm HR1.out).mono ?_; rintro e w2 ⟨rfl, hb2⟩; have HB2 := Lib.hid (HB1.out.trans (hb2.mono HB1.out.size)); clear hb2))
          go_ret
          exact ⟨ret_bool HV.out.symm, HB2.out⟩
        · have HV : Hid (colB d f ss cs k = false) := Lib.hid (by unfold colB; rw [HCL.out, decide_eq_false hk, Bool.and_false, Bool.and_false])
          have ek : ((m : Int) == (k : Int)) = false := by simp; omega
          clear ho hk
          go_wp2_with (first | (go_at_call 40; refine (iCardOk_any _ _ _ _ _ _ _ HL.out hm HR.out).mono ?_; rw [HO.out]; rintro e w1 ⟨rfl, hb1⟩; have HR1 := Lib.hid (HR.out.below hb1); have HB1 := Lib.hid (HB0.out.trans (hb1.mono HB0.out.size)); obtain ⟨d0, d1, d2⟩ := box3 hb1; clear hb1) | (go_at_call 41; refine (iCountFaces_any d f _ n _ ss F k _ HF.out HL.out hm HR1.out).mono ?_; rintro e w2 ⟨rfl, hb2⟩; have HB2 := Lib.hid (HB1.out.trans (hb2.mono HB1.out.size)); clear hb2))
          go_ret
          exact ⟨ret_bool HV.out.symm, HB2.out⟩
theorem sColorsOk_any (d f : Int) (a : Option Addr) (n c : Nat) (ss : List ByteArray) (F : Nat → Nat) (k : Nat) (b : Option Addr) (m cb : Nat) (cs : List Int) (w : World) (hF : FcO d f n ss F k) (hl : ss.length = n) (hm : (n : Int) + tot ss n ≤ 1048576) (hR : SlR w a n (sc ss)) (hcl : cs.length = m) (hcm : m ≤ 1048576) (hB : SlR w b m (ic cs)) :
    Calls Try.prog 36 #[.agg #[.int .i64 d, .int .i64 f, .slice a n c], .slice b m cb] w fun e w' => e = .returned (.bool (colB d f ss cs k)) ∧ Below w.heap.size w w' := by
  have HB0 := Lib.hid (Below.box w (.cells #[.int .i64 d, .int .i64 f, .slice a n c] 26 (0, 0)))
  have HR := Lib.hid (hR.below HB0.out)
  have HBC := Lib.hid (hB.below HB0.out)
  have HF := Lib.hid hF
  have HL := Lib.hid hl
  have HCL := Lib.hid hcl
  clear hR hF hl hB hcl
  go_enter Try.func36, Try.ntmps36
  go_wp2
  go_loopw [5] (fun x wr => ∃ j : Nat, j ≤ m ∧ x = .int .i64 j ∧ (∀ i, i < j → 0 ≤ cs.getD i 0 ∧ cs.getD i 0 ≤ 7) ∧ wr = w.alloc (.cells #[.int .i64 d, .int .i64 f, .slice a n c] 26 (0, 0))) (fun x _ => m - (intOf x).toNat)
  case atStart => exact ⟨0, Nat.zero_le _, rfl, fun i hi => absurd hi (Nat.not_lt_zero i), rfl⟩
  case round =>
    obtain ⟨j, hj, rfl, hin, rfl⟩ := hrel
    have HIN := Lib.hid hin
    clear hin
    by_cases hlt : j < m
    · obtain ⟨gb, rfl, hrow⟩ := HBC.out.row (by omega)
      have cj := hrow.cell hlt
      unfold ic at cj
      have HX : Hid (cs.getD j 0 = cs.getD j 0) := Lib.hid rfl
      by_cases hx : 0 ≤ cs.getD j 0 ∧ cs.getD j 0 ≤ 7
      · have HN : Hid (∀ i, i < j + 1 → 0 ≤ cs.getD i 0 ∧ cs.getD i 0 ≤ 7) := Lib.hid (fun i hi => by
          by_cases e : i = j
          · subst e; exact hx
          · exact HIN.out i (by omega))
        clear hrow
        generalize cs.getD j 0 = x at cj hx
        obtain ⟨x0, x1⟩ := hx
        go_wp2_with (go_at_call 57; (first | refine (l01In_t _ _ _ _ (by omega) (by omega)).mono ?_ | refine (l01In_f _ _ _ _ (by omega)).mono ?_); rintro e w' ⟨rfl, rfl⟩)
        go_roundw
        case rel => exact ⟨j + 1, by omega, by go_num, HN.out, trivial⟩
        case measure => simp [intOf]; omega
      · have HV : Hid (colB d f ss cs k = false) := Lib.hid (colB_no (by rw [HCL.out]; exact hlt) hx)
        have hx' : cs.getD j 0 < 0 ∨ 7 < cs.getD j 0 := by omega
        clear hrow hx HX
        generalize cs.getD j 0 = x at cj hx'
        go_wp2_with (go_at_call 57; (first | refine (l01In_t _ _ _ _ (by omega) (by omega)).mono ?_ | refine (l01In_f _ _ _ _ (by omega)).mono ?_); rintro e w' ⟨rfl, rfl⟩)
        go_ret
        exact ⟨ret_bool HV.out.symm, HB0.out⟩
    · have hj' : m = j := by omega
      subst hj'
      have HCI : Hid (colsB cs = true) := Lib.hid (colsB_yes (by rw [HCL.out]; exact HIN.out))
      clear HIN
      cases ho : cardOkB d f ss
      · have HO := Lib.hid ho
        have HV : Hid (colB d f ss cs k = false) := Lib.hid (by unfold colB; rw [ho, Bool.false_and, Bool.and_false])
        clear ho
        go_wp2_with (go_at_call 47; refine (sCardOk_any _ _ _ _ _ _ _ HL.out hm HR.out).mono ?_; rw [HO.out]; rintro e w1 ⟨rfl, hb1⟩; have HR1 := Lib.hid (HR.out.below hb1); have HB1 := Lib.hid (HB0.out.trans (hb1.mono HB0.out.size)); obtain ⟨d0, d1, d2⟩ := box3 hb1; clear hb1)
        go_ret
        exact ⟨ret_bool HV.out.symm, HB1.out⟩
      · have HO := Lib.hid ho
        by_cases hk : m = k
        · have HV : Hid (colB d f ss cs k = true) := Lib.hid (by unfold colB; rw [ho, HCI.out, HCL.out, decide_eq_true hk]; rfl)
          have ek : ((m : Int) == (k : Int)) = true := by simp; omega
          clear ho hk
          go_wp2_with (first | (go_at_call 47; refine (sCardOk_any _ _ _ _ _ _ _ HL.out hm HR.out).mono ?_; rw [HO.out]; rintro e w1 ⟨rfl, hb1⟩; have HR1 := Lib.hid (HR.out.below hb1); have HB1 := Lib.hid (HB0.out.trans (hb1.mono HB0.out.size)); obtain ⟨d0, d1, d2⟩ := box3 hb1; clear hb1) | (go_at_call 14; refine (sCountFaces_any d f _ n _ ss F k _ HF.out HL.out hm HR1.out).mono ?_; rintro e w2 ⟨rfl, hb2⟩; have HB2 := Lib.hid (HB1.out.trans (hb2.mono HB1.out.size)); clear hb2))
          go_ret
          exact ⟨ret_bool HV.out.symm, HB2.out⟩
        · have HV : Hid (colB d f ss cs k = false) := Lib.hid (by unfold colB; rw [HCL.out, decide_eq_false hk, Bool.and_false, Bool.and_false])
          have ek : ((m : Int) == (k : Int)) = false := by simp; omega
          clear ho hk
          go_wp2_with (first | (go_at_call 47; refine (sCardOk_any _ _ _ _ _ _ _ HL.out hm HR.out).mono ?_; rw [HO.out]; rintro e w1 ⟨rfl, hb1⟩; have HR1 := Lib.hid (HR.out.below hb1); have HB1 := Lib.hid (HB0.out.trans (hb1.mono HB0.out.size)); obtain ⟨d0, d1, d2⟩ := box3 hb1; clear hb1) | (go_at_call 14; refine (sCountFaces_any d f _ n _ ss F k _ HF.out HL.out hm HR1.out).mono ?_; rintro e w2 ⟨rfl, hb2⟩; have HB2 := Lib.hid (HB1.out.trans (hb2.mono HB1.out.size)); clear hb2))
          go_ret
          exact ⟨ret_bool HV.out.symm, HB2.out⟩
end Go.Proofs.Yteojoifhmaoiaaa
