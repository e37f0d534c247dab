/-
  WeakestStrip in the program and in the reference.
  By an AI agent.
-/
import Derived.Test.YteghmdfiofbmiaaWeak
namespace Go.Proofs.Yteghmdfiofbmiaa
open Go.ChangeShapes Go.WideShapes Go.ChangeAt Go.RowKit Go.Joins Go.Deep
set_option maxRecDepth 100000
set_option linter.unusedVariables false

def weakOf (d f : Int) (ss : List ByteArray) (k g s o : Int) : Int := if copyOkB d f ss k g s o = true then ((wk ss ss.length : Nat) : Int) else -1
theorem copy_card {d f : Int} {ss : List ByteArray} {k g s o : Int} (h : copyOkB d f ss k g s o = true) : cardOkB d f ss = true := by
  unfold copyOkB at h; simp only [Bool.and_eq_true] at h; exact h.1
theorem card_len {d f : Int} {ss : List ByteArray} (h : cardOkB d f ss = true) : 1 ≤ ss.length := by
  obtain ⟨⟨q1, q2⟩, ha⟩ := cardOk_iff.1 h
  omega
theorem sWeakestStrip_any (d f : Int) (a : Option Addr) (n c : Nat) (ss : List ByteArray) (k g s o : Int) (w : World) (hl : ss.length = n) (hm : (n : Int) + tot ss n ≤ 1048576) (hR : SlR w a n (sc ss)) :
    Calls Try.prog 86 #[.agg #[.int .i64 d, .int .i64 f, .slice a n c, .int .i64 k, .int .i64 g, .int .i64 s, .int .i64 o]] w fun e w' => e = .returned (.int .i64 (weakOf d f ss k g s o)) ∧ Below w.heap.size w w' := by
  have HB := Lib.hid (Below.box w (.cells #[.int .i64 d, .int .i64 f, .slice a n c, .int .i64 k, .int .i64 g, .int .i64 s, .int .i64 o] 74 (0, 0)))
  have HR := Lib.hid (hR.below HB.out)
  have HL := Lib.hid hl
  clear hR hl
  unfold weakOf
  cases ho : copyOkB d f ss k g s o
  · have HO := Lib.hid ho
    clear ho
    go_enter Try.func86, Try.ntmps86
    go_wp2_with (go_at_call 112; refine (sCopyOk_any _ _ _ _ _ _ _ _ _ _ _ HL.out hm HR.out).mono ?_; rw [HO.out]; rintro e w' ⟨rfl, hb⟩)
    go_ret
    exact ⟨rfl, HB.out.trans (hb.mono HB.out.size)⟩
  · have HO := Lib.hid ho
    clear ho
    go_enter Try.func86, Try.ntmps86
    go_wp2_with (go_at_call 112; refine (sCopyOk_any _ _ _ _ _ _ _ _ _ _ _ HL.out hm HR.out).mono ?_; rw [HO.out]; rintro e w1 ⟨rfl, hb⟩; have HB1 := Lib.hid hb; clear hb)
    go_loopw [3, 4] (fun p i wr => ∃ j : Nat, j ≤ n ∧ i = .int .i64 j ∧ p = .int .i64 (wk ss j : Nat) ∧ Below (w.alloc (.cells #[.int .i64 d, .int .i64 f, .slice a n c, .int .i64 k, .int .i64 g, .int .i64 s, .int .i64 o] 74 (0, 0))).heap.size (w.alloc (.cells #[.int .i64 d, .int .i64 f, .slice a n c, .int .i64 k, .int .i64 g, .int .i64 s, .int .i64 o] 74 (0, 0))) wr) (fun _ i _ => n - (intOf i).toNat)
    case atStart => exact ⟨0, Nat.zero_le _, rfl, rfl, HB1.out⟩
    case round =>
      obtain ⟨j, hj, rfl, rfl, hBw⟩ := hrel
      have HBw := Lib.hid hBw
      obtain ⟨b0, b1, b2, b3, b4, b5, b6⟩ := box7 hBw
      clear b0 b1 b3 b4 b5 b6 hBw
      by_cases hlt : j < n
      · obtain ⟨ga, rfl, hr⟩ := (HR.out.below HBw.out).row (by omega)
        have hwl := (wk_le ss j).1
        have hwn : wk ss j < n := by omega
        have c0 := hr.cell hlt
        have c1 := hr.cell hwn
        have z0 := tot_at ss hlt
        have z1 := tot_at ss hwn
        unfold sc at c0 c1
        clear hr
        have i0 : (0 : Int) ≤ (j : Int) := Int.natCast_nonneg _
        have i1 : (j : Int) < (n : Int) := by omega
        have i2 : (0 : Int) ≤ ((wk ss j : Nat) : Int) := Int.natCast_nonneg _
        have i3 : ((wk ss j : Nat) : Int) < (n : Int) := by omega
        have HF : Hid (fo ss j = folds (ss.getD j ByteArray.empty) ∧ fo ss (wk ss j) = folds (ss.getD (wk ss j) ByteArray.empty)) := Lib.hid ⟨rfl, rfl⟩
        have hSd : C3 wr w.heap.size 2 (.slice (some ⟨ga, 0, none⟩) n c) ga j (.string (ss.getD j ByteArray.empty)) ga (wk ss j) (.string (ss.getD (wk ss j) ByteArray.empty)) wr.drew := ⟨⟨b2, c0, c1⟩, Lib.hid (Below.refl _ _).drew⟩
        have HSd := Lib.hid hSd
        clear hSd
        by_cases hmo : fo ss (wk ss j) < fo ss j
        · have E1 := Lib.hid (wk_yes hmo)
          rw [HF.out.1, HF.out.2] at hmo
          clear HF
          generalize ss.getD j ByteArray.empty = q1 at c0 z0 hmo HSd
          generalize ss.getD (wk ss j) ByteArray.empty = q2 at c1 z1 hmo HSd
          go_wp2
          go_region_held3 (fun w' => (w'.cell? ⟨w.heap.size, 2, none⟩ = some (.slice (some ⟨ga, 0, none⟩) n c) ∧ w'.cell? ⟨ga, j, none⟩ = some (.string q1) ∧ w'.cell? ⟨ga, wk ss j, none⟩ = some (.string q2)) ∧ Hid (Below wr.heap.size wr w'))
            (first | exact HSd.out | exact hS2.out | (go_keep; done))
            (first | (go_at_call 88; refine (sCountFolds_any _ _ (by omega)).mono ?_; rintro e w2 ⟨rfl, hb2⟩; have hS2 := Lib.hid (C3.next (W := wr) (b1 := w.heap.size) (o1 := 2) (v1 := .slice (some ⟨ga, 0, none⟩) n c) (b2 := ga) (o2 := j) (v2 := .string q1) (b3 := ga) (o3 := wk ss j) (v3 := .string q2) (by assumption) hb2)))
          have HX := Lib.hid (HBw.out.trans (hS2.out.2.out.mono HBw.out.size))
          go_wp2
          go_roundw
          case rel => exact ⟨j + 1, by omega, by go_num, by rw [E1.out], HX.out⟩
          case measure => simp [intOf]; omega
        · have E1 := Lib.hid (wk_no hmo)
          rw [HF.out.1, HF.out.2] at hmo
          clear HF
          generalize ss.getD j ByteArray.empty = q1 at c0 z0 hmo HSd
          generalize ss.getD (wk ss j) ByteArray.empty = q2 at c1 z1 hmo HSd
          go_wp2
          go_region_held3 (fun w' => (w'.cell? ⟨w.heap.size, 2, none⟩ = some (.slice (some ⟨ga, 0, none⟩) n c) ∧ w'.cell? ⟨ga, j, none⟩ = some (.string q1) ∧ w'.cell? ⟨ga, wk ss j, none⟩ = some (.string q2)) ∧ Hid (Below wr.heap.size wr w'))
            (first | exact HSd.out | exact hS2.out | (go_keep; done))
            (first | (go_at_call 88; refine (sCountFolds_any _ _ (by omega)).mono ?_; rintro e w2 ⟨rfl, hb2⟩; have hS2 := Lib.hid (C3.next (W := wr) (b1 := w.heap.size) (o1 := 2) (v1 := .slice (some ⟨ga, 0, none⟩) n c) (b2 := ga) (o2 := j) (v2 := .string q1) (b3 := ga) (o3 := wk ss j) (v3 := .string q2) (by assumption) hb2)))
          have HX := Lib.hid (HBw.out.trans (hS2.out.2.out.mono HBw.out.size))
          go_wp2
          go_roundw
          case rel => exact ⟨j + 1, by omega, by go_num, by rw [E1.out], HX.out⟩
          case measure => simp [intOf]; omega
      · have hk' : j = n := by omega
        subst hk'
        go_wp2
        go_ret
        exact ⟨by rw [HL.out]; rfl, HB.out.trans (HBw.out.mono HB.out.size)⟩
end Go.Proofs.Yteghmdfiofbmiaa
