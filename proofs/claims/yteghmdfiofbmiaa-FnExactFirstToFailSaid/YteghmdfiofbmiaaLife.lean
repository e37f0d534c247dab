/-
  The life of a copy: contracts of LifeOf in the program and in the reference.
  By an AI agent.
-/
import Derived.Test.YteghmdfiofbmiaaWeakS
import Derived.Lib.MinMax
import Derived.Deep.RegionHeld3
namespace Go.Proofs.Yteghmdfiofbmiaa
open Go.ChangeShapes Go.WideShapes Go.ChangeAt Go.RowKit Go.Joins Go.Deep
set_option maxRecDepth 100000
set_option linter.unusedVariables false

def lifeOf (d f : Int) (ss : List ByteArray) (k g s o : Int) : Int := if copyOkB d f ss k g s o = true then (foldsOf k g s true) / max (mo ss ss.length) 1 else -1
theorem copy_paper {d f : Int} {ss : List ByteArray} {k g s o : Int} (h : copyOkB d f ss k g s o = true) : paperOkB k g s = true := by
  unfold copyOkB at h; simp only [Bool.and_eq_true] at h; exact h.2.1
theorem folds_bd {k g s : Int} (h : paperOkB k g s = true) : 0 ≤ foldsOf k g s true ∧ foldsOf k g s true ≤ 40000 := by
  obtain ⟨h1, h2, h3, h4, h5, h6⟩ := paperOk_iff.1 h
  have H1 : 0 ≤ 40000 / g := Int.ediv_nonneg (by omega) (by omega)
  have H2 : 40000 / g ≤ 40000 := Int.ediv_le_self g (by omega)
  unfold foldsOf; rw [h]; simp only [if_true]; omega
theorem quo_bd {F M : Int} (h0 : 0 ≤ F) (h1 : F ≤ 40000) (hM : 1 ≤ M) : 0 ≤ F / M ∧ F / M ≤ 40000 ∧ F.tdiv M = F / M := by
  refine ⟨Int.ediv_nonneg h0 (by omega), ?_, Int.tdiv_eq_ediv_of_nonneg h0⟩
  have := Int.ediv_le_self M h0
  omega
theorem iLifeOf_any (d f : Int) (a : Option Addr) (n c : Nat) (ss : List ByteArray) (k g s o : Int) (w : World) (hl : ss.length = n) (hm : (n : Int) + tot ss n ≤ 1048576) (hR : SlR w a n (sc ss)) :
    Calls Try.prog 50 #[.agg #[.int .i64 d, .int .i64 f, .slice a n c, .int .i64 k, .int .i64 g, .int .i64 s, .int .i64 o]] w fun e w' => e = .returned (.int .i64 (lifeOf d f ss k g s o)) ∧ Below w.heap.size w w' := by
  have HB := Lib.hid (Below.box w (.cells #[.int .i64 d, .int .i64 f, .slice a n c, .int .i64 k, .int .i64 g, .int .i64 s, .int .i64 o] 74 (0, 0)))
  have HR := Lib.hid (hR.below HB.out)
  have HL := Lib.hid hl
  clear hR hl
  unfold lifeOf
  cases ho : copyOkB d f ss k g s o
  · have HO := Lib.hid ho
    clear ho
    go_enter Try.func50, Try.ntmps50
    go_wp2_with (go_at_call 91; refine (iCopyOk_any _ _ _ _ _ _ _ _ _ _ _ HL.out hm HR.out).mono ?_; rw [HO.out]; rintro e w' ⟨rfl, hb⟩)
    go_ret
    exact ⟨rfl, HB.out.trans (hb.mono HB.out.size)⟩
  · have HO := Lib.hid ho
    obtain ⟨f0, f1⟩ := folds_bd (copy_paper ho)
    clear ho
    obtain ⟨F, hF⟩ : ∃ F, foldsOf k g s true = F := ⟨_, rfl⟩
    obtain ⟨M, hM⟩ : ∃ M, mo ss n = M := ⟨_, rfl⟩
    rw [hF] at f0 f1
    have HF := Lib.hid hF
    have HM := Lib.hid hM
    clear hF hM
    have m1 : 1 ≤ max M 1 := by omega
    obtain ⟨q0, q1, q2⟩ := quo_bd f0 f1 m1
    rw [HL.out, HM.out, HF.out]
    generalize hX : max M 1 = X at m1 q0 q1 q2
    have s1 : IntKind.i64.wrap (F / X) = F / X := IntWalk.i64_in _ (by omega)
    go_enter Try.func50, Try.ntmps50
    go_wp2_with (first | (go_at_call 91; refine (iCopyOk_any _ _ _ _ _ _ _ _ _ _ _ HL.out hm HR.out).mono ?_; rw [HO.out]; rintro e w1 ⟨rfl, hb⟩; have HB1 := Lib.hid hb; obtain ⟨b0, b1, b2, b3, b4, b5, b6⟩ := box7 hb; clear hb) | (go_at_call 92; refine (iweakest_any _ _ _ _ _ _ _ HL.out hm (HR.out.below HB1.out) (copy_card HO.out)).mono ?_; rw [HM.out]; rintro e w2 ⟨rfl, hb2⟩; have HB2 := Lib.hid (HB1.out.trans (hb2.mono HB1.out.size)); clear b0 b1 b2 b3 b4 b5 b6 hb2; obtain ⟨b0, b1, b2, b3, b4, b5, b6⟩ := box7 HB2.out) | (go_at_call 93; refine (iFoldsAllowed_any _ _ _ _ _).mono ?_; rw [HF.out]; rintro e w3 ⟨rfl, hb3⟩))
    go_ret
    exact ⟨rfl, HB.out.trans ((HB2.out.trans (hb3.mono HB2.out.size)).mono HB.out.size)⟩
/-- Five cells, and nothing below W's size turned. -/
def C5 (W : World) (b o1 o2 o3 o4 : Nat) (v1 v2 v3 v4 : Value) (b5 o5 : Nat) (v5 : Value) (w' : World) : Prop :=
  (w'.cell? ⟨b, o1, none⟩ = some v1 ∧ w'.cell? ⟨b, o2, none⟩ = some v2 ∧ w'.cell? ⟨b, o3, none⟩ = some v3 ∧ w'.cell? ⟨b, o4, none⟩ = some v4 ∧ w'.cell? ⟨b5, o5, none⟩ = some v5) ∧ Hid (Below W.heap.size W w')
theorem C5.next {W w1 w2 : World} {b o1 o2 o3 o4 : Nat} {v1 v2 v3 v4 : Value} {b5 o5 : Nat} {v5 : Value} (h : C5 W b o1 o2 o3 o4 v1 v2 v3 v4 b5 o5 v5 w1) (hb : Below w1.heap.size w1 w2) : C5 W b o1 o2 o3 o4 v1 v2 v3 v4 b5 o5 v5 w2 := by
  obtain ⟨⟨c1, c2, c3, c4, c5⟩, hB⟩ := h
  have l1 : b < w1.heap.size := World.block_lt_of_cell? _ _ c1
  have l5 : b5 < w1.heap.size := World.block_lt_of_cell? _ _ c5
  exact ⟨⟨(hb.cell (p := ⟨b, o1, none⟩) l1).trans c1, (hb.cell (p := ⟨b, o2, none⟩) l1).trans c2, (hb.cell (p := ⟨b, o3, none⟩) l1).trans c3, (hb.cell (p := ⟨b, o4, none⟩) l1).trans c4, (hb.cell (p := ⟨b5, o5, none⟩) l5).trans c5⟩, Lib.hid (hB.out.trans (hb.mono hB.out.size))⟩
theorem mo_fo {ss : List ByteArray} {n : Nat} (h : 1 ≤ n) : mo ss n = fo ss (wk ss n) := by
  cases n with
  | zero => omega
  | succ n => rfl
theorem sLifeOf_any (d f : Int) (a : Option Addr) (n c : Nat) (ss : List ByteArray) (k g s o : Int) (w : World) (hl : ss.length = n) (hm : (n : Int) + tot ss n ≤ 1048576) (hR : SlR w a n (sc ss)) :
    Calls Try.prog 48 #[.agg #[.int .i64 d, .int .i64 f, .slice a n c, .int .i64 k, .int .i64 g, .int .i64 s, .int .i64 o]] w fun e w' => e = .returned (.int .i64 (lifeOf d f ss k g s o)) ∧ Below w.heap.size w w' := by
  have HB := Lib.hid (Below.box w (.cells #[.int .i64 d, .int .i64 f, .slice a n c, .int .i64 k, .int .i64 g, .int .i64 s, .int .i64 o] 74 (0, 0)))
  have HR := Lib.hid (hR.below HB.out)
  have HL := Lib.hid hl
  clear hR hl
  unfold lifeOf
  cases ho : copyOkB d f ss k g s o
  · have HO : Hid (weakOf d f ss k g s o = -1) := Lib.hid (by unfold weakOf; rw [ho]; rfl)
    clear ho
    go_enter Try.func48, Try.ntmps48
    go_wp2_with (go_at_call 86; refine (sWeakestStrip_any _ _ _ _ _ _ _ _ _ _ _ HL.out hm HR.out).mono ?_; rw [HO.out]; rintro e w' ⟨rfl, hb⟩)
    go_ret
    exact ⟨rfl, HB.out.trans (hb.mono HB.out.size)⟩
  · have HO : Hid (weakOf d f ss k g s o = ((wk ss n : Nat) : Int)) := Lib.hid (by unfold weakOf; rw [ho, HL.out]; rfl)
    obtain ⟨f0, f1⟩ := folds_bd (copy_paper ho)
    have n1 := card_len (copy_card ho)
    rw [HL.out] at n1
    have hwn : wk ss n < n := (wk_le ss n).2 n1
    clear ho
    obtain ⟨F, hF⟩ : ∃ F, foldsOf k g s true = F := ⟨_, rfl⟩
    obtain ⟨M, hM⟩ : ∃ M, mo ss n = M := ⟨_, rfl⟩
    rw [hF] at f0 f1
    have HF := Lib.hid hF
    have HM : Hid (folds (ss.getD (wk ss n) ByteArray.empty) = M) := Lib.hid (by rw [← hM, mo_fo n1]; rfl)
    rw [HL.out, HF.out, hM, Int.max_comm]
    clear hF hM
    have m1 : 1 ≤ max 1 M := by omega
    obtain ⟨q0, q1, q2⟩ := quo_bd f0 f1 m1
    have z1 := tot_at ss hwn
    have i2 : (0 : Int) ≤ ((wk ss n : Nat) : Int) := Int.natCast_nonneg _
    have i3 : ((wk ss n : Nat) : Int) < (n : Int) := by omega
    generalize hX : max 1 M = X at m1 q0 q1 q2
    have s1 : IntKind.i64.wrap (F / X) = F / X := IntWalk.i64_in _ (by omega)
    have s2 : IntKind.i64.wrap (F.tdiv X) = F / X := by rw [q2]; exact s1
    have x0 : X ≠ 0 := by omega
    have x1 : (X == 0) = false := by simpa using x0
    obtain ⟨ga, rfl, hr⟩ := HR.out.row (by omega)
    go_enter Try.func48, Try.ntmps48
    go_wp2_with (go_at_call 86; refine (sWeakestStrip_any _ _ _ _ _ _ _ _ _ _ _ HL.out hm HR.out).mono ?_; rw [HO.out]; rintro e w1 ⟨rfl, hb⟩; have HB1 := Lib.hid hb; obtain ⟨b0, b1, b2, b3, b4, b5, b6⟩ := box7 hb; clear hb b0 b1 b6)
    have c1 := (hr.below HB1.out hr.lt).cell hwn
    unfold sc at c1
    clear hr
    generalize ss.getD (wk ss n) ByteArray.empty = q1 at c1 z1 HM
    have hSd : C5 w1 w.heap.size 2 3 4 5 (.slice (some ⟨ga, 0, none⟩) n c) (.int .i64 k) (.int .i64 g) (.int .i64 s) ga (wk ss n) (.string q1) w1.drew := ⟨⟨b2, b3, b4, b5, c1⟩, Lib.hid (Below.refl _ _).drew⟩
    have HSd := Lib.hid hSd
    clear hSd
    go_region_held3 (fun w' => (w'.cell? ⟨w.heap.size, 2, none⟩ = some (.slice (some ⟨ga, 0, none⟩) n c) ∧ w'.cell? ⟨w.heap.size, 3, none⟩ = some (.int .i64 k) ∧ w'.cell? ⟨w.heap.size, 4, none⟩ = some (.int .i64 g) ∧ w'.cell? ⟨w.heap.size, 5, none⟩ = some (.int .i64 s) ∧ w'.cell? ⟨ga, wk ss n, none⟩ = some (.string q1)) ∧ Hid (Below w1.heap.size w1 w'))
      (first | exact HSd.out | exact hS2.out | (go_keep; done))
      (first | (go_at_call 88; refine (sCountFolds_any _ _ (by omega)).mono ?_; rw [HM.out]; rintro e w2 ⟨rfl, hb2⟩; have hS2 := Lib.hid (C5.next (W := w1) (b := w.heap.size) (o1 := 2) (o2 := 3) (o3 := 4) (o4 := 5) (v1 := .slice (some ⟨ga, 0, none⟩) n c) (v2 := .int .i64 k) (v3 := .int .i64 g) (v4 := .int .i64 s) (b5 := ga) (o5 := wk ss n) (v5 := .string q1) (by assumption) hb2)) | (go_at_call 87; refine (sFoldsAllowed_any _ _ _ _ _).mono ?_; rw [HF.out]; rintro e w2 ⟨rfl, hb2⟩; have hS2 := Lib.hid (C5.next (W := w1) (b := w.heap.size) (o1 := 2) (o2 := 3) (o3 := 4) (o4 := 5) (v1 := .slice (some ⟨ga, 0, none⟩) n c) (v2 := .int .i64 k) (v3 := .int .i64 g) (v4 := .int .i64 s) (b5 := ga) (o5 := wk ss n) (v5 := .string q1) (by assumption) hb2)))
    have HX := Lib.hid (HB1.out.trans (hS2.out.2.out.mono HB1.out.size))
    go_wp2
    go_ret
    exact ⟨rfl, HB.out.trans (HX.out.mono HB.out.size)⟩
end Go.Proofs.Yteghmdfiofbmiaa
