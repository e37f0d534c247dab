/-
  What is left of a copy's life: contracts of LeftOf in the program and in the reference.
  By an AI agent.
-/
import Derived.Test.YteghmdfiofbmiaaLife
namespace Go.Proofs.Yteghmdfiofbmiaa
open Go.ChangeShapes Go.WideShapes Go.ChangeAt Go.RowKit Go.Joins Go.Deep
set_option maxRecDepth 100000
set_option linter.unusedVariables false

/-- The seven cells of a copy's box and the row of its strips. -/
def C7 (W : World) (b : Nat) (v0 v1 v2 v3 v4 v5 v6 : Value) (a : Option Addr) (n : Nat) (q : Nat → Value) (w' : World) : Prop :=
  (w'.cell? ⟨b, 0, none⟩ = some v0 ∧ w'.cell? ⟨b, 1, none⟩ = some v1 ∧ w'.cell? ⟨b, 2, none⟩ = some v2 ∧ w'.cell? ⟨b, 3, none⟩ = some v3 ∧ w'.cell? ⟨b, 4, none⟩ = some v4 ∧ w'.cell? ⟨b, 5, none⟩ = some v5 ∧ w'.cell? ⟨b, 6, none⟩ = some v6) ∧ Hid (Below W.heap.size W w' ∧ SlR w' a n q)
theorem C7.next {W w1 w2 : World} {b : Nat} {v0 v1 v2 v3 v4 v5 v6 : Value} {a : Option Addr} {n : Nat} {q : Nat → Value} (h : C7 W b v0 v1 v2 v3 v4 v5 v6 a n q w1) (hb : Below w1.heap.size w1 w2) : C7 W b v0 v1 v2 v3 v4 v5 v6 a n q w2 := by
  obtain ⟨⟨c0, c1, c2, c3, c4, c5, c6⟩, hB⟩ := h
  have l : b < w1.heap.size := World.block_lt_of_cell? _ _ c0
  exact ⟨⟨(hb.cell (p := ⟨b, 0, none⟩) l).trans c0, (hb.cell (p := ⟨b, 1, none⟩) l).trans c1, (hb.cell (p := ⟨b, 2, none⟩) l).trans c2, (hb.cell (p := ⟨b, 3, none⟩) l).trans c3, (hb.cell (p := ⟨b, 4, none⟩) l).trans c4, (hb.cell (p := ⟨b, 5, none⟩) l).trans c5, (hb.cell (p := ⟨b, 6, none⟩) l).trans c6⟩, Lib.hid ⟨hB.out.1.trans (hb.mono hB.out.1.size), hB.out.2.below hb⟩⟩
def leftOf (d f : Int) (ss : List ByteArray) (k g s o : Int) : Int := if copyOkB d f ss k g s o = true then max (lifeOf d f ss k g s o - o) 0 else -1
theorem life_bd {d f : Int} {ss : List ByteArray} {k g s o : Int} (h : copyOkB d f ss k g s o = true) : 0 ≤ lifeOf d f ss k g s o ∧ lifeOf d f ss k g s o ≤ 40000 := by
  obtain ⟨f0, f1⟩ := folds_bd (copy_paper h)
  obtain ⟨q0, q1, _⟩ := quo_bd f0 f1 (show 1 ≤ max (mo ss ss.length) 1 by omega)
  unfold lifeOf; rw [if_pos h]; exact ⟨q0, q1⟩
theorem copy_open {d f : Int} {ss : List ByteArray} {k g s o : Int} (h : copyOkB d f ss k g s o = true) : 0 ≤ o ∧ o ≤ 1000000 := by
  unfold copyOkB at h; simp only [Bool.and_eq_true] at h
  have := h.2.2
  unfold inB at this
  simp only [Bool.and_eq_true, decide_eq_true_eq] at this
  omega
theorem sLeftOf_any (d f : Int) (a : Option Addr) (n c : Nat) (ss : List ByteArray) (k g s o : Int) (w : World) (hl : ss.length = n) (hm : (n : Int) + tot ss n ≤ 1048576) (hR : SlR w a n (sc ss)) :
    Calls Try.prog 96 #[.agg #[.int .i64 d, .int .i64 f, .slice a n c, .int .i64 k, .int .i64 g, .int .i64 s, .int .i64 o]] w fun e w' => e = .returned (.int .i64 (leftOf d f ss k g s o)) ∧ Below w.heap.size w w' := by
  have HB := Lib.hid (Below.box w (.cells #[.int .i64 d, .int .i64 f, .slice a n c, .int .i64 k, .int .i64 g, .int .i64 s, .int .i64 o] 74 (0, 0)))
  have HR := Lib.hid (hR.below HB.out)
  have HL := Lib.hid hl
  clear hR hl
  unfold leftOf
  cases ho : copyOkB d f ss k g s o
  · have HO : Hid (lifeOf d f ss k g s o = -1) := Lib.hid (by unfold lifeOf; rw [ho]; rfl)
    clear ho
    go_enter Try.func96, Try.ntmps96
    go_wp2_with (go_at_call 48; refine (sLifeOf_any _ _ _ _ _ _ _ _ _ _ _ HL.out hm HR.out).mono ?_; rw [HO.out]; rintro e w' ⟨rfl, hb⟩)
    go_ret
    exact ⟨rfl, HB.out.trans (hb.mono HB.out.size)⟩
  · obtain ⟨f0, f1⟩ := life_bd ho
    obtain ⟨o0, o1⟩ := copy_open ho
    clear ho
    obtain ⟨F, hF⟩ : ∃ F, lifeOf d f ss k g s o = F := ⟨_, rfl⟩
    rw [hF] at f0 f1
    rw [hF, Int.max_comm]
    have HF := Lib.hid hF
    clear hF
    have s1 : IntKind.i64.wrap (F - o) = F - o := IntWalk.i64_in _ (by omega)
    go_enter Try.func96, Try.ntmps96
    go_wp2_with (go_at_call 48; refine (sLifeOf_any _ _ _ _ _ _ _ _ _ _ _ HL.out hm HR.out).mono ?_; rw [HF.out]; rintro e w1 ⟨rfl, hb⟩; have HB1 := Lib.hid hb; obtain ⟨b0, b1, b2, b3, b4, b5, b6⟩ := box7 hb; clear hb)
    go_ret
    exact ⟨rfl, HB.out.trans (HB1.out.mono HB.out.size)⟩
theorem iLeftOf_any (d f : Int) (a : Option Addr) (n c : Nat) (ss : List ByteArray) (k g s o : Int) (w : World) (hl : ss.length = n) (hm : (n : Int) + tot ss n ≤ 1048576) (hR : SlR w a n (sc ss)) :
    Calls Try.prog 97 #[.agg #[.int .i64 d, .int .i64 f, .slice a n c, .int .i64 k, .int .i64 g, .int .i64 s, .int .i64 o]] w fun e w' => e = .returned (.int .i64 (leftOf d f ss k g s o)) ∧ Below w.heap.size w w' := by
  have HB := Lib.hid (Below.box w (.cells #[.int .i64 d, .int .i64 f, .slice a n c, .int .i64 k, .int .i64 g, .int .i64 s, .int .i64 o] 74 (0, 0)))
  have HR := Lib.hid (hR.below HB.out)
  have HL := Lib.hid hl
  clear hR hl
  unfold leftOf
  cases ho : copyOkB d f ss k g s o
  · have HO := Lib.hid ho
    clear ho
    go_enter Try.func97, Try.ntmps97
    go_wp2_with (go_at_call 91; refine (iCopyOk_any _ _ _ _ _ _ _ _ _ _ _ HL.out hm HR.out).mono ?_; rw [HO.out]; rintro e w' ⟨rfl, hb⟩)
    go_ret
    exact ⟨rfl, HB.out.trans (hb.mono HB.out.size)⟩
  · obtain ⟨f0, f1⟩ := life_bd ho
    obtain ⟨o0, o1⟩ := copy_open ho
    have HO := Lib.hid ho
    clear ho
    obtain ⟨F, hF⟩ : ∃ F, lifeOf d f ss k g s o = F := ⟨_, rfl⟩
    rw [hF] at f0 f1
    rw [hF]
    have HF := Lib.hid hF
    clear hF
    have s1 : IntKind.i64.wrap (F - o) = F - o := IntWalk.i64_in _ (by omega)
    go_enter Try.func97, Try.ntmps97
    go_wp2_with (go_at_call 91; refine (iCopyOk_any _ _ _ _ _ _ _ _ _ _ _ HL.out hm HR.out).mono ?_; rw [HO.out]; rintro e w1 ⟨rfl, hb⟩; have HB1 := Lib.hid hb; obtain ⟨b0, b1, b2, b3, b4, b5, b6⟩ := box7 hb; clear hb)
    have hSd : C7 w1 w.heap.size (.int .i64 d) (.int .i64 f) (.slice a n c) (.int .i64 k) (.int .i64 g) (.int .i64 s) (.int .i64 o) a n (sc ss) w1.drew := ⟨⟨b0, b1, b2, b3, b4, b5, b6⟩, Lib.hid ⟨(Below.refl _ _).drew, (HR.out.below HB1.out).below (Below.refl _ _).drew⟩⟩
    have HSd := Lib.hid hSd
    clear hSd
    go_region_held3 (fun w' => (w'.cell? ⟨w.heap.size, 0, none⟩ = some (.int .i64 d) ∧ w'.cell? ⟨w.heap.size, 1, none⟩ = some (.int .i64 f) ∧ w'.cell? ⟨w.heap.size, 2, none⟩ = some (.slice a n c) ∧ w'.cell? ⟨w.heap.size, 3, none⟩ = some (.int .i64 k) ∧ w'.cell? ⟨w.heap.size, 4, none⟩ = some (.int .i64 g) ∧ w'.cell? ⟨w.heap.size, 5, none⟩ = some (.int .i64 s) ∧ w'.cell? ⟨w.heap.size, 6, none⟩ = some (.int .i64 o)) ∧ Hid (Below w1.heap.size w1 w' ∧ SlR w' a n (sc ss)))
      (first | exact HSd.out | exact hS2.out | (go_keep; done))
      (first | (go_at_call 50; refine (iLifeOf_any d f a n c ss k g s o _ HL.out hm (show C7 w1 w.heap.size (.int .i64 d) (.int .i64 f) (.slice a n c) (.int .i64 k) (.int .i64 g) (.int .i64 s) (.int .i64 o) a n (sc ss) _ from by assumption).2.out.2).mono ?_; rw [HF.out]; rintro e w2 ⟨rfl, hb2⟩; have hS2 := Lib.hid (C7.next (show C7 w1 w.heap.size (.int .i64 d) (.int .i64 f) (.slice a n c) (.int .i64 k) (.int .i64 g) (.int .i64 s) (.int .i64 o) a n (sc ss) _ from by assumption) hb2); clear hb2))
    have HX := Lib.hid (HB1.out.trans (hS2.out.2.out.1.mono HB1.out.size))
    go_wp2
    go_ret
    exact ⟨rfl, HB.out.trans (HX.out.mono HB.out.size)⟩
end Go.Proofs.Yteghmdfiofbmiaa
