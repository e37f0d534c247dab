/-
  Contracts of LostPages in the program and in the reference.
  By an AI agent.
-/
import Derived.Test.YtjnjlpljakkakaaFrom
namespace Go.Proofs.Ytjnjlpljakkakaa
open Go.ChangeShapes Go.WideShapes Go.ChangeAt Go.RowKit Go.Joins Go.Deep
set_option maxRecDepth 100000
set_option linter.unusedVariables false

open Classical in
noncomputable def lpR (n : Nat) (L : Rows) : List Int := if storyOk n L then fl (fun k => !decide (k = 0 ∨ Path L 0 k)) n else []
open Classical in
theorem lpR_no {n : Nat} {L : Rows} (h : ¬ storyOk n L) : lpR n L = [] := by unfold lpR; rw [if_neg h]
open Classical in
theorem lpR_yes {n : Nat} {L : Rows} (h : storyOk n L) {P : Nat → Bool} (hP : ∀ k, k < n → (P k = false ↔ (k = 0 ∨ Path L 0 k))) : lpR n L = fl P n := by
  unfold lpR; rw [if_pos h]
  refine fl_congr fun k hk => ?_
  have := hP k hk
  cases e : P k
  · rw [decide_eq_true (this.1 e)]; rfl
  · rw [decide_eq_false (fun h => by have := this.2 h; rw [e] at this; cases this)]; rfl
open Classical in
theorem lpR_len (n : Nat) (L : Rows) : (lpR n L).length ≤ 16 := by
  unfold lpR; split
  · rename_i h; exact Nat.le_trans (fl_len _ _) h.1.2
  · simp
theorem reach_lp (a : Option Addr) (n c : Nat) (L : Rows) (w : World) (hs : storyOk n L) (hR : RSt w a n L) :
    Calls Try.prog 41 #[.agg #[.slice a n c]] w fun e w' => ∃ (g c' F A u : Nat), e = .returned (.slice (some ⟨g, 0, none⟩) n c') ∧ w'.cell? ⟨g, 0, none⟩ = some (.int .i64 (F : Int)) ∧ bits .or .i64 (F : Int) 1 = (A : Int) ∧ A < 2 ^ n ∧ u = 2 ^ n - 1 - A ∧ u < 65536 ∧ lpR n L = fl (fun k => u.testBit k) n ∧ Below w.heap.size w w' := by
  obtain ⟨n1, n16⟩ := hs.1
  refine (reach_any a n c L w hs hR).mono ?_
  rintro e w2 ⟨g, c2, f, rfl, hr, hf, b2⟩
  have hf0 := (hf 0 n1).1
  have hb : ∀ k, (f 0 ||| 1).testBit k = true ↔ (k = 0 ∨ Path L 0 k) := fun k => by
    rw [Nat.testBit_or, Bool.or_eq_true, (hf 0 n1).2 k, show (1 : Nat) = 2 ^ 0 from rfl, Nat.testBit_two_pow]
    simp only [decide_eq_true_eq]
    constructor
    · rintro (h | h)
      · exact .inr h
      · exact .inl h.symm
    · rintro (h | h)
      · exact .inr h.symm
      · exact .inl h
  have hA : f 0 ||| 1 < 2 ^ n := Nat.lt_pow_two_of_testBit _ fun k hk => by
    cases e : (f 0 ||| 1).testBit k
    · rfl
    · rcases (hb k).1 e with h | h
      · omega
      · have := h.lt hs n1; omega
  have hp : 2 ^ n ≤ 65536 := Nat.pow_le_pow_right (n := 2) (by omega) n16
  refine ⟨g, c2, f 0, f 0 ||| 1, 2 ^ n - 1 - (f 0 ||| 1), rfl, hr.cell n1, or_i64 _ 1 hf0 (by omega), hA, rfl, by omega, lpR_yes hs (fun k hk => ?_), b2⟩
  rw [show 2 ^ n - 1 - (f 0 ||| 1) = 2 ^ n - ((f 0 ||| 1) + 1) by omega, Nat.testBit_two_pow_sub_succ hA, ← hb k, decide_eq_true hk]
  generalize (f 0 ||| 1).testBit k = b
  cases b <;> decide
/-- l24Bits where its list is known. -/
theorem lost_num {n A u : Nat} (hn : n ≤ 16) (hA : A < 2 ^ n) (hu : u = 2 ^ n - 1 - A) : IntKind.i64.wrap (IntKind.i64.wrap (IntKind.i64.wrap (2 ^ n) - 1) - (A : Int)) = (u : Int) := by
  have hp : 2 ^ n ≤ 65536 := Nat.pow_le_pow_right (n := 2) (by omega) hn
  have e : ((2 : Int) ^ n) = ((2 ^ n : Nat) : Int) := by norm_cast
  rw [e]
  generalize 2 ^ n = P at *
  rw [show IntKind.i64.wrap (P : Int) = P from IntWalk.i64_in _ (by omega), show IntKind.i64.wrap ((P : Int) - 1) = (P : Int) - 1 from IntWalk.i64_in _ (by omega), show IntKind.i64.wrap ((P : Int) - 1 - A) = (P : Int) - 1 - A from IntWalk.i64_in _ (by omega)]
  omega
set_option maxHeartbeats 4000000 in
theorem sLostPages_any (a : Option Addr) (n c : Nat) (L : Rows) (w : World) (hm : n ≤ 1048576) (hms : ∀ i, i < n → lenN L i ≤ 1048576) (hR : RSt w a n L) :
    Calls Try.prog 24 #[.agg #[.slice a n c]] w (GetL (lpR n L) w) := by
  have HM := Lib.hid hms
  have hb0 := Below.box w (.cells #[.slice a n c] 27 (0, 0))
  have HB0 := Lib.hid hb0
  have HR := Lib.hid (hR.below hb0)
  have cP : (w.alloc (.cells #[.slice a n c] 27 (0, 0))).cell? ⟨w.heap.size, 0, none⟩ = some (.slice a n c) := new_cell rfl
  clear hR hms hb0
  go_enter Try.func24, Try.ntmps24
  go_wp2_with fail
  refine (sStoryOk_any _ _ _ L _ hm HM.out HR.out).mono ?_
  rintro e w1 ⟨rfl, b1⟩
  replace cP := (b1.cell (p := ⟨w.heap.size, 0, none⟩) (World.block_lt_of_cell? _ _ cP)).trans cP
  have HR1 := Lib.hid (HR.out.below b1)
  have HB1 := Lib.hid (HB0.out.trans (b1.mono HB0.out.size))
  clear b1
  cases hsb : storyB n L
  · have HV : Hid (lpR n L = []) := Lib.hid (lpR_no (fun h => by rw [storyB_t h] at hsb; cases hsb))
    clear hsb
    go_wp2
    go_ret
    exact GetL.nil HV.out (HB1.out.alloc HB1.out.size _) _ _
  · have HS := Lib.hid (storyB_iff.1 hsb)
    obtain ⟨n1, n16⟩ := HS.out.1
    clear hsb
    have j2 : ¬ ((n : Int) < 0) := by omega
    have j3 : (0 : Int) < (n : Int) := by omega
    have j4 : 0 < n := by omega
    have HSd : Hid (OneC w1 w.heap.size (.slice a n c) w1.drew) := Lib.hid ⟨cP, Lib.hid (Below.refl _ _).drew⟩
    go_wp2
    go_region_law (first | (go_simp; go_at_call 41; refine (reach_lp _ _ _ L _ HS.out (HR1.out.below (Below.refl _ _).drew)).mono ?_; rintro e w2 ⟨g, c2, F, A, u, rfl, c5, e5, hA, hu, hu2, hf5, b2⟩; have hS2 := Lib.hid (OneC.next HSd.out b2); have HL5 := Lib.hid hu2; have HF5 := Lib.hid hf5; have E5 := Lib.hid e5; have HA := Lib.hid hA; have HU := Lib.hid hu; clear b2 hu hf5 e5 hA hu2) | (go_simp; go_at_call 43; refine (bits_as _ u _ _ _ (by rw [E5.out]; exact lost_num n16 HA.out HU.out) HL5.out n16 HF5.out).mono ?_; rintro e w3 ⟨aO, cO, rfl, rO, fO, b3⟩; have hS3 := Lib.hid (OneC.next hS2.out b3); have RO := Lib.hid rO; have FO := Lib.hid (fO.mono (HB1.out.trans (hS2.out.2.out.mono HB1.out.size)).size); clear rO fO b3))
    all_goals
      have HX := Lib.hid (HB1.out.trans (hS3.out.2.out.mono HB1.out.size))
      clear HSd cP c5 hS2 hS3
      try go_wp2
      go_ret
      exact ⟨_, _, rfl, RO.out, FO.out, HX.out⟩
set_option maxHeartbeats 2000000 in
theorem iLostPages_any (a : Option Addr) (n c : Nat) (L : Rows) (w : World) (hm : n ≤ 1048576) (hms : ∀ i, i < n → lenN L i ≤ 1048576) (hR : RSt w a n L) :
    Calls Try.prog 25 #[.agg #[.slice a n c]] w (GetL (lpR n L) w) := by
  have HM := Lib.hid hms
  have hb0 := Below.box w (.cells #[.slice a n c] 27 (0, 0))
  have HB0 := Lib.hid hb0
  have HR := Lib.hid (hR.below hb0)
  have cP : (w.alloc (.cells #[.slice a n c] 27 (0, 0))).cell? ⟨w.heap.size, 0, none⟩ = some (.slice a n c) := new_cell rfl
  clear hR hms hb0
  go_enter Try.func25, Try.ntmps25
  go_wp2_with fail
  refine (iStoryOk_any _ _ _ L _ hm HM.out HR.out).mono ?_
  rintro e w1 ⟨rfl, b1⟩
  replace cP := (b1.cell (p := ⟨w.heap.size, 0, none⟩) (World.block_lt_of_cell? _ _ cP)).trans cP
  have HR1 := Lib.hid (HR.out.below b1)
  have HB1 := Lib.hid (HB0.out.trans (b1.mono HB0.out.size))
  clear b1
  cases hsb : storyB n L
  · have HV : Hid (lpR n L = []) := Lib.hid (lpR_no (fun h => by rw [storyB_t h] at hsb; cases hsb))
    clear hsb
    go_wp2
    go_ret
    exact GetL.nil HV.out HB1.out _ _
  · have HS := Lib.hid (storyB_iff.1 hsb)
    obtain ⟨n1, n16⟩ := HS.out.1
    clear hsb
    go_wp2_with (first | (go_at_call 42; refine (pagesFrom_any _ _ _ L 0 _ HS.out n1 HR1.out).mono ?_; rintro e w2 ⟨g0, T, rfl, hr, hT, _, b2⟩; have HRT := Lib.hid hr; have HF5 := Lib.hid (lpR_yes HS.out (P := fun k => T k == false) (fun k _ => by rw [← hT k]; simp)); have HB2 := Lib.hid (HB1.out.trans (b2.mono HB1.out.size)); clear hr hT b2) | (go_at_call 44; refine (marked_any _ _ _ T false _ n16 HRT.out).mono ?_; rw [← HF5.out]; rintro e w3 ⟨aO, cO, rfl, rO, fO, b3⟩; have RO := Lib.hid rO; have FO := Lib.hid (fO.mono HB2.out.size); have HB3 := Lib.hid (HB2.out.trans (b3.mono HB2.out.size)); clear rO fO b3))
    go_ret
    exact ⟨_, _, rfl, RO.out, FO.out, HB3.out⟩
end Go.Proofs.Ytjnjlpljakkakaa
