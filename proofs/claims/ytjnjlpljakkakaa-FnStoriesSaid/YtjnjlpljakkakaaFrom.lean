/-
  Contracts of ReachedFrom in the program and in the reference.
  By an AI agent.
-/
import Derived.Test.YtjnjlpljakkakaaBits
import Derived.Test.YtjnjlpljakkakaaEndless
import Derived.Deep.RegionLaw
namespace Go.Proofs.Ytjnjlpljakkakaa
open Go.ChangeShapes Go.WideShapes Go.ChangeAt Go.RowKit Go.Joins Go.Deep
set_option maxRecDepth 100000
set_option linter.unusedVariables false

/-- The cell at the head of a block, and nothing below W's size turned since W. -/
def OneC (W : World) (p : Nat) (x : Value) (w' : World) : Prop := w'.cell? ⟨p, 0, none⟩ = some x ∧ Hid (Below W.heap.size W w')
theorem OneC.next {W w1 w2 : World} {p : Nat} {x : Value} (h : OneC W p x w1) (hb : Below w1.heap.size w1 w2) : OneC W p x w2 := by
  obtain ⟨c0, hB⟩ := h
  exact ⟨(hb.cell (p := ⟨p, 0, none⟩) (World.block_lt_of_cell? _ _ c0)).trans c0, Lib.hid (hB.out.trans (hb.mono hB.out.size))⟩
open Classical in
noncomputable def rfR (n : Nat) (L : Rows) (p : Int) : List Int := if storyOk n L ∧ 0 ≤ p ∧ p ≤ (n : Int) - 1 then fl (fun k => decide (k = p.toNat ∨ Path L p.toNat k)) n else []
open Classical in
theorem rfR_no {n : Nat} {L : Rows} {p : Int} (h : ¬ storyOk n L ∨ p < 0 ∨ (n : Int) - 1 < p) : rfR n L p = [] := by
  unfold rfR; rw [if_neg]
  rintro ⟨a, b, c⟩
  rcases h with h | h | h
  · exact h a
  · omega
  · omega
open Classical in
theorem rfR_yes {n : Nat} {L : Rows} {p : Nat} (h : storyOk n L) (hp : p < n) {P : Nat → Bool} (hP : ∀ k, k < n → (P k = true ↔ (k = p ∨ Path L p k))) : rfR n L (p : Int) = fl P n := by
  unfold rfR; rw [if_pos ⟨h, by omega, by omega⟩]
  refine fl_congr fun k hk => ?_
  rw [Int.toNat_natCast]
  have := hP k hk
  cases e : P k
  · rw [e] at this
    exact decide_eq_false (fun h => by have := this.2 h; cases this)
  · exact decide_eq_true (this.1 e)
open Classical in
theorem rfR_len (n : Nat) (L : Rows) (p : Int) : (rfR n L p).length ≤ 16 := by
  unfold rfR; split
  · rename_i h; exact Nat.le_trans (fl_len _ _) h.1.1.2
  · simp
theorem reach_rf (a : Option Addr) (n c q : Nat) (L : Rows) (w : World) (hs : storyOk n L) (hR : RSt w a n L) (hq : q < n) :
    Calls Try.prog 41 #[.agg #[.slice a n c]] w fun e w' => ∃ (g c' F u : Nat), e = .returned (.slice (some ⟨g, 0, none⟩) n c') ∧ w'.cell? ⟨g, q, none⟩ = some (.int .i64 (F : Int)) ∧ bits .or .i64 (F : Int) (IntKind.i64.wrap (2 ^ q)) = (u : Int) ∧ u < 65536 ∧ rfR n L (q : Int) = fl (fun k => u.testBit k) n ∧ Below w.heap.size w w' := by
  have n16 := hs.1.2
  refine (reach_any a n c L w hs hR).mono ?_
  rintro e w2 ⟨g, c2, f, rfl, hr, hf, b2⟩
  have hfq := (hf q hq).1
  have e5 := or_pow _ _ hfq (show q < 16 by omega)
  refine ⟨g, c2, f q, f q ||| 2 ^ q, rfl, hr.cell hq, e5, or_lt _ _ hfq (pow_lt16 (n := 16) (show q < 16 by omega) (Nat.le_refl _)), rfR_yes hs hq (fun k _ => ?_), b2⟩
  rw [Nat.testBit_or, Bool.or_eq_true, (hf q hq).2 k, Nat.testBit_two_pow]
  simp only [decide_eq_true_eq]
  constructor
  · rintro (h | h)
    · exact .inr h
    · exact .inl h.symm
  · rintro (h | h)
    · exact .inr h.symm
    · exact .inl h
/-- l24Bits where its list is known. -/
theorem bits_as (v : Int) (u n : Nat) (R : List Int) (w : World) (hv : v = (u : Int)) (hs : u < 65536) (hn : n ≤ 16) (h : R = fl (fun k => u.testBit k) n) :
    Calls Try.prog 43 #[.int .i64 v, .int .i64 (n : Int)] w (GetL R w) := by rw [h, hv]; exact bits_any u n w hs hn
set_option maxHeartbeats 2000000 in
theorem sReachedFrom_any (a : Option Addr) (n c : Nat) (p : Int) (L : Rows) (w : World) (hm : n ≤ 1048576) (hms : ∀ i, i < n → lenN L i ≤ 1048576) (hR : RSt w a n L) :
    Calls Try.prog 18 #[.agg #[.slice a n c], .int .i64 p] w (GetL (rfR n L p) w) := by
  have HM := Lib.hid hms
  have hb0 := Below.box w (.cells #[.slice a n c] 27 (0, 0))
  have HB0 := Lib.hid hb0
  have HR := Lib.hid (hR.below hb0)
  have cP : (w.alloc (.cells #[.slice a n c] 27 (0, 0))).cell? ⟨w.heap.size, 0, none⟩ = some (.slice a n c) := new_cell rfl
  clear hR hms hb0
  go_enter Try.func18, Try.ntmps18
  go_wp2_with fail
  refine (sStoryOk_any _ _ _ L _ hm HM.out HR.out).mono ?_
  rintro e w1 ⟨rfl, b1⟩
  replace cP := (b1.cell (p := ⟨w.heap.size, 0, none⟩) (World.block_lt_of_cell? _ _ cP)).trans cP
  have HR1 := Lib.hid (HR.out.below b1)
  have HB1 := Lib.hid (HB0.out.trans (b1.mono HB0.out.size))
  clear b1
  cases hsb : storyB n L
  · have HV : Hid (rfR n L p = []) := Lib.hid (rfR_no (.inl (fun h => by rw [storyB_t h] at hsb; cases hsb)))
    clear hsb
    go_wp2
    go_ret
    exact GetL.nil HV.out (HB1.out.alloc HB1.out.size _) _ _
  · have HS := Lib.hid (storyB_iff.1 hsb)
    obtain ⟨n1, n16⟩ := HS.out.1
    clear hsb
    by_cases hp : 0 ≤ p ∧ p ≤ (n : Int) - 1
    · obtain ⟨p0, p1⟩ := hp
      obtain ⟨q, rfl⟩ : ∃ q : Nat, p = (q : Int) := ⟨p.toNat, by omega⟩
      have hq : q < n := by omega
      have j2 : ¬ ((q : Int) < 0) := by omega
      have j3 : (q : Int) < (n : Int) := by omega
      have HSd : Hid (OneC w1 w.heap.size (.slice a n c) w1.drew) := Lib.hid ⟨cP, Lib.hid (Below.refl _ _).drew⟩
      go_wp2_with (go_at_call 36; (first | refine (l01In_t _ _ _ _ (by omega) (by omega)).mono ?_ | refine (l01In_f _ _ _ _ (by omega)).mono ?_); rintro e w' ⟨rfl, rfl⟩)
      go_region_law (first | (go_simp; go_at_call 41; refine (reach_rf _ _ _ q L _ HS.out (HR1.out.below (Below.refl _ _).drew) hq).mono ?_; rintro e w2 ⟨g, c2, F, u, rfl, c5, e5, hu, hf5, b2⟩; have hS2 := Lib.hid (OneC.next HSd.out b2); have cP2 := hS2.out.1; have HL5 := Lib.hid hu; have HF5 := Lib.hid hf5; have E5 := Lib.hid e5; clear b2 hu hf5 e5) | (go_simp; go_at_call 43; refine (bits_as _ u _ _ _ E5.out HL5.out n16 HF5.out).mono ?_; rintro e w3 ⟨aO, cO, rfl, rO, fO, b3⟩; have hS3 := Lib.hid (OneC.next hS2.out b3); have RO := Lib.hid rO; have FO := Lib.hid (fO.mono (HB1.out.trans (hS2.out.2.out.mono HB1.out.size)).size); clear rO fO b3))
      all_goals
        have HX := Lib.hid (HB1.out.trans (hS3.out.2.out.mono HB1.out.size))
        clear HSd cP cP2 c5 hS2 hS3
        try go_wp2
        go_ret
        exact ⟨_, _, rfl, RO.out, FO.out, HX.out⟩
    · have hp' : p < 0 ∨ (n : Int) - 1 < p := by omega
      have HV : Hid (rfR n L p = []) := Lib.hid (rfR_no (.inr hp'))
      go_wp2_with (go_at_call 36; (first | refine (l01In_t _ _ _ _ (by omega) (by omega)).mono ?_ | refine (l01In_f _ _ _ _ (by omega)).mono ?_); rintro e w' ⟨rfl, rfl⟩)
      go_ret
      exact GetL.nil HV.out (HB1.out.alloc HB1.out.size _) _ _
set_option maxHeartbeats 2000000 in
theorem iReachedFrom_any (a : Option Addr) (n c : Nat) (p : Int) (L : Rows) (w : World) (hm : n ≤ 1048576) (hms : ∀ i, i < n → lenN L i ≤ 1048576) (hR : RSt w a n L) :
    Calls Try.prog 19 #[.agg #[.slice a n c], .int .i64 p] w (GetL (rfR n L p) w) := by
  have HM := Lib.hid hms
  have hb0 := Below.box w (.cells #[.slice a n c] 27 (0, 0))
  have HB0 := Lib.hid hb0
  have HR := Lib.hid (hR.below hb0)
  have cP : (w.alloc (.cells #[.slice a n c] 27 (0, 0))).cell? ⟨w.heap.size, 0, none⟩ = some (.slice a n c) := new_cell rfl
  clear hR hms hb0
  go_enter Try.func19, Try.ntmps19
  go_wp2_with fail
  refine (iStoryOk_any _ _ _ L _ hm HM.out HR.out).mono ?_
  rintro e w1 ⟨rfl, b1⟩
  replace cP := (b1.cell (p := ⟨w.heap.size, 0, none⟩) (World.block_lt_of_cell? _ _ cP)).trans cP
  have HR1 := Lib.hid (HR.out.below b1)
  have HB1 := Lib.hid (HB0.out.trans (b1.mono HB0.out.size))
  clear b1
  cases hsb : storyB n L
  · have HV : Hid (rfR n L p = []) := Lib.hid (rfR_no (.inl (fun h => by rw [storyB_t h] at hsb; cases hsb)))
    clear hsb
    go_wp2
    go_ret
    exact GetL.nil HV.out HB1.out _ _
  · have HS := Lib.hid (storyB_iff.1 hsb)
    obtain ⟨n1, n16⟩ := HS.out.1
    clear hsb
    by_cases hp : 0 ≤ p ∧ p ≤ (n : Int) - 1
    · obtain ⟨p0, p1⟩ := hp
      obtain ⟨q, rfl⟩ : ∃ q : Nat, p = (q : Int) := ⟨p.toNat, by omega⟩
      have hq : q < n := by omega
      go_wp2_with (first | (go_at_call 38; (first | refine (within_t _ _ _ _ (by omega) (by omega)).mono ?_ | refine (within_f _ _ _ _ (by omega)).mono ?_); rintro e w' ⟨rfl, rfl⟩) | (go_at_call 42; refine (pagesFrom_any _ _ _ L q _ HS.out hq HR1.out).mono ?_; rintro e w2 ⟨g0, T, rfl, hr, hT, _, b2⟩; have HRT := Lib.hid hr; have HF5 := Lib.hid (rfR_yes HS.out hq (P := fun k => T k == true) (fun k _ => by rw [← hT k]; simp)); have HB2 := Lib.hid (HB1.out.trans (b2.mono HB1.out.size)); clear hr hT b2) | (go_at_call 44; refine (marked_any _ _ _ T true _ n16 HRT.out).mono ?_; rw [← HF5.out]; rintro e w3 ⟨aO, cO, rfl, rO, fO, b3⟩; have RO := Lib.hid rO; have FO := Lib.hid (fO.mono HB2.out.size); have HB3 := Lib.hid (HB2.out.trans (b3.mono HB2.out.size)); clear rO fO b3))
      go_ret
      exact ⟨_, _, rfl, RO.out, FO.out, HB3.out⟩
    · have hp' : p < 0 ∨ (n : Int) - 1 < p := by omega
      have HV : Hid (rfR n L p = []) := Lib.hid (rfR_no (.inr hp'))
      go_wp2_with (go_at_call 38; (first | refine (within_t _ _ _ _ (by omega) (by omega)).mono ?_ | refine (within_f _ _ _ _ (by omega)).mono ?_); rintro e w' ⟨rfl, rfl⟩)
      go_ret
      exact GetL.nil HV.out HB1.out _ _
end Go.Proofs.Ytjnjlpljakkakaa
