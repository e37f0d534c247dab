/-
  Contracts of ShortestTale and LongestTale in the program.
  By an AI agent.
-/
import Derived.Test.YtjnjlpljakkakaaFirst
import Derived.Test.YtjnjlpljakkakaaTaleS
namespace Go.Proofs.Ytjnjlpljakkakaa
open Go.ChangeShapes Go.WideShapes Go.ChangeAt Go.RowKit Go.Joins Go.Deep
set_option maxRecDepth 100000
set_option linter.unusedVariables false

open Classical in
theorem ebB_t {L : Rows} {k : Nat} (h : ebB L k = true) : E L k 0 := by unfold ebB at h; exact of_decide_eq_true h
open Classical in
theorem ebB_f {L : Rows} {k : Nat} (h : ebB L k = false) : ¬ E L k 0 := by unfold ebB at h; exact of_decide_eq_false h
theorem none_of {n : Nat} {L : Rows} {m : Bool} (h : storyOk n L) (hn : ∀ k, k < n → ebB L k = false) : tlR n L m = [] := tlR_no (.inr (fun k hk => by
  obtain ⟨s, hs, hmin⟩ := E_least hk
  exact ebB_f (hn s (E_min h h.1.1 hs hmin)) hs))
theorem least_of {L : Rows} {k : Nat} (h : ebB L k = true) (hn : ∀ j, j < k → ebB L j = false) : isBest L false k := by
  refine ⟨ebB_t h, fun j hj => ?_⟩
  simp only [if_false, Bool.false_eq_true]
  by_cases hlt : j < k
  · exact absurd hj (ebB_f (hn j hlt))
  · omega
theorem most_of {n : Nat} {L : Rows} {k : Nat} (hok : okFor n L true) (h : ebB L k = true) (hn : ∀ j, k < j → j < n → ebB L j = false) : isBest L true k := by
  refine ⟨ebB_t h, fun j hj => ?_⟩
  simp only [if_true]
  by_cases hlt : k < j
  · have := Xm_bd hok rfl 0 hok.1.1.1 (Xm_zero L true) j hj
    exact absurd hj (ebB_f (hn j hlt this))
  · omega
set_option maxHeartbeats 2000000 in
theorem iShortestTale_any (a : Option Addr) (n c : Nat) (L : Rows) (w : World) (hm : n ≤ 1048576) (hms : ∀ i, i < n → lenN L i ≤ 1048576) (hR : RSt w a n L) :
    Calls Try.prog 29 #[.agg #[.slice a n c]] w (GetL (tlR n L false) w) := by
  have HM := Lib.hid hms
  have hb0 := Below.box w (.cells #[.slice a n c] 27 (0, 0))
  have HB0 := Lib.hid hb0
  have HR := Lib.hid (hR.below hb0)
  have cP : (w.alloc (.cells #[.slice a n c] 27 (0, 0))).cell? ⟨w.heap.size, 0, none⟩ = some (.slice a n c) := new_cell rfl
  clear hR hms hb0
  go_enter Try.func29, Try.ntmps29
  go_wp2_with fail
  refine (iStoryOk_any _ _ _ L _ hm HM.out HR.out).mono ?_
  rintro e w1 ⟨rfl, b1⟩
  replace cP := (b1.cell (p := ⟨w.heap.size, 0, none⟩) (World.block_lt_of_cell? _ _ cP)).trans cP
  have HR1 := Lib.hid (HR.out.below b1)
  have HB1 := Lib.hid (HB0.out.trans (b1.mono HB0.out.size))
  clear b1
  cases hsb : storyB n L
  · have HV : Hid (tlR n L false = []) := Lib.hid (tlR_no (.inl (fun h => by rw [storyB_t h.1] at hsb; cases hsb)))
    clear hsb
    go_wp2
    go_ret
    exact GetL.nil HV.out HB1.out _ _
  · have HS : Hid (okFor n L false) := Lib.hid ⟨storyB_iff.1 hsb, fun h => by cases h⟩
    clear hsb
    go_wp2_with fail
    refine (lengths_any _ _ _ L _ HS.out.1 HR1.out).mono ?_
    rintro e w2 ⟨g2, c2, rfl, hr2, b2⟩
    replace cP := (b2.cell (p := ⟨w.heap.size, 0, none⟩) (World.block_lt_of_cell? _ _ cP)).trans cP
    have HR2 := Lib.hid (HR1.out.below b2)
    have HB2 := Lib.hid (HB1.out.trans (b2.mono HB1.out.size))
    have HL2 := Lib.hid hr2
    clear b2 hr2
    go_wp2_with fail
    refine (index_bool _ _ _ (ebB L) _ hm HL2.out).mono ?_
    rintro e w3 ⟨⟨z, rfl, hz⟩, rfl⟩
    rcases hz with ⟨rfl, hno⟩ | ⟨k, hk, rfl, h1, h2⟩
    · have HV := Lib.hid (none_of (m := false) HS.out.1 hno)
      clear hno
      go_wp2
      go_ret
      exact GetL.nil HV.out HB2.out _ _
    · have hb := least_of h1 h2
      have HE := Lib.hid (ebB_t h1)
      have HV := Lib.hid (tlR_yes HS.out hb)
      clear h1 h2 hb
      go_wp2_with fail
      refine (first_any _ _ _ k L _ HS.out.1 HR2.out hk HE.out).mono ?_
      rw [← HV.out]
      rintro e w4 ⟨aO, cO, rfl, rO, fO, b4⟩
      have HB4 := Lib.hid (HB2.out.trans (b4.mono HB2.out.size))
      have RO := Lib.hid rO
      have FO := Lib.hid (fO.mono HB2.out.size)
      clear rO fO b4
      go_wp2
      go_ret
      exact ⟨_, _, rfl, RO.out, FO.out, HB4.out⟩
set_option maxHeartbeats 2000000 in
theorem iLongestTale_any (a : Option Addr) (n c : Nat) (L : Rows) (w : World) (hm : n ≤ 1048576) (hms : ∀ i, i < n → lenN L i ≤ 1048576) (hR : RSt w a n L) :
    Calls Try.prog 31 #[.agg #[.slice a n c]] w (GetL (tlR n L true) w) := by
  have HM := Lib.hid hms
  have hb0 := Below.box w (.cells #[.slice a n c] 27 (0, 0))
  have HB0 := Lib.hid hb0
  have HR := Lib.hid (hR.below hb0)
  have cP : (w.alloc (.cells #[.slice a n c] 27 (0, 0))).cell? ⟨w.heap.size, 0, none⟩ = some (.slice a n c) := new_cell rfl
  clear hR hms hb0
  go_enter Try.func31, Try.ntmps31
  go_wp2_with fail
  refine (iStoryOk_any _ _ _ L _ hm HM.out HR.out).mono ?_
  rintro e w0 ⟨rfl, b1⟩
  replace cP := (b1.cell (p := ⟨w.heap.size, 0, none⟩) (World.block_lt_of_cell? _ _ cP)).trans cP
  have HR0 := Lib.hid (HR.out.below b1)
  have HBa := Lib.hid (HB0.out.trans (b1.mono HB0.out.size))
  clear b1
  cases hsb : storyB n L
  · have HV : Hid (tlR n L true = []) := Lib.hid (tlR_no (.inl (fun h => by rw [storyB_t h.1] at hsb; cases hsb)))
    clear hsb
    go_wp2
    go_ret
    exact GetL.nil HV.out HBa.out _ _
  · have HS0 := Lib.hid (storyB_iff.1 hsb)
    clear hsb
    go_wp2_with fail
    refine (iIsEndless_any _ _ _ L _ hm HM.out HR0.out).mono ?_
    rintro e w1 ⟨rfl, b2⟩
    replace cP := (b2.cell (p := ⟨w.heap.size, 0, none⟩) (World.block_lt_of_cell? _ _ cP)).trans cP
    have HR1 := Lib.hid (HR0.out.below b2)
    have HB1 := Lib.hid (HBa.out.trans (b2.mono HBa.out.size))
    clear b2
    by_cases hend : endless n L
    · have HE := Lib.hid (endB_t HS0.out hend)
      have HV : Hid (tlR n L true = []) := Lib.hid (tlR_no (.inl (fun h => h.2 rfl hend)))
      clear hend
      rw [HE.out]
      go_wp2
      go_ret
      exact GetL.nil HV.out HB1.out _ _
    · have HE := Lib.hid (endB_f (n := n) (L := L) (fun h => hend h.2))
      have HS : Hid (okFor n L true) := Lib.hid ⟨HS0.out, fun _ => hend⟩
      clear hend
      rw [HE.out]
      go_wp2_with fail
      refine (lengths_any _ _ _ L _ HS.out.1 HR1.out).mono ?_
      rintro e w2 ⟨g2, c2, rfl, hr2, b2⟩
      replace cP := (b2.cell (p := ⟨w.heap.size, 0, none⟩) (World.block_lt_of_cell? _ _ cP)).trans cP
      have HR2 := Lib.hid (HR1.out.below b2)
      have HB2 := Lib.hid (HB1.out.trans (b2.mono HB1.out.size))
      have HL2 := Lib.hid hr2
      clear b2 hr2
      go_wp2
      go_loop [4] (fun i => ∃ r : Nat, r ≤ n ∧ i = .int .i64 ((r : Int) - 1) ∧ ∀ k, r ≤ k → k < n → ebB L k = false) (fun i => (intOf i + 1).toNat)
      case atStart => exact ⟨n, Nat.le_refl _, rfl, fun k h1 h2 => by omega⟩
      case round =>
        obtain ⟨r, hr, rfl, hno⟩ := hrel
        have HN := Lib.hid hno
        clear hno
        by_cases h0 : r = 0
        · subst h0
          have HV := Lib.hid (none_of (m := true) HS.out.1 (fun k hk => HN.out k (Nat.zero_le _) hk))
          have e0 : (((0 : Nat) : Int) - 1) = -1 := by omega
          rw [e0]
          go_wp2
          go_ret
          exact GetL.nil HV.out HB2.out _ _
        · obtain ⟨q, hq⟩ : ∃ q : Nat, r = q + 1 := ⟨r - 1, by omega⟩
          have e0 : ((r : Int) - 1) = (q : Int) := by omega
          rw [e0]
          have hqn : q < n := by omega
          have c3 := HL2.out.cell hqn
          unfold bc at c3
          have q0 : (0 : Int) ≤ (q : Int) := Int.natCast_nonneg _
          have q1 : (q : Int) < (n : Int) := by omega
          clear e0
          cases hT : ebB L q
          · have HN2 : Hid (∀ k, q ≤ k → k < n → ebB L k = false) := Lib.hid (by
              intro k h1 h2
              by_cases e : k = q
              · rw [e]; exact hT
              · exact HN.out k (by omega) h2)
            rw [hT] at c3
            clear hT hq
            go_wp2
            go_round
            case rel => exact ⟨q, by omega, rfl, HN2.out⟩
            case measure => simp [intOf]
          · have hb := most_of HS.out hT (fun j h1 h2 => HN.out j (by omega) h2)
            have HEq := Lib.hid (ebB_t hT)
            have HV := Lib.hid (tlR_yes HS.out hb)
            rw [hT] at c3
            clear hT hb hq
            go_wp2_with fail
            refine (first_any _ _ _ q L _ HS.out.1 HR2.out hqn HEq.out).mono ?_
            rw [← HV.out]
            rintro e w4 ⟨aO, cO, rfl, rO, fO, b4⟩
            have HB4 := Lib.hid (HB2.out.trans (b4.mono HB2.out.size))
            have RO := Lib.hid rO
            have FO := Lib.hid (fO.mono HB2.out.size)
            clear rO fO b4
            go_wp2
            go_ret
            exact ⟨_, _, rfl, RO.out, FO.out, HB4.out⟩
end Go.Proofs.Ytjnjlpljakkakaa
