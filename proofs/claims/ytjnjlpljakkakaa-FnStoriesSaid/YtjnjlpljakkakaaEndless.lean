/-
  Contracts of IsEndless in the program and in the reference.
  By an AI agent.
-/
import Derived.Test.YtjnjlpljakkakaaReach
import Derived.Test.YtjnjlpljakkakaaDfs
namespace Go.Proofs.Ytjnjlpljakkakaa
open Go.ChangeShapes Go.WideShapes Go.ChangeAt Go.RowKit Go.Joins Go.Deep
set_option maxRecDepth 100000
set_option linter.unusedVariables false

def endless (n : Nat) (L : Rows) : Prop := ∃ k, k < n ∧ (k = 0 ∨ Path L 0 k) ∧ Path L k k
open Classical in
noncomputable def endB (n : Nat) (L : Rows) : Bool := decide (storyOk n L ∧ endless n L)
open Classical in
theorem endB_t {n : Nat} {L : Rows} (h : storyOk n L) (h2 : endless n L) : endB n L = true := by unfold endB; exact decide_eq_true ⟨h, h2⟩
open Classical in
theorem endB_f {n : Nat} {L : Rows} (h : ¬ (storyOk n L ∧ endless n L)) : endB n L = false := by unfold endB; exact decide_eq_false h
theorem storyB_iff {n : Nat} {L : Rows} : storyB n L = true ↔ storyOk n L := by
  constructor
  · intro h
    by_cases e : storyOk n L
    · exact e
    · rw [storyB_f e] at h; cases h
  · exact storyB_t
set_option maxHeartbeats 2000000 in
theorem sIsEndless_any (a : Option Addr) (n c : Nat) (L : Rows) (w : World) (hm : n ≤ 1048576) (hms : ∀ i, i < n → lenN L i ≤ 1048576) (hR : RSt w a n L) :
    Calls Try.prog 16 #[.agg #[.slice a n c]] w fun e w' => e = .returned (.bool (endB n L)) ∧ Below w.heap.size w w' := by
  have HM := Lib.hid hms
  have hb0 := Below.box w (.cells #[.slice a n c] 27 (0, 0))
  have HB0 := Lib.hid hb0
  have HR := Lib.hid (hR.below hb0)
  have cP : (w.alloc (.cells #[.slice a n c] 27 (0, 0))).cell? ⟨w.heap.size, 0, none⟩ = some (.slice a n c) := new_cell rfl
  clear hR hms hb0
  go_enter Try.func16, Try.ntmps16
  go_wp2_with fail
  refine (sStoryOk_any _ _ _ L _ hm HM.out HR.out).mono ?_
  rintro e w1 ⟨rfl, b1⟩
  replace cP := (b1.cell (p := ⟨w.heap.size, 0, none⟩) (World.block_lt_of_cell? _ _ cP)).trans cP
  have HR1 := Lib.hid (HR.out.below b1)
  have HB1 := Lib.hid (HB0.out.trans (b1.mono HB0.out.size))
  clear b1
  cases hsb : storyB n L
  · have HV : Hid (endB n L = false) := Lib.hid (endB_f (fun h => by rw [storyB_t h.1] at hsb; cases hsb))
    clear hsb
    go_wp2
    go_ret
    exact ⟨ret_bool HV.out.symm, HB1.out⟩
  · have HS := Lib.hid (storyB_iff.1 hsb)
    obtain ⟨n1, n16⟩ := HS.out.1
    clear hsb
    go_wp2_with fail
    refine (reach_any _ _ _ L _ HS.out HR1.out).mono ?_
    rintro e w2 ⟨g, c2, f, rfl, hr, hf, b2⟩
    have HRF := Lib.hid hr
    have HF := Lib.hid hf
    have HB2 := Lib.hid (HB1.out.trans (b2.mono HB1.out.size))
    clear hr hf b2 cP
    have c0 := HRF.out.cell (i := 0) (by omega)
    unfold wc at c0
    have hf0 := (HF.out 0 (by omega)).1
    have e0 := or_i64 (f 0) 1 hf0 (by omega)
    have hA := or_lt (f 0) 1 hf0 (by omega)
    have HA : Hid (∀ k, (f 0 ||| 1).testBit k = true ↔ (k = 0 ∨ Path L 0 k)) := Lib.hid (fun k => by
      rw [Nat.testBit_or, Bool.or_eq_true, (HF.out 0 (by omega)).2 k, show (1 : Nat) = 2 ^ 0 from rfl, Nat.testBit_two_pow]
      simp only [decide_eq_true_eq]
      constructor
      · rintro (h | h)
        · exact .inr h
        · exact .inl h.symm
      · rintro (h | h)
        · exact .inr h.symm
        · exact .inl h)
    generalize f 0 ||| 1 = A at *
    have e0' : bits .or .i64 ((f 0 : Nat) : Int) 1 = (A : Int) := e0
    clear e0
    generalize hF0 : f 0 = F0 at *
    have i0 : (0 : Int) < (n : Int) := by omega
    go_wp2
    clear c0
    clear e0'
    go_loop [5] (fun i => ∃ k : Nat, k ≤ n ∧ i = .int .i64 k ∧ ∀ j, j < k → ¬ ((j = 0 ∨ Path L 0 j) ∧ Path L j j)) (fun i => n - (intOf i).toNat)
    case atStart => exact ⟨0, Nat.zero_le _, rfl, fun j h => absurd h (Nat.not_lt_zero j)⟩
    case round =>
      obtain ⟨k, hk, rfl, hok⟩ := hrel
      have HO := Lib.hid hok
      clear hok
      by_cases hlt : k < n
      · have c1 := HRF.out.cell hlt
        unfold wc at c1
        have hk1 := (HF.out k hlt).1
        have t1 := bit_test A k hA
        have t2 := bit_test (f k) k hk1
        have j0 : (0 : Int) ≤ (k : Int) := Int.natCast_nonneg _
        have j1 : (k : Int) < (n : Int) := by omega
        have HK2 := Lib.hid ((HF.out k hlt).2 k)
        have HK1 := Lib.hid (HA.out k)
        generalize f k = F at *
        cases hb1 : A.testBit k
        · rw [hb1] at t1
          have HN : Hid (∀ j, j < k + 1 → ¬ ((j = 0 ∨ Path L 0 j) ∧ Path L j j)) := Lib.hid (by
            intro j hj
            by_cases e : j = k
            · subst e; rintro ⟨h, _⟩; have := HK1.out.2 h; rw [hb1] at this; cases this
            · exact HO.out j (by omega))
          clear hb1 t2
          go_wp2
          go_round
          case rel => exact ⟨k + 1, by omega, by go_num, HN.out⟩
          case measure => simp [intOf]; omega
        · rw [hb1] at t1
          cases hb2 : F.testBit k
          · rw [hb2] at t2
            have HN : Hid (∀ j, j < k + 1 → ¬ ((j = 0 ∨ Path L 0 j) ∧ Path L j j)) := Lib.hid (by
              intro j hj
              by_cases e : j = k
              · subst e; rintro ⟨_, h⟩; have := HK2.out.2 h; rw [hb2] at this; cases this
              · exact HO.out j (by omega))
            clear hb1 hb2
            go_wp2
            go_round
            case rel => exact ⟨k + 1, by omega, by go_num, HN.out⟩
            case measure => simp [intOf]; omega
          · rw [hb2] at t2
            have HV : Hid (endB n L = true) := Lib.hid (endB_t HS.out ⟨k, hlt, HK1.out.1 hb1, HK2.out.1 hb2⟩)
            clear hb1 hb2
            go_wp2
            go_ret
            exact ⟨ret_bool HV.out.symm, HB2.out⟩
      · have hk' : k = n := by omega
        subst hk'
        have HV : Hid (endB k L = false) := Lib.hid (endB_f (fun ⟨_, j, hj, h⟩ => HO.out j hj h))
        go_wp2
        go_ret
        exact ⟨ret_bool HV.out.symm, HB2.out⟩
set_option maxHeartbeats 2000000 in
theorem iIsEndless_any (a : Option Addr) (n c : Nat) (L : Rows) (w : World) (hm : n ≤ 1048576) (hms : ∀ i, i < n → lenN L i ≤ 1048576) (hR : RSt w a n L) :
    Calls Try.prog 17 #[.agg #[.slice a n c]] w fun e w' => e = .returned (.bool (endB n L)) ∧ Below w.heap.size w w' := by
  have HM := Lib.hid hms
  have hb0 := Below.box w (.cells #[.slice a n c] 27 (0, 0))
  have HB0 := Lib.hid hb0
  have HR := Lib.hid (hR.below hb0)
  have cP : (w.alloc (.cells #[.slice a n c] 27 (0, 0))).cell? ⟨w.heap.size, 0, none⟩ = some (.slice a n c) := new_cell rfl
  clear hR hms hb0
  go_enter Try.func17, Try.ntmps17
  go_wp2_with fail
  refine (iStoryOk_any _ _ _ L _ hm HM.out HR.out).mono ?_
  rintro e w1 ⟨rfl, b1⟩
  replace cP := (b1.cell (p := ⟨w.heap.size, 0, none⟩) (World.block_lt_of_cell? _ _ cP)).trans cP
  have HR1 := Lib.hid (HR.out.below b1)
  have HB1 := Lib.hid (HB0.out.trans (b1.mono HB0.out.size))
  clear b1
  cases hsb : storyB n L
  · have HV : Hid (endB n L = false) := Lib.hid (endB_f (fun h => by rw [storyB_t h.1] at hsb; cases hsb))
    clear hsb
    go_wp2
    go_ret
    exact ⟨ret_bool HV.out.symm, HB1.out⟩
  · have HS := Lib.hid (storyB_iff.1 hsb)
    obtain ⟨n1, n16⟩ := HS.out.1
    clear hsb
    go_wp2_with fail
    refine (pagesFrom_any _ _ _ L 0 _ HS.out (by omega) HR1.out).mono ?_
    rintro e w2 ⟨g0, T, rfl, hr, hT, _, b2⟩
    have HRT := Lib.hid hr
    have HT := Lib.hid hT
    replace cP := (b2.cell (p := ⟨w.heap.size, 0, none⟩) (World.block_lt_of_cell? _ _ cP)).trans cP
    have HC2 := Lib.hid cP
    have HR2 := Lib.hid (HR1.out.below b2)
    have HB2 := Lib.hid (HB1.out.trans (b2.mono HB1.out.size))
    clear hr hT b2 cP
    go_wp2
    go_loopw [13] (fun i wr => ∃ k : Nat, k ≤ n ∧ i = .int .i64 k ∧ (∀ j, j < k → ¬ ((j = 0 ∨ Path L 0 j) ∧ Path L j j)) ∧ Below w2.heap.size w2 wr) (fun i _ => n - (intOf i).toNat)
    case atStart => exact ⟨0, Nat.zero_le _, rfl, fun j h => absurd h (Nat.not_lt_zero j), Below.refl _ _⟩
    case round =>
      obtain ⟨k, hk, rfl, hok, hB⟩ := hrel
      rename World => wo
      have HO := Lib.hid hok
      have HB := Lib.hid hB
      clear hok hB
      by_cases hlt : k < n
      · have hrow := HRT.out.below HB.out HRT.out.lt
        have c1 := hrow.cell hlt
        unfold bc at c1
        clear hrow
        have HTk := Lib.hid (HT.out k)
        have HNK : Hid (¬ ((k = 0 ∨ Path L 0 k) ∧ Path L k k) → ∀ j, j < k + 1 → ¬ ((j = 0 ∨ Path L 0 j) ∧ Path L j j)) := Lib.hid (by
          intro h j hj
          by_cases e : j = k
          · subst e; exact h
          · exact HO.out j (by omega))
        cases hTk : T k
        · rw [hTk] at c1
          have HN := Lib.hid (HNK.out (fun h => by have := HTk.out.2 h.1; rw [hTk] at this; cases this))
          clear hTk
          go_wp2
          go_roundw
          case rel => exact ⟨k + 1, by omega, by go_num, HN.out, HB.out⟩
          case measure => simp [intOf]; omega
        · rw [hTk] at c1
          have HPK := Lib.hid (HTk.out.1 hTk)
          clear hTk
          obtain ⟨g, α, C, rfl, lg, c2, hC, s1⟩ := (HR2.out.below HB.out).at hlt
          have cP := (HB.out.cell (p := ⟨w.heap.size, 0, none⟩) (World.block_lt_of_cell? _ _ HC2.out)).trans HC2.out
          have hlen : lenN L k ≤ 4 := (HS.out.2 k hlt).1
          have S1 := Lib.hid s1
          have CP := Lib.hid cP
          have HML : Hid ((rowN L k).length = lenN L k) := Lib.hid rfl
          clear s1
          generalize lenN L k = m at *
          go_wp2
          clear c1 c2
          go_loopw [26] (fun i wr => ∃ q : Nat, q ≤ m ∧ i = .int .i64 q ∧ (∀ j, j < q → ∀ y : Nat, (rowN L k).getD j 0 = (y : Int) → ¬ (k = y ∨ Path L y k)) ∧ Below wo.heap.size wo wr) (fun i _ => m - (intOf i).toNat)
          case atStart => exact ⟨0, Nat.zero_le _, rfl, fun j h => absurd h (Nat.not_lt_zero j), Below.refl _ _⟩
          case round =>
            obtain ⟨q, hq, rfl, hok2, hB2⟩ := hrel
            rename World => wi
            have HO2 := Lib.hid hok2
            have HBI := Lib.hid hB2
            clear hok2 hB2
            by_cases hlq : q < m
            · obtain ⟨g3, rfl, hr3⟩ := (S1.out.below HBI.out).row (by omega)
              have c2 := hr3.cell hlq
              unfold ic at c2
              have hv := ((HS.out.2 k hlt).2 q (by rw [HML.out]; exact hlq)).1
              obtain ⟨x, hx⟩ : ∃ x : Nat, (rowN L k).getD q 0 = (x : Int) := ⟨((rowN L k).getD q 0).toNat, by omega⟩
              rw [hx] at c2 hv
              have HX := Lib.hid hx
              clear hx hr3
              have hxn : x < n := by omega
              have cPi := (HBI.out.cell (p := ⟨w.heap.size, 0, none⟩) (World.block_lt_of_cell? _ _ CP.out)).trans CP.out
              have HRI := Lib.hid ((HR2.out.below HB.out).below HBI.out)
              have he : Hid (edge L k x) := Lib.hid ⟨q, by show q < (rowN L k).length; rw [HML.out]; exact hlq, HX.out⟩
              have j0 : (0 : Int) ≤ (k : Int) := Int.natCast_nonneg _
              have j1 : (k : Int) < (n : Int) := by omega
              go_wp2_with fail
              refine (pagesFrom_any _ _ _ L x _ HS.out hxn HRI.out).mono ?_
              rintro e w3 ⟨gU, U, rfl, hr, hU, _, b3⟩
              have c5 := hr.cell hlt
              unfold bc at c5
              have HUk := Lib.hid (hU k)
              have HB3 := Lib.hid (HBI.out.trans (b3.mono HBI.out.size))
              clear hr hU b3
              cases hUk : U k
              · rw [hUk] at c5
                have HN : Hid (∀ j, j < q + 1 → ∀ y : Nat, (rowN L k).getD j 0 = (y : Int) → ¬ (k = y ∨ Path L y k)) := Lib.hid (by
                  intro j hj y hy
                  by_cases e : j = q
                  · subst e
                    rw [HX.out] at hy
                    have : y = x := by omega
                    subst this
                    intro h
                    have := HUk.out.2 h
                    rw [hUk] at this; cases this
                  · exact HO2.out j (by omega) y hy)
                clear hUk
                go_wp2
                go_roundw
                case rel => exact ⟨q + 1, by omega, by go_num, HN.out, HB3.out⟩
                case measure => simp [intOf]; omega
              · rw [hUk] at c5
                have HV : Hid (endB n L = true) := Lib.hid (endB_t HS.out ⟨k, hlt, HPK.out, by
                  rcases HUk.out.1 hUk with h | h
                  · have := he.out; rw [← h] at this; exact .one this
                  · exact .more he.out h⟩)
                clear hUk
                go_wp2
                go_ret
                exact ⟨ret_bool HV.out.symm, HB2.out.trans ((HB.out.trans (HB3.out.mono HB.out.size)).mono HB2.out.size)⟩
            · have hq' : q = m := by omega
              subst hq'
              have HN := Lib.hid (HNK.out (fun h => by
                have : ∀ j, Path L k j → j = k → False := by
                  intro j hp hj
                  cases hp with
                  | one e =>
                    obtain ⟨t, ht, e⟩ := e
                    exact HO2.out t (by rw [← HML.out]; exact ht) _ e (.inl hj.symm)
                  | more e hp =>
                    obtain ⟨t, ht, e⟩ := e
                    exact HO2.out t (by rw [← HML.out]; exact ht) _ e (.inr (hj ▸ hp))
                exact this k h.2 rfl))
              go_wp2
              go_roundw
              case rel => exact ⟨k + 1, by omega, by go_num, HN.out, HB.out.trans (HBI.out.mono HB.out.size)⟩
              case measure => simp [intOf]; omega
      · have hk' : k = n := by omega
        subst hk'
        have HV : Hid (endB k L = false) := Lib.hid (endB_f (fun ⟨_, j, hj, h⟩ => HO.out j hj h))
        go_wp2
        go_ret
        exact ⟨ret_bool HV.out.symm, HB2.out.trans (HB.out.mono HB2.out.size)⟩
end Go.Proofs.Ytjnjlpljakkakaa
