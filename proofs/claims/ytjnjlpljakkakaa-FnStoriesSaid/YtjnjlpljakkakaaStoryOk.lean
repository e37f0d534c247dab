/-
  Contracts of StoryOk in the program and in the reference.
  By an AI agent.
-/
import Derived.Test.YtjnjlpljakkakaaStoryM
import Derived.Test.YtjnjlpljakkakaaFind
import Derived.Test.YtjnjlpljakkakaaOwn
namespace Go.Proofs.Ytjnjlpljakkakaa
open Go.ChangeShapes Go.WideShapes Go.ChangeAt Go.RowKit Go.Joins Go.Deep
set_option maxRecDepth 100000
set_option linter.unusedVariables false

def goodAt (n : Nat) (l : List Int) (i : Nat) : Prop := (0 ≤ l.getD i 0 ∧ l.getD i 0 ≤ (n : Int) - 1) ∧ ∀ j, j < i → l.getD j 0 ≠ l.getD i 0
def rowOk (n : Nat) (l : List Int) : Prop := l.length ≤ 4 ∧ ∀ i, i < l.length → goodAt n l i
def storyOk (n : Nat) (L : Rows) : Prop := (1 ≤ n ∧ n ≤ 16) ∧ ∀ k, k < n → rowOk n (rowN L k)
open Classical in
noncomputable def storyB (n : Nat) (L : Rows) : Bool := decide (storyOk n L)
open Classical in
theorem storyB_t {n : Nat} {L : Rows} (h : storyOk n L) : storyB n L = true := by unfold storyB; exact decide_eq_true h
open Classical in
theorem storyB_f {n : Nat} {L : Rows} (h : ¬ storyOk n L) : storyB n L = false := by unfold storyB; exact decide_eq_false h
theorem SlR.take {w : World} {a : Option Addr} {m i : Nat} {x : List Int} (h : SlR w a m (ic x)) (hi : i ≤ m) : SlR w a i (ic (x.take i)) := by
  by_cases h0 : i = 0
  · exact .inl h0
  · obtain ⟨g, hg, hr⟩ := h.row (by omega)
    refine .inr ⟨g, hg, (hr.mono hi).congr fun j hj => ?_⟩
    simp [ic, List.getD, hj]
set_option maxHeartbeats 2000000 in
theorem sStoryOk_any (a : Option Addr) (n c : Nat) (L : Rows) (w : World) (hm : n ≤ 1048576) (hms : ∀ i, i < n → lenN L i ≤ 1048576) (hR : RSt w a n L) :
    Calls Try.prog 12 #[.agg #[.slice a n c]] w fun e w' => e = .returned (.bool (storyB n L)) ∧ Below w.heap.size w w' := by
  have HM := Lib.hid hms
  have hb0 := Below.box w (.cells #[.slice a n c] 27 (0, 0))
  have HB0 := Lib.hid hb0
  have HR := Lib.hid (hR.below hb0)
  clear hR hms hb0
  by_cases hin : 1 ≤ n ∧ n ≤ 16
  · obtain ⟨n1, n2⟩ := hin
    go_enter Try.func12, Try.ntmps12
    go_wp2_with (go_at_call 36; (first | refine (l01In_t _ _ _ _ (by omega) (by omega)).mono ?_ | refine (l01In_f _ _ _ _ (by omega)).mono ?_); rintro e w' ⟨rfl, rfl⟩)
    have hc0 : (w.alloc (.cells #[.slice a n c] 27 (0, 0))).cell? ⟨w.heap.size, 0, none⟩ = some (.slice a n c) := new_cell rfl
    have HC0 := Lib.hid hc0
    have hs0 : w.heap.size < (w.alloc (.cells #[.slice a n c] 27 (0, 0))).heap.size := by simp
    clear hc0
    generalize hW : w.alloc (.cells #[.slice a n c] 27 (0, 0)) = W at *
    clear hW
    generalize hbx : w.heap.size = bx at *
    have FIN : Hid (∀ w', Below W.heap.size W w' → Below w.heap.size w w') := Lib.hid (fun w' h => by rw [hbx]; exact HB0.out.trans (h.mono (Nat.le_of_lt hs0)))
    clear hbx
    go_loopw [4] (fun i wr => ∃ k : Nat, k ≤ n ∧ i = .int .i64 k ∧ (∀ q, q < k → rowOk n (rowN L q)) ∧ Below W.heap.size W wr) (fun i _ => n - (intOf i).toNat)
    case atStart => exact ⟨0, Nat.zero_le _, rfl, fun q h => absurd h (Nat.not_lt_zero q), Below.refl _ _⟩
    case round =>
      obtain ⟨k, hk, rfl, hok, hB⟩ := hrel
      rename World => wo
      have HB := Lib.hid hB
      have HO := Lib.hid hok
      clear hB hok
      by_cases hlt : k < n
      · obtain ⟨g, α, C, rfl, lg, c1, hC, s1⟩ := (HR.out.below HB.out).at hlt
        have c0 := (HB.out.cell (p := ⟨bx, 0, none⟩) hs0).trans HC0.out
        have hmk := HM.out k hlt
        have S1 := Lib.hid s1
        have HLn : Hid ((rowN L k).length = lenN L k) := Lib.hid rfl
        clear s1
        generalize hx : rowN L k = x at *
        have HX := Lib.hid hx
        generalize lenN L k = m at *
        clear hx
        by_cases h4 : m ≤ 4
        · have i0 : (0 : Int) ≤ (k : Int) := Int.natCast_nonneg _
          have i1 : (k : Int) < (n : Int) := by omega
          go_wp2
          go_loopw [5] (fun i wr => ∃ q : Nat, q ≤ m ∧ i = .int .i64 q ∧ (∀ p, p < q → goodAt n x p) ∧ Below wo.heap.size wo wr) (fun i _ => m - (intOf i).toNat)
          case atStart => exact ⟨0, Nat.zero_le _, rfl, fun q h => absurd h (Nat.not_lt_zero q), Below.refl _ _⟩
          case round =>
            obtain ⟨q, hq, rfl, hok2, hB2⟩ := hrel
            rename World => wi
            have HB2 := Lib.hid hB2
            have HO2 := Lib.hid hok2
            clear hB2 hok2
            have c0' := (HB2.out.cell (p := ⟨bx, 0, none⟩) (by show bx < _; have := HB.out.size; omega)).trans c0
            have c1' := (HB2.out.cell (p := ⟨g, k, none⟩) lg).trans c1
            by_cases hlq : q < m
            · obtain ⟨g3, rfl, hr3⟩ := (S1.out.below HB2.out).row (by omega)
              have c2' := hr3.cell hlq
              unfold ic at c2'
              have HR3 := Lib.hid hr3
              clear hr3
              have lg3 := HR3.out.lt
              have HG : Hid (goodAt n x q ↔ (0 ≤ x.getD q 0 ∧ x.getD q 0 ≤ (n : Int) - 1) ∧ ∀ j, j < q → x.getD j 0 ≠ x.getD q 0) := Lib.hid Iff.rfl
              have HNO : Hid (¬ goodAt n x q → storyB n L = false) := Lib.hid (fun hg => storyB_f (fun h => hg (by have := (h.2 k hlt).2 q; rw [HX.out, HLn.out] at this; exact this hlq)))
              have HNX : Hid (goodAt n x q → ∀ p, p < q + 1 → goodAt n x p) := Lib.hid (by
                intro hg p hp
                by_cases e : p = q
                · rw [e]; exact hg
                · exact HO2.out p (by omega))
              generalize x.getD q 0 = v at *
              by_cases hv : 0 ≤ v ∧ v ≤ (n : Int) - 1
              · obtain ⟨v0, v1⟩ := hv
                have j0 : (0 : Int) ≤ (q : Int) := Int.natCast_nonneg _
                have j1 : (q : Int) < (m : Int) := by omega
                go_wp2_with (go_at_call 36; (first | refine (l01In_t _ _ _ _ (by omega) (by omega)).mono ?_ | refine (l01In_f _ _ _ _ (by omega)).mono ?_); rintro e w' ⟨rfl, rfl⟩)
                go_loopw [6] (fun i wr => ∃ p : Nat, p ≤ q ∧ i = .int .i64 p ∧ (∀ j, j < p → x.getD j 0 ≠ v) ∧ Below wi.heap.size wi wr) (fun i _ => q - (intOf i).toNat)
                case atStart => exact ⟨0, Nat.zero_le _, rfl, fun q h => absurd h (Nat.not_lt_zero q), Below.refl _ _⟩
                case round =>
                  obtain ⟨p, hp, rfl, hok3, hB3⟩ := hrel
                  rename World => wj
                  have HB3 := Lib.hid hB3
                  have HO3 := Lib.hid hok3
                  clear hB3 hok3
                  by_cases hlp : p < q
                  · have d0 := (HB3.out.cell (p := ⟨bx, 0, none⟩) (by show bx < _; have := HB.out.size; have := HB2.out.size; omega)).trans c0'
                    have d1 := (HB3.out.cell (p := ⟨g, k, none⟩) (by show g < _; have := HB2.out.size; omega)).trans c1'
                    have d2 := (HB3.out.cell (p := ⟨g3, q, none⟩) lg3).trans c2'
                    have d3 := (HR3.out.below HB3.out lg3).cell (i := p) (by omega)
                    unfold ic at d3
                    have k0 : (0 : Int) ≤ (p : Int) := Int.natCast_nonneg _
                    have k1 : (p : Int) < (m : Int) := by omega
                    by_cases he : x.getD p 0 = v
                    · have HV := Lib.hid (HNO.out (fun hg => (HG.out.1 hg).2 p hlp he))
                      have he' : (x.getD p 0 == v) = true := by simpa using he
                      clear he
                      generalize x.getD p 0 = u at *
                      go_wp2
                      go_quiet (fail)
                      go_wp2
                      go_ret
                      exact ⟨ret_bool HV.out.symm, FIN.out _ (below_drewN (HB.out.trans ((HB2.out.trans (HB3.out.mono HB2.out.size)).mono HB.out.size)) _)⟩
                    · have HN3 : Hid (∀ j, j < p + 1 → x.getD j 0 ≠ v) := Lib.hid (by
                        intro j hj
                        by_cases e : j = p
                        · rw [e]; exact he
                        · exact HO3.out j (by omega))
                      have he' : (x.getD p 0 == v) = false := by simpa using he
                      clear he
                      generalize x.getD p 0 = u at *
                      go_wp2
                      go_quiet (fail)
                      go_wp2
                      go_roundw
                      case rel => exact ⟨p + 1, by omega, by go_num, HN3.out, below_drewN HB3.out _⟩
                      case measure => simp [intOf]; omega
                  · have hp' : p = q := by omega
                    subst hp'
                    have HN := Lib.hid (HNX.out (HG.out.2 ⟨⟨v0, v1⟩, HO3.out⟩))
                    go_wp2
                    go_roundw
                    case rel => exact ⟨p + 1, by omega, by go_num, HN.out, HB2.out.trans (HB3.out.mono HB2.out.size)⟩
                    case measure => simp [intOf]; omega
              · have HV := Lib.hid (HNO.out (fun hg => hv (HG.out.1 hg).1))
                have hv' : v < 0 ∨ (n : Int) - 1 < v := by omega
                go_wp2_with (go_at_call 36; (first | refine (l01In_t _ _ _ _ (by omega) (by omega)).mono ?_ | refine (l01In_f _ _ _ _ (by omega)).mono ?_); rintro e w' ⟨rfl, rfl⟩)
                go_ret
                exact ⟨ret_bool HV.out.symm, FIN.out _ (HB.out.trans (HB2.out.mono HB.out.size))⟩
            · have hq' : q = m := by omega
              subst hq'
              have HN : Hid (∀ q', q' < k + 1 → rowOk n (rowN L q')) := Lib.hid (by
                intro q' hq'
                by_cases e : q' = k
                · rw [e, HX.out]; exact ⟨by rw [HLn.out]; exact h4, by rw [HLn.out]; exact HO2.out⟩
                · exact HO.out q' (by omega))
              go_wp2
              go_roundw
              case rel => exact ⟨k + 1, by omega, by go_num, HN.out, HB.out.trans (HB2.out.mono HB.out.size)⟩
              case measure => simp [intOf]; omega
        · have HV : Hid (storyB n L = false) := Lib.hid (storyB_f (fun h => h4 (by have := (h.2 k hlt).1; rw [HX.out, HLn.out] at this; exact this)))
          go_wp2
          go_ret
          exact ⟨ret_bool HV.out.symm, FIN.out _ HB.out⟩
      · have hk' : k = n := by omega
        subst hk'
        have HV : Hid (storyB k L = true) := Lib.hid (storyB_t ⟨⟨n1, n2⟩, HO.out⟩)
        go_wp2
        go_ret
        exact ⟨ret_bool HV.out.symm, FIN.out _ HB.out⟩
  · have HV : Hid (storyB n L = false) := Lib.hid (storyB_f (fun h => hin h.1))
    have hin' : (n : Int) < 1 ∨ 16 < (n : Int) := by omega
    go_enter Try.func12, Try.ntmps12
    go_wp2_with (go_at_call 36; (first | refine (l01In_t _ _ _ _ (by omega) (by omega)).mono ?_ | refine (l01In_f _ _ _ _ (by omega)).mono ?_); rintro e w' ⟨rfl, rfl⟩)
    go_ret
    exact ⟨ret_bool HV.out.symm, HB0.out⟩
theorem contains_take {x : List Int} {q : Nat} {v : Int} (hq : q ≤ x.length) : (x.take q).contains v = true ↔ ∃ j, j < q ∧ x.getD j 0 = v := by
  rw [List.contains_iff_mem, List.mem_iff_getElem]
  constructor
  · rintro ⟨j, hj, h⟩
    have hj' : j < q ∧ j < x.length := by simp at hj; omega
    refine ⟨j, hj'.1, ?_⟩
    rw [getD_at _ _ hj'.2]
    simpa using h
  · rintro ⟨j, hj, h⟩
    refine ⟨j, by simp; omega, ?_⟩
    rw [getD_at _ _ (by omega)] at h
    simpa using h
set_option maxHeartbeats 2000000 in
theorem iStoryOk_any (a : Option Addr) (n c : Nat) (L : Rows) (w : World) (hm : n ≤ 1048576) (hms : ∀ i, i < n → lenN L i ≤ 1048576) (hR : RSt w a n L) :
    Calls Try.prog 14 #[.agg #[.slice a n c]] w fun e w' => e = .returned (.bool (storyB n L)) ∧ Below w.heap.size w w' := by
  have HM := Lib.hid hms
  have hb0 := Below.box w (.cells #[.slice a n c] 27 (0, 0))
  have HB0 := Lib.hid hb0
  have HR := Lib.hid (hR.below hb0)
  clear hR hms hb0
  go_enter Try.func14, Try.ntmps14
  go_wp2
  have c0 : (w.alloc (.cells #[.slice a n c] 27 (0, 0))).cell? ⟨w.heap.size, 0, none⟩ = some (.slice a n c) := new_cell rfl
  generalize hW : w.alloc (.cells #[.slice a n c] 27 (0, 0)) = W at *
  clear hW
  go_loop [10] (fun i => ∃ k : Nat, k ≤ n ∧ i = .int .i64 k ∧ (∀ q, q < k → rowOk n (rowN L q))) (fun i => n - (intOf i).toNat)
  case atStart => exact ⟨0, Nat.zero_le _, rfl, fun q h => absurd h (Nat.not_lt_zero q)⟩
  case round =>
    obtain ⟨k, hk, rfl, hok⟩ := hrel
    have HO := Lib.hid hok
    clear hok
    by_cases hlt : k < n
    · obtain ⟨g, α, C, rfl, lg, c1, hC, s1⟩ := HR.out.at hlt
      have hmk := HM.out k hlt
      have S1 := Lib.hid s1
      have HLn : Hid ((rowN L k).length = lenN L k) := Lib.hid rfl
      clear s1
      generalize hx : rowN L k = x at *
      have HX := Lib.hid hx
      generalize lenN L k = m at *
      clear hx
      go_wp2
      go_loop [16] (fun i => ∃ q : Nat, q ≤ m ∧ i = .int .i64 q ∧ (∀ p, p < q → goodAt n x p)) (fun i => m - (intOf i).toNat)
      case atStart => exact ⟨0, Nat.zero_le _, rfl, fun q h => absurd h (Nat.not_lt_zero q)⟩
      case round =>
        obtain ⟨q, hq, rfl, hok2⟩ := hrel
        have HO2 := Lib.hid hok2
        clear hok2
        by_cases hlq : q < m
        · obtain ⟨g3, rfl, hr3⟩ := S1.out.row (by omega)
          have c2 := hr3.cell hlq
          unfold ic at c2
          clear hr3
          have HG : Hid (goodAt n x q ↔ (0 ≤ x.getD q 0 ∧ x.getD q 0 ≤ (n : Int) - 1) ∧ ∀ j, j < q → x.getD j 0 ≠ x.getD q 0) := Lib.hid Iff.rfl
          have HNO : Hid (¬ goodAt n x q → storyB n L = false) := Lib.hid (fun hg => storyB_f (fun h => hg (by have := (h.2 k hlt).2 q; rw [HX.out, HLn.out] at this; exact this hlq)))
          have HNX : Hid (goodAt n x q → ∀ p, p < q + 1 → goodAt n x p) := Lib.hid (by
            intro hg p hp
            by_cases e : p = q
            · rw [e]; exact hg
            · exact HO2.out p (by omega))
          have HT : Hid (SlR W (some ⟨g3, 0, none⟩) q (ic (x.take q))) := Lib.hid (S1.out.take hq)
          have HTl : Hid ((x.take q).length = q) := Lib.hid (by rw [List.length_take, HLn.out]; omega)
          have HCT : Hid ((x.take q).contains (x.getD q 0) = true ↔ ∃ j, j < q ∧ x.getD j 0 = x.getD q 0) := Lib.hid (contains_take (by rw [HLn.out]; exact hq))
          generalize x.getD q 0 = v at *
          by_cases hv : 0 ≤ v ∧ v ≤ (n : Int) - 1
          · obtain ⟨v0, v1⟩ := hv
            have j0 : (0 : Int) ≤ (q : Int) := Int.natCast_nonneg _
            have j1 : (q : Int) ≤ (C : Int) := by omega
            cases hct : (x.take q).contains v
            · have HCF := Lib.hid hct
              have HN := Lib.hid (HNX.out (HG.out.2 ⟨⟨v0, v1⟩, fun j hj he => by have := HCT.out.2 ⟨j, hj, he⟩; rw [hct] at this; cases this⟩))
              clear hct
              go_wp2_with (first | (go_at_call 38; (first | refine (within_t _ _ _ _ (by omega) (by omega)).mono ?_ | refine (within_f _ _ _ _ (by omega)).mono ?_); rintro e w' ⟨rfl, rfl⟩) | (go_at_call 39; refine (contains_int _ _ _ (x.take q) _ _ HTl.out (by omega) HT.out _ HCF.out).mono ?_; rintro e w' ⟨rfl, rfl⟩))
              go_round
              case rel => exact ⟨q + 1, by omega, by go_num, HN.out⟩
              case measure => simp [intOf]; omega
            · have HCF := Lib.hid hct
              have HV := Lib.hid (HNO.out (fun hg => by obtain ⟨j, hj, he⟩ := HCT.out.1 hct; exact (HG.out.1 hg).2 j hj he))
              clear hct
              go_wp2_with (first | (go_at_call 38; (first | refine (within_t _ _ _ _ (by omega) (by omega)).mono ?_ | refine (within_f _ _ _ _ (by omega)).mono ?_); rintro e w' ⟨rfl, rfl⟩) | (go_at_call 39; refine (contains_int _ _ _ (x.take q) _ _ HTl.out (by omega) HT.out _ HCF.out).mono ?_; rintro e w' ⟨rfl, rfl⟩))
              go_ret
              exact ⟨ret_bool HV.out.symm, HB0.out⟩
          · have HV := Lib.hid (HNO.out (fun hg => hv (HG.out.1 hg).1))
            have hv' : v < 0 ∨ (n : Int) - 1 < v := by omega
            go_wp2_with (go_at_call 38; (first | refine (within_t _ _ _ _ (by omega) (by omega)).mono ?_ | refine (within_f _ _ _ _ (by omega)).mono ?_); rintro e w' ⟨rfl, rfl⟩)
            go_ret
            exact ⟨ret_bool HV.out.symm, HB0.out⟩
        · have hq' : q = m := by omega
          subst hq'
          by_cases h4 : q ≤ 4
          · have HN : Hid (∀ q', q' < k + 1 → rowOk n (rowN L q')) := Lib.hid (by
              intro q' hq'
              by_cases e : q' = k
              · rw [e, HX.out]; exact ⟨by rw [HLn.out]; exact h4, by rw [HLn.out]; exact HO2.out⟩
              · exact HO.out q' (by omega))
            go_wp2
            go_round
            case rel => exact ⟨k + 1, by omega, by go_num, HN.out⟩
            case measure => simp [intOf]; omega
          · have HV : Hid (storyB n L = false) := Lib.hid (storyB_f (fun h => h4 (by have := (h.2 k hlt).1; rw [HX.out, HLn.out] at this; exact this)))
            go_wp2
            go_ret
            exact ⟨ret_bool HV.out.symm, HB0.out⟩
    · have hk' : k = n := by omega
      subst hk'
      by_cases hin : 1 ≤ k ∧ k ≤ 16
      · obtain ⟨n1, n2⟩ := hin
        have HV : Hid (storyB k L = true) := Lib.hid (storyB_t ⟨⟨n1, n2⟩, HO.out⟩)
        go_wp2_with (go_at_call 38; (first | refine (within_t _ _ _ _ (by omega) (by omega)).mono ?_ | refine (within_f _ _ _ _ (by omega)).mono ?_); rintro e w' ⟨rfl, rfl⟩)
        go_ret
        exact ⟨ret_bool HV.out.symm, HB0.out⟩
      · have HV : Hid (storyB k L = false) := Lib.hid (storyB_f (fun h => hin h.1))
        have hin' : (k : Int) < 1 ∨ 16 < (k : Int) := by omega
        go_wp2_with (go_at_call 38; (first | refine (within_t _ _ _ _ (by omega) (by omega)).mono ?_ | refine (within_f _ _ _ _ (by omega)).mono ?_); rintro e w' ⟨rfl, rfl⟩)
        go_ret
        exact ⟨ret_bool HV.out.symm, HB0.out⟩
end Go.Proofs.Ytjnjlpljakkakaa
