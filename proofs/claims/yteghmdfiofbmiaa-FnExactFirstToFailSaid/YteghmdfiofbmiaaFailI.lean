/-
  The contract of FirstToFail in the program. Written by a program of mine.
  By an AI agent.
-/
import Derived.Test.YteghmdfiofbmiaaFail
namespace Go.Proofs.Yteghmdfiofbmiaa
open Go.ChangeShapes Go.WideShapes Go.ChangeAt Go.RowKit Go.Joins Go.Deep
set_option maxRecDepth 100000
set_option linter.unusedVariables false

/-- A copy in a box and one in a list; nothing below W's size turned since W. -/
def BoxL (W : World) (b g p a1 a2 : Nat) (x y : DCopy) (w' : World) : Prop :=
  (w'.cell? ⟨b, 0, none⟩ = some (.int .i64 x.d) ∧ w'.cell? ⟨b, 1, none⟩ = some (.int .i64 x.f) ∧ w'.cell? ⟨b, 2, none⟩ = some (.slice (some ⟨a1, 0, none⟩) x.n x.n) ∧ w'.cell? ⟨b, 3, none⟩ = some (.int .i64 x.k) ∧ w'.cell? ⟨b, 4, none⟩ = some (.int .i64 x.g) ∧ w'.cell? ⟨b, 5, none⟩ = some (.int .i64 x.s) ∧ w'.cell? ⟨b, 6, none⟩ = some (.int .i64 x.o) ∧ w'.cell? ⟨g, p, none⟩ = some (.int .i64 y.d) ∧ w'.cell? ⟨g, p + 1, none⟩ = some (.int .i64 y.f) ∧ w'.cell? ⟨g, p + 2, none⟩ = some (.slice (some ⟨a2, 0, none⟩) y.n y.n) ∧ w'.cell? ⟨g, p + 3, none⟩ = some (.int .i64 y.k) ∧ w'.cell? ⟨g, p + 4, none⟩ = some (.int .i64 y.g) ∧ w'.cell? ⟨g, p + 5, none⟩ = some (.int .i64 y.s) ∧ w'.cell? ⟨g, p + 6, none⟩ = some (.int .i64 y.o)) ∧ Hid (Below W.heap.size W w')
theorem BoxL.next {W w1 w2 : World} {b g p a1 a2 : Nat} {x y : DCopy} (h : BoxL W b g p a1 a2 x y w1) (hb : Below w1.heap.size w1 w2) : BoxL W b g p a1 a2 x y w2 := by
  obtain ⟨⟨c0, c1, c2, c3, c4, c5, c6, d0, d1, d2, d3, d4, d5, d6⟩, hB⟩ := h
  have ha : b < w1.heap.size := World.block_lt_of_cell? _ _ c0
  have hg : g < w1.heap.size := World.block_lt_of_cell? _ _ d0
  exact ⟨⟨(hb.cell (p := ⟨b, 0, none⟩) ha).trans c0, (hb.cell (p := ⟨b, 1, none⟩) ha).trans c1, (hb.cell (p := ⟨b, 2, none⟩) ha).trans c2, (hb.cell (p := ⟨b, 3, none⟩) ha).trans c3, (hb.cell (p := ⟨b, 4, none⟩) ha).trans c4, (hb.cell (p := ⟨b, 5, none⟩) ha).trans c5, (hb.cell (p := ⟨b, 6, none⟩) ha).trans c6, (hb.cell (p := ⟨g, p, none⟩) hg).trans d0, (hb.cell (p := ⟨g, p + 1, none⟩) hg).trans d1, (hb.cell (p := ⟨g, p + 2, none⟩) hg).trans d2, (hb.cell (p := ⟨g, p + 3, none⟩) hg).trans d3, (hb.cell (p := ⟨g, p + 4, none⟩) hg).trans d4, (hb.cell (p := ⟨g, p + 5, none⟩) hg).trans d5, (hb.cell (p := ⟨g, p + 6, none⟩) hg).trans d6⟩, Lib.hid (hB.out.trans (hb.mono hB.out.size))⟩
set_option maxHeartbeats 2000000 in
theorem iFirstToFail_any (g n c : Nat) (xs : List DCopy) (w : World) (hl : xs.length = n) (hm : n ≤ 1048576) (hms : ∀ i, i < n → (xs.getD i default).modest) (hR : LCopy w g n xs) :
    Calls Try.prog 55 #[.slice (some ⟨g, 0, none⟩) n c] w fun e w' => e = .returned (.int .i64 (failR xs)) ∧ Below w.heap.size w w' := by
  have HL := Lib.hid hl
  have HR := Lib.hid hR
  have HM := Lib.hid hms
  clear hR hms
  by_cases hin : 1 ≤ n ∧ n ≤ 20
  · obtain ⟨h1, h20⟩ := hin
    go_enter Try.func55, Try.ntmps55
    go_wp2_with (go_at_call 62; (first | refine (within_t _ _ _ _ (by omega) (by omega)).mono ?_ | refine (within_f _ _ _ _ (by omega)).mono ?_); rintro e w' ⟨rfl, rfl⟩)
    go_loopw [3, 12] (fun b i wr => ∃ k : Nat, k ≤ n ∧ i = .int .i64 k ∧ b = .int .i64 (fw xs k : Nat) ∧ (∀ j, j < k → okC (xs.getD j default) = true) ∧ Below w.heap.size w wr) (fun _ i _ => n - (intOf i).toNat)
    case atStart => exact ⟨0, Nat.zero_le _, rfl, rfl, fun j h => absurd h (Nat.not_lt_zero j), Below.refl _ _⟩
    case round =>
      obtain ⟨k, hk, rfl, rfl, hok, hB⟩ := hrel
      have HO := Lib.hid hok
      have HB := Lib.hid hB
      clear hok hB
      by_cases hlt : k < n
      · obtain ⟨a1, ⟨c0, c1, c2, c3, c4, c5, c6⟩, s1⟩ := (HR.out.below HB.out).at hlt
        obtain ⟨m1, m2⟩ := HM.out k hlt
        have S1 := Lib.hid s1
        have M1 := Lib.hid m1
        have HX : Hid (leftOf (xs.getD k default).d (xs.getD k default).f (xs.getD k default).ss (xs.getD k default).k (xs.getD k default).g (xs.getD k default).s (xs.getD k default).o = lf (xs.getD k default)) := Lib.hid rfl
        have hoc : copyOkB (xs.getD k default).d (xs.getD k default).f (xs.getD k default).ss (xs.getD k default).k (xs.getD k default).g (xs.getD k default).s (xs.getD k default).o = okC (xs.getD k default) := rfl
        clear s1 m1
        cases ho : okC (xs.getD k default)
        · have HV := Lib.hid (failR_bad (by rw [hl]; exact hlt) ho)
          rw [ho] at hoc
          have HO1 := Lib.hid hoc
          clear ho hl hoc
          generalize xs.getD k default = x at *
          go_wp2_with (first | (go_at_call 62; (first | refine (within_t _ _ _ _ (by omega) (by omega)).mono ?_ | refine (within_f _ _ _ _ (by omega)).mono ?_); rintro e w' ⟨rfl, rfl⟩) | (go_at_call 91; refine (iCopyOk_any x.d x.f _ x.n x.n x.ss x.k x.g x.s x.o _ M1.out m2 (S1.out.below (Below.box _ _))).mono ?_; rw [HO1.out]; rintro e w2 ⟨rfl, hb2⟩; have HB2 := Lib.hid ((Below.box wr _).trans (hb2.mono (by simp))); have HBB := Lib.hid (SlR.below (SlR.box7 wr (.int .i64 x.d) (.int .i64 x.f) (.slice (some ⟨a1, 0, none⟩) x.n x.n) (.int .i64 x.k) (.int .i64 x.g) (.int .i64 x.s) (.int .i64 x.o) 74) hb2); clear hb2))
          go_ret
          exact ⟨ret_int HV.out.symm, HB.out.trans (HB2.out.mono HB.out.size)⟩
        · have HO2 : Hid (∀ j, j < k + 1 → okC (xs.getD j default) = true) := Lib.hid (by
            intro j hj
            by_cases e : j = k
            · rw [e]; exact ho
            · exact HO.out j (by omega))
          rw [ho] at hoc
          have HO1 := Lib.hid hoc
          clear ho hoc
          rcases Nat.eq_zero_or_pos k with hk0 | hk0
          · subst hk0
            have HW := Lib.hid (fw_one xs)
            have HW0 : Hid (fw xs 0 = 0) := Lib.hid rfl
            have HAT : Hid (∀ W : World, LCopy W g n xs → ∃ a : Nat, (W.cell? ⟨g, 0, none⟩ = some (.int .i64 (xs.getD 0 default).d) ∧ W.cell? ⟨g, 1, none⟩ = some (.int .i64 (xs.getD 0 default).f) ∧ W.cell? ⟨g, 2, none⟩ = some (.slice (some ⟨a, 0, none⟩) (xs.getD 0 default).n (xs.getD 0 default).n) ∧ W.cell? ⟨g, 3, none⟩ = some (.int .i64 (xs.getD 0 default).k) ∧ W.cell? ⟨g, 4, none⟩ = some (.int .i64 (xs.getD 0 default).g) ∧ W.cell? ⟨g, 5, none⟩ = some (.int .i64 (xs.getD 0 default).s) ∧ W.cell? ⟨g, 6, none⟩ = some (.int .i64 (xs.getD 0 default).o)) ∧ SlR W (some ⟨a, 0, none⟩) (xs.getD 0 default).n (sc (xs.getD 0 default).ss)) := Lib.hid (fun W h => by have := h.at hlt; simpa using this)
            rw [HW0.out]
            generalize xs.getD 0 default = x at *
            go_wp2_with (first | (go_at_call 62; (first | refine (within_t _ _ _ _ (by omega) (by omega)).mono ?_ | refine (within_f _ _ _ _ (by omega)).mono ?_); rintro e w' ⟨rfl, rfl⟩) | (go_at_call 91; refine (iCopyOk_any x.d x.f _ x.n x.n x.ss x.k x.g x.s x.o _ M1.out m2 (S1.out.below (Below.box _ _))).mono ?_; rw [HO1.out]; rintro e w2 ⟨rfl, hb2⟩; have HB2 := Lib.hid ((Below.box wr _).trans (hb2.mono (by simp))); have HBB := Lib.hid (SlR.below (SlR.box7 wr (.int .i64 x.d) (.int .i64 x.f) (.slice (some ⟨a1, 0, none⟩) x.n x.n) (.int .i64 x.k) (.int .i64 x.g) (.int .i64 x.s) (.int .i64 x.o) 74) hb2); clear hb2))
            obtain ⟨q0, q1, q2, q3, q4, q5, q6⟩ := HBB.out.sept
            have S1b := Lib.hid (S1.out.below HB2.out)
            clear c0 c1 c2 c3 c4 c5 c6

            obtain ⟨a2, ⟨d0, d1, d2, d3, d4, d5, d6⟩, s2⟩ := HAT.out w2 (HR.out.below (HB.out.trans (HB2.out.mono HB.out.size)))
            have S2 := Lib.hid s2
            clear s2
            generalize hlx : lf x = u at *
            clear hlx
            have hS := Lib.hid ((⟨⟨q0, q1, q2, q3, q4, q5, q6, d0, d1, d2, d3, d4, d5, d6⟩, Lib.hid (Below.refl _ _).drew⟩ : BoxL w2 wr.heap.size g (0) a1 a2 x x w2.drew))
            go_region_held3 (fun w' => (w'.cell? ⟨wr.heap.size, 0, none⟩ = some (.int .i64 x.d) ∧ w'.cell? ⟨wr.heap.size, 1, none⟩ = some (.int .i64 x.f) ∧ w'.cell? ⟨wr.heap.size, 2, none⟩ = some (.slice (some ⟨a1, 0, none⟩) x.n x.n) ∧ w'.cell? ⟨wr.heap.size, 3, none⟩ = some (.int .i64 x.k) ∧ w'.cell? ⟨wr.heap.size, 4, none⟩ = some (.int .i64 x.g) ∧ w'.cell? ⟨wr.heap.size, 5, none⟩ = some (.int .i64 x.s) ∧ w'.cell? ⟨wr.heap.size, 6, none⟩ = some (.int .i64 x.o) ∧ w'.cell? ⟨g, 0, none⟩ = some (.int .i64 x.d) ∧ w'.cell? ⟨g, 0 + 1, none⟩ = some (.int .i64 x.f) ∧ w'.cell? ⟨g, 0 + 2, none⟩ = some (.slice (some ⟨a2, 0, none⟩) x.n x.n) ∧ w'.cell? ⟨g, 0 + 3, none⟩ = some (.int .i64 x.k) ∧ w'.cell? ⟨g, 0 + 4, none⟩ = some (.int .i64 x.g) ∧ w'.cell? ⟨g, 0 + 5, none⟩ = some (.int .i64 x.s) ∧ w'.cell? ⟨g, 0 + 6, none⟩ = some (.int .i64 x.o)) ∧ Hid (Below w2.heap.size w2 w'))
              (first | exact hS.out | (go_keep; done))
              (first | (go_at_call_of 97 (Value.agg #[.int .i64 x.d, .int .i64 x.f, .slice (some ⟨a1, 0, none⟩) x.n x.n, .int .i64 x.k, .int .i64 x.g, .int .i64 x.s, .int .i64 x.o]); refine (iLeftOf_any x.d x.f _ x.n x.n x.ss x.k x.g x.s x.o _ M1.out m2 (S1b.out.below (show BoxL w2 wr.heap.size g (0) a1 a2 x x _ from by assumption).2.out)).mono ?_; rw [HX.out]; rintro e w3 ⟨rfl, hb3⟩; have hS := Lib.hid (BoxL.next (show BoxL w2 wr.heap.size g (0) a1 a2 x x _ from by assumption) hb3); clear hb3) | (go_at_call_of 97 (Value.agg #[.int .i64 x.d, .int .i64 x.f, .slice (some ⟨a2, 0, none⟩) x.n x.n, .int .i64 x.k, .int .i64 x.g, .int .i64 x.s, .int .i64 x.o]); refine (iLeftOf_any x.d x.f _ x.n x.n x.ss x.k x.g x.s x.o _ M1.out m2 (S2.out.below (show BoxL w2 wr.heap.size g (0) a1 a2 x x _ from by assumption).2.out)).mono ?_; rw [HX.out]; rintro e w3 ⟨rfl, hb3⟩; have hS := Lib.hid (BoxL.next (show BoxL w2 wr.heap.size g (0) a1 a2 x x _ from by assumption) hb3); clear hb3))
            have HB3 := Lib.hid (HB.out.trans ((HB2.out.trans (hS.out.2.out.mono HB2.out.size)).mono HB.out.size))
            clear hS

            have dd : decide (u < u) = false := by simp
            go_wp2
            go_roundw
            case rel => exact ⟨1, by omega, by go_num, by rw [HW.out]; rfl, HO2.out, HB3.out⟩
            case measure => simp [intOf]; omega
          · have hb := (fw_le xs k).2 hk0
            have HY := Lib.hid (fun h => fw_yes (xs := xs) (k := k) h)
            have HN := Lib.hid (fun h => fw_no (xs := xs) (k := k) h)
            obtain ⟨bi, hbi⟩ : ∃ bi, fw xs k = bi := ⟨_, rfl⟩
            rw [hbi] at hb HY HN ⊢
            have hbn : bi < n := by omega
            have HAT : Hid (∀ W : World, LCopy W g n xs → ∃ a : Nat, (W.cell? ⟨g, bi * 7, none⟩ = some (.int .i64 (xs.getD bi default).d) ∧ W.cell? ⟨g, bi * 7 + 1, none⟩ = some (.int .i64 (xs.getD bi default).f) ∧ W.cell? ⟨g, bi * 7 + 2, none⟩ = some (.slice (some ⟨a, 0, none⟩) (xs.getD bi default).n (xs.getD bi default).n) ∧ W.cell? ⟨g, bi * 7 + 3, none⟩ = some (.int .i64 (xs.getD bi default).k) ∧ W.cell? ⟨g, bi * 7 + 4, none⟩ = some (.int .i64 (xs.getD bi default).g) ∧ W.cell? ⟨g, bi * 7 + 5, none⟩ = some (.int .i64 (xs.getD bi default).s) ∧ W.cell? ⟨g, bi * 7 + 6, none⟩ = some (.int .i64 (xs.getD bi default).o)) ∧ SlR W (some ⟨a, 0, none⟩) (xs.getD bi default).n (sc (xs.getD bi default).ss)) := Lib.hid (fun W h => h.at hbn)
            obtain ⟨mb1, mb2⟩ := HM.out bi hbn
            have MB1 := Lib.hid mb1
            have HXb : Hid (leftOf (xs.getD bi default).d (xs.getD bi default).f (xs.getD bi default).ss (xs.getD bi default).k (xs.getD bi default).g (xs.getD bi default).s (xs.getD bi default).o = lf (xs.getD bi default)) := Lib.hid rfl
            clear hbi mb1
            generalize xs.getD bi default = y at *
            generalize xs.getD k default = x at *
            go_wp2_with (first | (go_at_call 62; (first | refine (within_t _ _ _ _ (by omega) (by omega)).mono ?_ | refine (within_f _ _ _ _ (by omega)).mono ?_); rintro e w' ⟨rfl, rfl⟩) | (go_at_call 91; refine (iCopyOk_any x.d x.f _ x.n x.n x.ss x.k x.g x.s x.o _ M1.out m2 (S1.out.below (Below.box _ _))).mono ?_; rw [HO1.out]; rintro e w2 ⟨rfl, hb2⟩; have HB2 := Lib.hid ((Below.box wr _).trans (hb2.mono (by simp))); have HBB := Lib.hid (SlR.below (SlR.box7 wr (.int .i64 x.d) (.int .i64 x.f) (.slice (some ⟨a1, 0, none⟩) x.n x.n) (.int .i64 x.k) (.int .i64 x.g) (.int .i64 x.s) (.int .i64 x.o) 74) hb2); clear hb2))
            obtain ⟨q0, q1, q2, q3, q4, q5, q6⟩ := HBB.out.sept
            have S1b := Lib.hid (S1.out.below HB2.out)
            clear c0 c1 c2 c3 c4 c5 c6

            obtain ⟨a2, ⟨d0, d1, d2, d3, d4, d5, d6⟩, s2⟩ := HAT.out w2 (HR.out.below (HB.out.trans (HB2.out.mono HB.out.size)))
            have S2 := Lib.hid s2
            clear s2
            have i0 : (0 : Int) ≤ (bi : Int) := by omega
            have i1 : (bi : Int) < (n : Int) := by omega
            generalize hlx : lf x = u at *
            generalize hly : lf y = v at *
            clear hlx hly
            have hS := Lib.hid ((⟨⟨q0, q1, q2, q3, q4, q5, q6, d0, d1, d2, d3, d4, d5, d6⟩, Lib.hid (Below.refl _ _).drew⟩ : BoxL w2 wr.heap.size g (bi * 7) a1 a2 x y w2.drew))
            go_region_held3 (fun w' => (w'.cell? ⟨wr.heap.size, 0, none⟩ = some (.int .i64 x.d) ∧ w'.cell? ⟨wr.heap.size, 1, none⟩ = some (.int .i64 x.f) ∧ w'.cell? ⟨wr.heap.size, 2, none⟩ = some (.slice (some ⟨a1, 0, none⟩) x.n x.n) ∧ w'.cell? ⟨wr.heap.size, 3, none⟩ = some (.int .i64 x.k) ∧ w'.cell? ⟨wr.heap.size, 4, none⟩ = some (.int .i64 x.g) ∧ w'.cell? ⟨wr.heap.size, 5, none⟩ = some (.int .i64 x.s) ∧ w'.cell? ⟨wr.heap.size, 6, none⟩ = some (.int .i64 x.o) ∧ w'.cell? ⟨g, bi * 7, none⟩ = some (.int .i64 y.d) ∧ w'.cell? ⟨g, bi * 7 + 1, none⟩ = some (.int .i64 y.f) ∧ w'.cell? ⟨g, bi * 7 + 2, none⟩ = some (.slice (some ⟨a2, 0, none⟩) y.n y.n) ∧ w'.cell? ⟨g, bi * 7 + 3, none⟩ = some (.int .i64 y.k) ∧ w'.cell? ⟨g, bi * 7 + 4, none⟩ = some (.int .i64 y.g) ∧ w'.cell? ⟨g, bi * 7 + 5, none⟩ = some (.int .i64 y.s) ∧ w'.cell? ⟨g, bi * 7 + 6, none⟩ = some (.int .i64 y.o)) ∧ Hid (Below w2.heap.size w2 w'))
              (first | exact hS.out | (go_keep; done))
              (first | (go_at_call_of 97 (Value.agg #[.int .i64 x.d, .int .i64 x.f, .slice (some ⟨a1, 0, none⟩) x.n x.n, .int .i64 x.k, .int .i64 x.g, .int .i64 x.s, .int .i64 x.o]); refine (iLeftOf_any x.d x.f _ x.n x.n x.ss x.k x.g x.s x.o _ M1.out m2 (S1b.out.below (show BoxL w2 wr.heap.size g (bi * 7) a1 a2 x y _ from by assumption).2.out)).mono ?_; rw [HX.out]; rintro e w3 ⟨rfl, hb3⟩; have hS := Lib.hid (BoxL.next (show BoxL w2 wr.heap.size g (bi * 7) a1 a2 x y _ from by assumption) hb3); clear hb3) | (go_at_call_of 97 (Value.agg #[.int .i64 y.d, .int .i64 y.f, .slice (some ⟨a2, 0, none⟩) y.n y.n, .int .i64 y.k, .int .i64 y.g, .int .i64 y.s, .int .i64 y.o]); refine (iLeftOf_any y.d y.f _ y.n y.n y.ss y.k y.g y.s y.o _ MB1.out mb2 (S2.out.below (show BoxL w2 wr.heap.size g (bi * 7) a1 a2 x y _ from by assumption).2.out)).mono ?_; rw [HXb.out]; rintro e w3 ⟨rfl, hb3⟩; have hS := Lib.hid (BoxL.next (show BoxL w2 wr.heap.size g (bi * 7) a1 a2 x y _ from by assumption) hb3); clear hb3))
            have HB3 := Lib.hid (HB.out.trans ((HB2.out.trans (hS.out.2.out.mono HB2.out.size)).mono HB.out.size))
            clear hS

            by_cases huv : u < v
            · have HYv := Lib.hid (HY.out huv)
              have dd : decide (u < v) = true := by simpa using huv
              go_wp2
              go_roundw
              case rel => exact ⟨k + 1, by omega, by go_num, by rw [HYv.out], HO2.out, HB3.out⟩
              case measure => simp [intOf]; omega
            · have HYv := Lib.hid (HN.out (by omega))
              have dd : decide (u < v) = false := by simpa using huv
              go_wp2
              go_roundw
              case rel => exact ⟨k + 1, by omega, by go_num, by rw [HYv.out], HO2.out, HB3.out⟩
              case measure => simp [intOf]; omega
      · have hk' : k = n := by omega
        subst hk'
        have HV := Lib.hid (failR_yes (xs := xs) (by rw [hl]; omega) (by rw [hl]; exact HO.out))
        go_wp2
        go_ret
        exact ⟨ret_int (by rw [HV.out, HL.out]), HB.out⟩
  · have HV := Lib.hid (failR_len (xs := xs) (by rw [hl]; exact hin))
    have hin' : (n : Int) < 1 ∨ 20 < (n : Int) := by omega
    clear hl hin
    go_enter Try.func55, Try.ntmps55
    go_wp2_with (go_at_call 62; (first | refine (within_t _ _ _ _ (by omega) (by omega)).mono ?_ | refine (within_f _ _ _ _ (by omega)).mono ?_); rintro e w' ⟨rfl, rfl⟩)
    go_ret
    exact ⟨ret_int HV.out.symm, Below.refl _ _⟩
end Go.Proofs.Yteghmdfiofbmiaa
