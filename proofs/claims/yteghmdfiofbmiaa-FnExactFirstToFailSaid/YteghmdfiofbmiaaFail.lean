/-
  The first copy to fail: the plain words, and contracts of FirstToFail in the program and in the reference.
  By an AI agent.
-/
import Derived.Test.YteghmdfiofbmiaaCopyL
import Derived.Test.YteghmdfiofbmiaaLeft
import Derived.Test.YteghmdfiofbmiaaHoldC
namespace Go.Proofs.Yteghmdfiofbmiaa
open Go.ChangeShapes Go.WideShapes Go.ChangeAt Go.RowKit Go.Joins Go.Deep
set_option maxRecDepth 100000
set_option linter.unusedVariables false

def lf (x : DCopy) : Int := leftOf x.d x.f x.ss x.k x.g x.s x.o
def okC (x : DCopy) : Bool := copyOkB x.d x.f x.ss x.k x.g x.s x.o
theorem lf_no {x : DCopy} (h : okC x = false) : lf x = -1 := by unfold okC at h; unfold lf leftOf; rw [h]; rfl
theorem lf_bd {x : DCopy} (h : okC x = true) : 0 ≤ lf x ∧ lf x ≤ 40000 := by
  unfold okC at h
  have h1 := life_bd h
  have h2 := copy_open h
  unfold lf leftOf; rw [if_pos h]
  omega
/-- The one that has the least left among the first k. -/
def fw (xs : List DCopy) : Nat → Nat
  | 0 => 0
  | k + 1 => if lf (xs.getD k default) < lf (xs.getD (fw xs k) default) then k else fw xs k
theorem fw_le (xs : List DCopy) (k : Nat) : fw xs k ≤ k ∧ (1 ≤ k → fw xs k < k) := by
  induction k with
  | zero => exact ⟨Nat.le_refl _, fun h => absurd h (by omega)⟩
  | succ k ih =>
    show (if _ then _ else _) ≤ _ ∧ (_ → (if _ then _ else _) < _)
    split <;> omega
theorem fw_yes {xs : List DCopy} {k : Nat} (h : lf (xs.getD k default) < lf (xs.getD (fw xs k) default)) : fw xs (k + 1) = k := by show (if _ then _ else _) = _; rw [if_pos h]
theorem fw_no {xs : List DCopy} {k : Nat} (h : ¬ lf (xs.getD k default) < lf (xs.getD (fw xs k) default)) : fw xs (k + 1) = fw xs k := by show (if _ then _ else _) = _; rw [if_neg h]
theorem fw_one (xs : List DCopy) : fw xs 1 = 0 := by show (if _ then _ else _) = _; split <;> rfl
def failOk (xs : List DCopy) : Bool := decide (1 ≤ xs.length ∧ xs.length ≤ 20) && xs.all okC
def failR (xs : List DCopy) : Int := if failOk xs = true then (fw xs xs.length : Nat) else -1
theorem failR_len {xs : List DCopy} (h : ¬ (1 ≤ xs.length ∧ xs.length ≤ 20)) : failR xs = -1 := by
  unfold failR failOk; rw [decide_eq_false h]; rfl
theorem failR_bad {xs : List DCopy} {k : Nat} (hk : k < xs.length) (h : okC (xs.getD k default) = false) : failR xs = -1 := by
  have : ¬ failOk xs = true := by
    intro e
    unfold failOk at e
    simp only [Bool.and_eq_true, List.all_eq_true] at e
    have := e.2 (xs.getD k default) (by rw [getD_at _ _ hk]; exact List.getElem_mem hk)
    rw [h] at this; cases this
  unfold failR; rw [if_neg this]
theorem failR_yes {xs : List DCopy} (h : 1 ≤ xs.length ∧ xs.length ≤ 20) (h' : ∀ j, j < xs.length → okC (xs.getD j default) = true) : failR xs = (fw xs xs.length : Nat) := by
  have : failOk xs = true := by
    unfold failOk
    simp only [Bool.and_eq_true, List.all_eq_true]
    refine ⟨by simpa using h, fun x hx => ?_⟩
    obtain ⟨k, hk, rfl⟩ := List.getElem_of_mem hx
    have := h' k hk
    rwa [getD_at _ _ hk] at this
  unfold failR; rw [if_pos this]
/-- What a copy's contracts ask: its strings are n, and all in all they are modest. -/
def DCopy.modest (x : DCopy) : Prop := x.ss.length = x.n ∧ (x.n : Int) + tot x.ss x.n ≤ 1048576

set_option maxHeartbeats 2000000 in
theorem sFirstToFail_any (g n c : Nat) (xs : List DCopy) (w : World) (hl : xs.length = n) (hm : n ≤ 1048576) (hms : ∀ i, i < n → (xs.getD i default).modest) (hR : LCopy w g n xs) :
    Calls Try.prog 53 #[.slice (some ⟨g, 0, none⟩) n c] w fun e w' => e = .returned (.int .i64 (failR xs)) ∧ Below w.heap.size w w' := by
  have HL := Lib.hid hl
  have HR := Lib.hid hR
  have HM := Lib.hid hms
  clear hR hms
  go_enter Try.func53, Try.ntmps53
  go_wp2
  go_loopw [3, 4] (fun b i wr => ∃ k : Nat, k ≤ n ∧ i = .int .i64 k ∧ ((k = 0 ∧ b = .int .i64 (-1)) ∨ (1 ≤ k ∧ n ≤ 20 ∧ b = .int .i64 (fw xs k : Nat))) ∧ (∀ j, j < k → okC (xs.getD j default) = true) ∧ Below w.heap.size w wr) (fun _ i _ => n - (intOf i).toNat)
  case atStart => exact ⟨0, Nat.zero_le _, rfl, .inl ⟨rfl, rfl⟩, fun j h => absurd h (Nat.not_lt_zero j), Below.refl _ _⟩
  case round =>
    obtain ⟨k, hk, rfl, hb, hok, hB⟩ := hrel
    have HO := Lib.hid hok
    have HB := Lib.hid hB
    clear hok hB
    by_cases hlt : k < n
    · obtain ⟨a1, ⟨c0, c1, c2, c3, c4, c5, c6⟩, s1⟩ := (HR.out.below HB.out).at hlt
      obtain ⟨m1, m2⟩ := HM.out k hlt
      have S1 := Lib.hid s1
      have M1 := Lib.hid m1
      have HX : Hid (leftOf (xs.getD k default).d (xs.getD k default).f (xs.getD k default).ss (xs.getD k default).k (xs.getD k default).g (xs.getD k default).s (xs.getD k default).o = lf (xs.getD k default)) := Lib.hid rfl
      clear s1 m1
      cases ho : okC (xs.getD k default)
      · have HV := Lib.hid (failR_bad (by rw [hl]; exact hlt) ho)
        have HF := Lib.hid (lf_no ho)
        clear ho hl
        generalize xs.getD k default = x at *
        go_wp2_with (go_at_call 96; refine (sLeftOf_any x.d x.f _ x.n x.n x.ss x.k x.g x.s x.o _ M1.out m2 S1.out).mono ?_; rw [HX.out, HF.out]; rintro e w2 ⟨rfl, hb2⟩; have HB2 := Lib.hid (HB.out.trans (hb2.mono HB.out.size)); clear hb2)
        all_goals go_ret
        all_goals exact ⟨ret_int HV.out.symm, HB2.out⟩
      · have HO2 : Hid (∀ j, j < k + 1 → okC (xs.getD j default) = true) := Lib.hid (by
          intro j hj
          by_cases e : j = k
          · rw [e]; exact ho
          · exact HO.out j (by omega))
        obtain ⟨f0, f1⟩ := lf_bd ho
        clear ho
        by_cases h20 : n ≤ 20
        · rcases hb with ⟨rfl, rfl⟩ | ⟨hk1, _, rfl⟩
          · have HW := Lib.hid (fw_one xs)
            generalize xs.getD 0 default = x at *
            go_wp2_with (go_at_call 96; refine (sLeftOf_any x.d x.f _ x.n x.n x.ss x.k x.g x.s x.o _ M1.out m2 S1.out).mono ?_; rw [HX.out]; rintro e w2 ⟨rfl, hb2⟩; have HB2 := Lib.hid (HB.out.trans (hb2.mono HB.out.size)); clear hb2)
            go_roundw
            case rel => exact ⟨1, by omega, by go_num, .inr ⟨by omega, h20, by rw [HW.out]; rfl⟩, HO2.out, HB2.out⟩
            case measure => simp [intOf]; omega
          · have hb := (fw_le xs k).2 hk1
            have HY := Lib.hid (fun h => fw_yes (xs := xs) (k := k) h)
            have HN := Lib.hid (fun h => fw_no (xs := xs) (k := k) h)
            obtain ⟨bi, hbi⟩ : ∃ bi, fw xs k = bi := ⟨_, rfl⟩
            rw [hbi] at hb HY HN ⊢
            have hbn : bi < n := by omega
            have HLb : Hid (∀ W : World, LCopy W g n xs → ∃ a : Nat, (W.cell? ⟨g, bi * 7, none⟩ = some (.int .i64 (xs.getD bi default).d) ∧ W.cell? ⟨g, bi * 7 + 1, none⟩ = some (.int .i64 (xs.getD bi default).f) ∧ W.cell? ⟨g, bi * 7 + 2, none⟩ = some (.slice (some ⟨a, 0, none⟩) (xs.getD bi default).n (xs.getD bi default).n) ∧ W.cell? ⟨g, bi * 7 + 3, none⟩ = some (.int .i64 (xs.getD bi default).k) ∧ W.cell? ⟨g, bi * 7 + 4, none⟩ = some (.int .i64 (xs.getD bi default).g) ∧ W.cell? ⟨g, bi * 7 + 5, none⟩ = some (.int .i64 (xs.getD bi default).s) ∧ W.cell? ⟨g, bi * 7 + 6, none⟩ = some (.int .i64 (xs.getD bi default).o)) ∧ SlR W (some ⟨a, 0, none⟩) (xs.getD bi default).n (sc (xs.getD bi default).ss)) := Lib.hid (fun W h => h.at hbn)
            obtain ⟨mb1, mb2⟩ := HM.out bi hbn
            have MB1 := Lib.hid mb1
            have HXb : Hid (leftOf (xs.getD bi default).d (xs.getD bi default).f (xs.getD bi default).ss (xs.getD bi default).k (xs.getD bi default).g (xs.getD bi default).s (xs.getD bi default).o = lf (xs.getD bi default)) := Lib.hid rfl
            clear hbi mb1
            generalize xs.getD bi default = y at *
            generalize xs.getD k default = x at *
            go_wp2_with fail
            refine (sLeftOf_any x.d x.f _ x.n x.n x.ss x.k x.g x.s x.o _ M1.out m2 S1.out).mono ?_
            rw [HX.out]
            rintro e w2 ⟨rfl, hb2⟩
            have HB2 := Lib.hid (HB.out.trans (hb2.mono HB.out.size))
            clear hb2 c0 c1 c2 c3 c4 c5 c6
            obtain ⟨a2, ⟨c0, c1, c2, c3, c4, c5, c6⟩, s2⟩ := HLb.out w2 (HR.out.below HB2.out)
            have S2 := Lib.hid s2
            clear s2
            generalize lf x = u at *
            generalize lf y = v at *
            by_cases huv : u < v
            · have HYv := Lib.hid (HY.out huv)
              go_wp2_with fail
              refine (sLeftOf_any y.d y.f _ y.n y.n y.ss y.k y.g y.s y.o _ MB1.out mb2 S2.out).mono ?_
              rw [HXb.out]
              rintro e w3 ⟨rfl, hb3⟩
              have HB3 := Lib.hid (HB2.out.trans (hb3.mono HB2.out.size))
              clear hb3
              go_wp2_with fail
              go_roundw
              case rel => exact ⟨k + 1, by omega, by go_num, .inr ⟨by omega, h20, by rw [HYv.out]⟩, HO2.out, HB3.out⟩
              case measure => simp [intOf]; omega
            · have HYv := Lib.hid (HN.out (by omega))
              have huv' : v ≤ u := by omega
              go_wp2_with fail
              refine (sLeftOf_any y.d y.f _ y.n y.n y.ss y.k y.g y.s y.o _ MB1.out mb2 S2.out).mono ?_
              rw [HXb.out]
              rintro e w3 ⟨rfl, hb3⟩
              have HB3 := Lib.hid (HB2.out.trans (hb3.mono HB2.out.size))
              clear hb3
              go_wp2_with fail
              go_roundw
              case rel => exact ⟨k + 1, by omega, by go_num, .inr ⟨by omega, h20, by rw [HYv.out]⟩, HO2.out, HB3.out⟩
              case measure => simp [intOf]; omega
        · have HV := Lib.hid (failR_len (xs := xs) (by rw [hl]; omega))
          clear hl
          generalize xs.getD k default = x at *
          go_wp2_with (go_at_call 96; refine (sLeftOf_any x.d x.f _ x.n x.n x.ss x.k x.g x.s x.o _ M1.out m2 S1.out).mono ?_; rw [HX.out]; rintro e w2 ⟨rfl, hb2⟩; have HB2 := Lib.hid (HB.out.trans (hb2.mono HB.out.size)); clear hb2)
          all_goals go_ret
          all_goals exact ⟨ret_int HV.out.symm, HB2.out⟩
    · have hk' : k = n := by omega
      subst hk'
      rcases hb with ⟨rfl, rfl⟩ | ⟨hk1, h20, rfl⟩
      · have HV := Lib.hid (failR_len (xs := xs) (by rw [hl]; omega))
        clear hl
        go_wp2
        go_ret
        exact ⟨ret_int HV.out.symm, HB.out⟩
      · have HV := Lib.hid (failR_yes (xs := xs) (by rw [hl]; omega) (by rw [hl]; exact HO.out))
        go_wp2
        go_ret
        exact ⟨ret_int (by rw [HV.out, HL.out]), HB.out⟩
end Go.Proofs.Yteghmdfiofbmiaa
