/-
  Two strips: contracts of SameFrame, IsAbove, IsBetween and ChangedSteps in the program and in the reference.
  By an AI agent.
-/
import Derived.Test.YtlplfpoggifadaaStrip
import Derived.WalkSmall
namespace Go.Proofs.Ytlplfpoggifadaa
open Go.ChangeShapes Go.WideShapes Go.ChangeAt Go.RowKit
set_option maxRecDepth 100000
set_option linter.unusedVariables false

def sameB (s t : ByteArray) : Bool := isStripB s && isStripB t && decide (s.size = t.size ∧ dN s = dN t)
theorem same_iff {s t : ByteArray} : sameB s t = true ↔ isStripB s = true ∧ isStripB t = true ∧ s.size = t.size ∧ dN s = dN t := by unfold sameB; simp [and_assoc]
theorem same_f {s t : ByteArray} (h : ¬ (isStripB s = true ∧ isStripB t = true ∧ s.size = t.size ∧ dN s = dN t)) : sameB s t = false := by
  cases e : sameB s t
  · rfl
  · exact absurd (same_iff.1 e) h
theorem eq_t {a b : Int} (h : a = b) : (a == b) = true := by simpa using h
theorem eq_f {a b : Int} (h : ¬ a = b) : (a == b) = false := by simpa using h
theorem downOf_d {s : ByteArray} (h : isStripB s = true) : downOf s = dN s := by unfold downOf; rw [h]; rfl
theorem fwdOf_d {s : ByteArray} (h : isStripB s = true) : fwdOf s = fN s := by unfold fwdOf; rw [h]; rfl

theorem iSameFrame_any (s t : ByteArray) (w : World) (hs : s.size ≤ 1048576) (ht : t.size ≤ 1048576) :
    Calls Try.prog 80 #[.string s, .string t] w fun e w' => e = .returned (.bool (sameB s t)) ∧ w = w' := by
  cases h1 : isStripB s
  · have HA := Lib.hid (same_f (s := s) (t := t) (fun h => by rw [h1] at h; exact absurd h.1 (by simp)))
    have H1 := Lib.hid h1
    clear h1
    go_enter Try.func80, Try.ntmps80
    go_wp2_with (go_at_call 78; refine (iIsStrip_any _ _ (by assumption)).mono ?_; rw [H1.out]; rintro e w' ⟨rfl, rfl⟩)
    go_ret
    exact ⟨ret_bool HA.out.symm, rfl⟩
  · cases h2 : isStripB t
    · have HA := Lib.hid (same_f (s := s) (t := t) (fun h => by rw [h2] at h; exact absurd h.2.1 (by simp)))
      have H1 := Lib.hid h1
      have H2 := Lib.hid h2
      clear h1 h2
      go_enter Try.func80, Try.ntmps80
      go_wp2_with (go_at_call 78; refine (iIsStrip_any _ _ (by assumption)).mono ?_; (first | rw [H1.out] | rw [H2.out]); rintro e w' ⟨rfl, rfl⟩)
      go_ret
      exact ⟨ret_bool HA.out.symm, rfl⟩
    · have D1 := downOf_d h1
      have D2 := downOf_d h2
      by_cases h3 : (s.size : Int) = (t.size : Int)
      · by_cases h4 : downOf s = downOf t
        · have HA := Lib.hid (same_iff.2 ⟨h1, h2, by omega, by rw [D1, D2] at h4; omega⟩)
          have H1 := Lib.hid h1
          have H2 := Lib.hid h2
          have e3 := eq_t h3
          have e4 := eq_t h4
          clear h1 h2 h3 h4 D1 D2
          go_enter Try.func80, Try.ntmps80
          go_wp2_with (first | (go_at_call 78; refine (iIsStrip_any _ _ (by assumption)).mono ?_; (first | rw [H1.out] | rw [H2.out]); rintro e w' ⟨rfl, rfl⟩) | (go_at_call 65; refine (iDownOf_any _ _ (by assumption)).mono ?_; rintro e w' ⟨rfl, rfl⟩))
          go_ret
          exact ⟨ret_bool HA.out.symm, rfl⟩
        · have HA := Lib.hid (same_f (s := s) (t := t) (fun h => h4 (by rw [D1, D2, h.2.2.2])))
          have H1 := Lib.hid h1
          have H2 := Lib.hid h2
          have e3 := eq_t h3
          have e4 := eq_f h4
          clear h1 h2 h3 h4 D1 D2
          go_enter Try.func80, Try.ntmps80
          go_wp2_with (first | (go_at_call 78; refine (iIsStrip_any _ _ (by assumption)).mono ?_; (first | rw [H1.out] | rw [H2.out]); rintro e w' ⟨rfl, rfl⟩) | (go_at_call 65; refine (iDownOf_any _ _ (by assumption)).mono ?_; rintro e w' ⟨rfl, rfl⟩))
          go_ret
          exact ⟨ret_bool HA.out.symm, rfl⟩
      · have HA := Lib.hid (same_f (s := s) (t := t) (fun h => h3 (by rw [h.2.2.1])))
        have H1 := Lib.hid h1
        have H2 := Lib.hid h2
        have e3 := eq_f h3
        clear h1 h2 h3 D1 D2
        go_enter Try.func80, Try.ntmps80
        go_wp2_with (first | (go_at_call 78; refine (iIsStrip_any _ _ (by assumption)).mono ?_; (first | rw [H1.out] | rw [H2.out]); rintro e w' ⟨rfl, rfl⟩) | (go_at_call 65; refine (iDownOf_any _ _ (by assumption)).mono ?_; rintro e w' ⟨rfl, rfl⟩))
        go_ret
        exact ⟨ret_bool HA.out.symm, rfl⟩

theorem sSameFrame_any (s t : ByteArray) (w : World) (hs : s.size ≤ 1048576) (ht : t.size ≤ 1048576) :
    Calls Try.prog 75 #[.string s, .string t] w fun e w' => e = .returned (.bool (sameB s t)) ∧ w = w' := by
  cases h1 : isStripB s
  · have HA := Lib.hid (same_f (s := s) (t := t) (fun h => by rw [h1] at h; exact absurd h.1 (by simp)))
    have H1 := Lib.hid h1
    clear h1
    go_enter Try.func75, Try.ntmps75
    go_wp2_with (go_at_call 76; refine (sIsStrip_any _ _ (by assumption)).mono ?_; rw [H1.out]; rintro e w' ⟨rfl, rfl⟩)
    go_ret
    exact ⟨ret_bool HA.out.symm, rfl⟩
  · cases h2 : isStripB t
    · have HA := Lib.hid (same_f (s := s) (t := t) (fun h => by rw [h2] at h; exact absurd h.2.1 (by simp)))
      have H1 := Lib.hid h1
      have H2 := Lib.hid h2
      clear h1 h2
      go_enter Try.func75, Try.ntmps75
      go_wp2_with (go_at_call 76; refine (sIsStrip_any _ _ (by assumption)).mono ?_; (first | rw [H1.out] | rw [H2.out]); rintro e w' ⟨rfl, rfl⟩)
      go_ret
      exact ⟨ret_bool HA.out.symm, rfl⟩
    · have D1 := downOf_d h1
      have D2 := downOf_d h2
      have F1 := fwdOf_d h1
      have F2 := fwdOf_d h2
      have S1 := (isStrip_iff.1 h1).1
      have S2 := (isStrip_iff.1 h2).1
      by_cases h3 : downOf s = downOf t
      · by_cases h4 : fwdOf s = fwdOf t
        · have HA := Lib.hid (same_iff.2 ⟨h1, h2, by rw [D1, D2] at h3; rw [F1, F2] at h4; omega, by rw [D1, D2] at h3; omega⟩)
          have H1 := Lib.hid h1
          have H2 := Lib.hid h2
          have e3 := eq_t h3
          have e4 := eq_t h4
          clear h1 h2 h3 h4 D1 D2 F1 F2 S1 S2
          go_enter Try.func75, Try.ntmps75
          go_wp2_with (first | (go_at_call 76; refine (sIsStrip_any _ _ (by assumption)).mono ?_; (first | rw [H1.out] | rw [H2.out]); rintro e w' ⟨rfl, rfl⟩) | (go_at_call 63; refine (sDownOf_any _ _ (by assumption)).mono ?_; rintro e w' ⟨rfl, rfl⟩) | (go_at_call 64; refine (sForwardOf_any _ _ (by assumption)).mono ?_; rintro e w' ⟨rfl, rfl⟩))
          go_ret
          exact ⟨ret_bool HA.out.symm, rfl⟩
        · have HA := Lib.hid (same_f (s := s) (t := t) (fun h => h4 (by rw [F1, F2]; have := h.2.2; omega)))
          have H1 := Lib.hid h1
          have H2 := Lib.hid h2
          have e3 := eq_t h3
          have e4 := eq_f h4
          clear h1 h2 h3 h4 D1 D2 F1 F2 S1 S2
          go_enter Try.func75, Try.ntmps75
          go_wp2_with (first | (go_at_call 76; refine (sIsStrip_any _ _ (by assumption)).mono ?_; (first | rw [H1.out] | rw [H2.out]); rintro e w' ⟨rfl, rfl⟩) | (go_at_call 63; refine (sDownOf_any _ _ (by assumption)).mono ?_; rintro e w' ⟨rfl, rfl⟩) | (go_at_call 64; refine (sForwardOf_any _ _ (by assumption)).mono ?_; rintro e w' ⟨rfl, rfl⟩))
          go_ret
          exact ⟨ret_bool HA.out.symm, rfl⟩
      · have HA := Lib.hid (same_f (s := s) (t := t) (fun h => h3 (by rw [D1, D2, h.2.2.2])))
        have H1 := Lib.hid h1
        have H2 := Lib.hid h2
        have e3 := eq_f h3
        clear h1 h2 h3 D1 D2 F1 F2 S1 S2
        go_enter Try.func75, Try.ntmps75
        go_wp2_with (first | (go_at_call 76; refine (sIsStrip_any _ _ (by assumption)).mono ?_; (first | rw [H1.out] | rw [H2.out]); rintro e w' ⟨rfl, rfl⟩) | (go_at_call 63; refine (sDownOf_any _ _ (by assumption)).mono ?_; rintro e w' ⟨rfl, rfl⟩))
        go_ret
        exact ⟨ret_bool HA.out.symm, rfl⟩

def chg (s t : ByteArray) : Nat → Nat
  | 0 => 0
  | k + 1 => chg s t k + if s.data.toList.getD k 0 = t.data.toList.getD k 0 then 0 else 1
def chgOf (s t : ByteArray) : Int := if sameB s t = true then (chg s t s.size : Nat) else -1
end Go.Proofs.Ytlplfpoggifadaa
