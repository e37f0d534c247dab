/-
  Two strips: contracts of SameFrame, IsAbove, IsBetween and ChangedSteps in the program and in the reference.
  By an AI agent.
-/
import Derived.Test.YtkmegaaaekbmaaaStrip
import Derived.WalkSmall
namespace Go.Proofs.Ytkmegaaaekbmaaa
open Go.ChangeShapes Go.WideShapes Go.ChangeAt Go.RowKit
set_option maxRecDepth 100000
set_option linter.unusedVariables false

def sameB (s t : ByteArray) : Bool := isStripB s && isStripB t && decide (s.size = t.size ∧ dN s = dN t)
theorem same_iff {s t : ByteArray} : sameB s t = true ↔ isStripB s = true ∧ isStripB t = true ∧ s.size = t.size ∧ dN s = dN t := by unfold sameB; simp [and_assoc]
theorem same_f {s t : ByteArray} (h : ¬ (isStripB s = true ∧ isStripB t = true ∧ s.size = t.size ∧ dN s = dN t)) : sameB s t = false := by
  cases e : sameB s t
  · rfl
  · exact absurd (same_iff.1 e) h
theorem eq_t {a b : Int} (h : a = b) : (a == b) = true := by simpa using h
theorem eq_f {a b : Int} (h : ¬ a = b) : (a == b) = false := by simpa using h
theorem downOf_d {s : ByteArray} (h : isStripB s = true) : downOf s = dN s := by unfold downOf; rw [h]; rfl
theorem fwdOf_d {s : ByteArray} (h : isStripB s = true) : fwdOf s = fN s := by unfold fwdOf; rw [h]; rfl

theorem iSameFrame_any (s t : ByteArray) (w : World) (hs : s.size ≤ 1048576) (ht : t.size ≤ 1048576) :
    Calls Try.prog 47 #[.string s, .string t] w fun e w' => e = .returned (.bool (sameB s t)) ∧ w = w' := by
  cases h1 : isStripB s
  · have HA := Lib.hid (same_f (s := s) (t := t) (fun h => by rw [h1] at h; exact absurd h.1 (by simp)))
    have H1 := Lib.hid h1
    clear h1
    go_enter Try.func47, Try.ntmps47
    go_wp2_with (go_at_call 74; refine (iIsStrip_any _ _ (by assumption)).mono ?_; rw [H1.out]; rintro e w' ⟨rfl, rfl⟩)
    go_ret
    exact ⟨ret_bool HA.out.symm, rfl⟩
  · cases h2 : isStripB t
    · have HA := Lib.hid (same_f (s := s) (t := t) (fun h => by rw [h2] at h; exact absurd h.2.1 (by simp)))
      have H1 := Lib.hid h1
      have H2 := Lib.hid h2
      clear h1 h2
      go_enter Try.func47, Try.ntmps47
      go_wp2_with (go_at_call 74; refine (iIsStrip_any _ _ (by assumption)).mono ?_; (first | rw [H1.out] | rw [H2.out]); rintro e w' ⟨rfl, rfl⟩)
      go_ret
      exact ⟨ret_bool HA.out.symm, rfl⟩
    · have D1 := downOf_d h1
      have D2 := downOf_d h2
      by_cases h3 : (s.size : Int) = (t.size : Int)
      · by_cases h4 : downOf s = downOf t
        · have HA := Lib.hid (same_iff.2 ⟨h1, h2, by omega, by rw [D1, D2] at h4; omega⟩)
          have H1 := Lib.hid h1
          have H2 := Lib.hid h2
          have e3 := eq_t h3
          have e4 := eq_t h4
          clear h1 h2 h3 h4 D1 D2
          go_enter Try.func47, Try.ntmps47
          go_wp2_with (first | (go_at_call 74; refine (iIsStrip_any _ _ (by assumption)).mono ?_; (first | rw [H1.out] | rw [H2.out]); rintro e w' ⟨rfl, rfl⟩) | (go_at_call 75; refine (iDownOf_any _ _ (by assumption)).mono ?_; rintro e w' ⟨rfl, rfl⟩))
          go_ret
          exact ⟨ret_bool HA.out.symm, rfl⟩
        · have HA := Lib.hid (same_f (s := s) (t := t) (fun h => h4 (by rw [D1, D2, h.2.2.2])))
          have H1 := Lib.hid h1
          have H2 := Lib.hid h2
          have e3 := eq_t h3
          have e4 := eq_f h4
          clear h1 h2 h3 h4 D1 D2
          go_enter Try.func47, Try.ntmps47
          go_wp2_with (first | (go_at_call 74; refine (iIsStrip_any _ _ (by assumption)).mono ?_; (first | rw [H1.out] | rw [H2.out]); rintro e w' ⟨rfl, rfl⟩) | (go_at_call 75; refine (iDownOf_any _ _ (by assumption)).mono ?_; rintro e w' ⟨rfl, rfl⟩))
          go_ret
          exact ⟨ret_bool HA.out.symm, rfl⟩
      · have HA := Lib.hid (same_f (s := s) (t := t) (fun h => h3 (by rw [h.2.2.1])))
        have H1 := Lib.hid h1
        have H2 := Lib.hid h2
        have e3 := eq_f h3
        clear h1 h2 h3 D1 D2
        go_enter Try.func47, Try.ntmps47
        go_wp2_with (first | (go_at_call 74; refine (iIsStrip_any _ _ (by assumption)).mono ?_; (first | rw [H1.out] | rw [H2.out]); rintro e w' ⟨rfl, rfl⟩) | (go_at_call 75; refine (iDownOf_any _ _ (by assumption)).mono ?_; rintro e w' ⟨rfl, rfl⟩))
        go_ret
        exact ⟨ret_bool HA.out.symm, rfl⟩

theorem sSameFrame_any (s t : ByteArray) (w : World) (hs : s.size ≤ 1048576) (ht : t.size ≤ 1048576) :
    Calls Try.prog 46 #[.string s, .string t] w fun e w' => e = .returned (.bool (sameB s t)) ∧ w = w' := by
  cases h1 : isStripB s
  · have HA := Lib.hid (same_f (s := s) (t := t) (fun h => by rw [h1] at h; exact absurd h.1 (by simp)))
    have H1 := Lib.hid h1
    clear h1
    go_enter Try.func46, Try.ntmps46
    go_wp2_with (go_at_call 71; refine (sIsStrip_any _ _ (by assumption)).mono ?_; rw [H1.out]; rintro e w' ⟨rfl, rfl⟩)
    go_ret
    exact ⟨ret_bool HA.out.symm, rfl⟩
  · cases h2 : isStripB t
    · have HA := Lib.hid (same_f (s := s) (t := t) (fun h => by rw [h2] at h; exact absurd h.2.1 (by simp)))
      have H1 := Lib.hid h1
      have H2 := Lib.hid h2
      clear h1 h2
      go_enter Try.func46, Try.ntmps46
      go_wp2_with (go_at_call 71; refine (sIsStrip_any _ _ (by assumption)).mono ?_; (first | rw [H1.out] | rw [H2.out]); rintro e w' ⟨rfl, rfl⟩)
      go_ret
      exact ⟨ret_bool HA.out.symm, rfl⟩
    · have D1 := downOf_d h1
      have D2 := downOf_d h2
      have F1 := fwdOf_d h1
      have F2 := fwdOf_d h2
      have S1 := (isStrip_iff.1 h1).1
      have S2 := (isStrip_iff.1 h2).1
      by_cases h3 : downOf s = downOf t
      · by_cases h4 : fwdOf s = fwdOf t
        · have HA := Lib.hid (same_iff.2 ⟨h1, h2, by rw [D1, D2] at h3; rw [F1, F2] at h4; omega, by rw [D1, D2] at h3; omega⟩)
          have H1 := Lib.hid h1
          have H2 := Lib.hid h2
          have e3 := eq_t h3
          have e4 := eq_t h4
          clear h1 h2 h3 h4 D1 D2 F1 F2 S1 S2
          go_enter Try.func46, Try.ntmps46
          go_wp2_with (first | (go_at_call 71; refine (sIsStrip_any _ _ (by assumption)).mono ?_; (first | rw [H1.out] | rw [H2.out]); rintro e w' ⟨rfl, rfl⟩) | (go_at_call 72; refine (sDownOf_any _ _ (by assumption)).mono ?_; rintro e w' ⟨rfl, rfl⟩) | (go_at_call 73; refine (sForwardOf_any _ _ (by assumption)).mono ?_; rintro e w' ⟨rfl, rfl⟩))
          go_ret
          exact ⟨ret_bool HA.out.symm, rfl⟩
        · have HA := Lib.hid (same_f (s := s) (t := t) (fun h => h4 (by rw [F1, F2]; have := h.2.2; omega)))
          have H1 := Lib.hid h1
          have H2 := Lib.hid h2
          have e3 := eq_t h3
          have e4 := eq_f h4
          clear h1 h2 h3 h4 D1 D2 F1 F2 S1 S2
          go_enter Try.func46, Try.ntmps46
          go_wp2_with (first | (go_at_call 71; refine (sIsStrip_any _ _ (by assumption)).mono ?_; (first | rw [H1.out] | rw [H2.out]); rintro e w' ⟨rfl, rfl⟩) | (go_at_call 72; refine (sDownOf_any _ _ (by assumption)).mono ?_; rintro e w' ⟨rfl, rfl⟩) | (go_at_call 73; refine (sForwardOf_any _ _ (by assumption)).mono ?_; rintro e w' ⟨rfl, rfl⟩))
          go_ret
          exact ⟨ret_bool HA.out.symm, rfl⟩
      · have HA := Lib.hid (same_f (s := s) (t := t) (fun h => h3 (by rw [D1, D2, h.2.2.2])))
        have H1 := Lib.hid h1
        have H2 := Lib.hid h2
        have e3 := eq_f h3
        clear h1 h2 h3 D1 D2 F1 F2 S1 S2
        go_enter Try.func46, Try.ntmps46
        go_wp2_with (first | (go_at_call 71; refine (sIsStrip_any _ _ (by assumption)).mono ?_; (first | rw [H1.out] | rw [H2.out]); rintro e w' ⟨rfl, rfl⟩) | (go_at_call 72; refine (sDownOf_any _ _ (by assumption)).mono ?_; rintro e w' ⟨rfl, rfl⟩))
        go_ret
        exact ⟨ret_bool HA.out.symm, rfl⟩

def chg (s t : ByteArray) : Nat → Nat
  | 0 => 0
  | k + 1 => chg s t k + if s.data.toList.getD k 0 = t.data.toList.getD k 0 then 0 else 1
def chgOf (s t : ByteArray) : Int := if sameB s t = true then (chg s t s.size : Nat) else -1
theorem byte_at {s : ByteArray} {k : Nat} (h : k < s.size) : s.data.toList.getD k 0 = s[k] := by
  have h' : k < s.data.size := h
  rw [List.getD, Array.getElem?_toList, Array.getElem?_eq_getElem h']
  rfl
theorem chg_le (s t : ByteArray) (k : Nat) : chg s t k ≤ k := by
  induction k with
  | zero => exact Nat.le_refl _
  | succ k ih => unfold chg; split <;> omega
theorem chg_no {s t : ByteArray} {k : Nat} (h : k < s.size) (h' : k < t.size) (e : s[k] = t[k]) : chg s t (k + 1) = chg s t k := by
  show chg s t k + _ = _; rw [byte_at h, byte_at h', if_pos e]; rfl
theorem chg_yes {s t : ByteArray} {k : Nat} (h : k < s.size) (h' : k < t.size) (e : ¬ s[k] = t[k]) : chg s t (k + 1) = chg s t k + 1 := by
  show chg s t k + _ = _; rw [byte_at h, byte_at h', if_neg e]
theorem byte_ne_f {x y : UInt8} (h : x = y) : (((x.toNat : Nat) : Int) != ((y.toNat : Nat) : Int)) = false := by subst h; simp
theorem byte_ne_t {x y : UInt8} (h : ¬ x = y) : (((x.toNat : Nat) : Int) != ((y.toNat : Nat) : Int)) = true := by
  have : ¬ ((x.toNat : Nat) : Int) = ((y.toNat : Nat) : Int) := fun e => h (UInt8.toNat_inj.1 (by omega))
  simpa using this

theorem iChangedSteps_any (s t : ByteArray) (w : World) (hs : s.size ≤ 1048576) (ht : t.size ≤ 1048576) :
    Calls Try.prog 14 #[.string s, .string t] w fun e w' => e = .returned (.int .i64 (chgOf s t)) ∧ Below w.heap.size w w' := by
  cases hsame : sameB s t
  · have HS := Lib.hid hsame
    have HV : Hid (chgOf s t = -1) := Lib.hid (by unfold chgOf; rw [hsame]; rfl)
    clear hsame
    go_enter Try.func14, Try.ntmps14
    go_wp2_with (go_at_call 47; refine (iSameFrame_any _ _ _ hs ht).mono ?_; rw [HS.out]; rintro e w' ⟨rfl, rfl⟩)
    go_ret
    exact ⟨ret_int HV.out.symm, Below.refl _ _⟩
  · have HV : Hid (chgOf s t = (chg s t s.size : Nat)) := Lib.hid (by unfold chgOf; rw [hsame]; rfl)
    have hz := (same_iff.1 hsame).2.2.1
    have HZ := Lib.hid hz
    have hz1 : s.size ≤ t.size := by omega
    have HS := Lib.hid hsame
    clear hsame hz
    go_enter Try.func14, Try.ntmps14
    go_wp2_with (go_at_call 47; refine (iSameFrame_any _ _ _ hs ht).mono ?_; rw [HS.out]; rintro e w' ⟨rfl, rfl⟩)
    go_loopw [5, 13] (fun n i wr => ∃ k : Nat, k ≤ s.size ∧ i = .int .i64 k ∧ n = .int .i64 (chg s t k : Nat) ∧ Below w.heap.size w wr) (fun _ i _ => s.size - (intOf i).toNat)
    case atStart => exact ⟨0, Nat.zero_le _, rfl, rfl, Below.refl _ _⟩
    case round =>
      obtain ⟨k, hk, rfl, rfl, hB⟩ := hrel
      have HB := Lib.hid hB
      clear hB
      have l1 := chg_le s t k
      by_cases hlt : k < s.size
      · have hlt2 : k < t.size := by omega
        have i0 : (0 : Int) ≤ (k : Int) := Int.natCast_nonneg _
        have i1 : (k : Int) < (s.size : Int) := by omega
        have i2 : (k : Int) < (t.size : Int) := by omega
        by_cases a : s[k] = t[k]
        · have n1 := Lib.hid (chg_no hlt hlt2 a)
          have b1 := byte_ne_f a
          clear a
          go_wp2
          go_quiet (fail)
          go_wp2
          go_roundw
          case rel => exact ⟨k + 1, by omega, by go_num, by rw [n1.out], below_drewN HB.out _⟩
          case measure => simp [intOf]; omega
        · have n1 := Lib.hid (chg_yes hlt hlt2 a)
          have b1 := byte_ne_t a
          clear a
          go_wp2
          go_quiet (fail)
          go_wp2
          go_roundw
          case rel => exact ⟨k + 1, by omega, by go_num, by rw [n1.out]; go_num, below_drewN HB.out _⟩
          case measure => simp [intOf]; omega
      · have hk' : k = s.size := by omega
        subst hk'
        go_wp2
        go_ret
        exact ⟨ret_int HV.out.symm, HB.out⟩

theorem sChangedSteps_any (s t : ByteArray) (w : World) (hs : s.size ≤ 1048576) (ht : t.size ≤ 1048576) :
    Calls Try.prog 13 #[.string s, .string t] w fun e w' => e = .returned (.int .i64 (chgOf s t)) ∧ Below w.heap.size w w' := by
  cases hsame : sameB s t
  · have HS := Lib.hid hsame
    have HV : Hid (chgOf s t = -1) := Lib.hid (by unfold chgOf; rw [hsame]; rfl)
    clear hsame
    go_enter Try.func13, Try.ntmps13
    go_wp2_with (go_at_call 46; refine (sSameFrame_any _ _ _ hs ht).mono ?_; rw [HS.out]; rintro e w' ⟨rfl, rfl⟩)
    go_ret
    exact ⟨ret_int HV.out.symm, Below.refl _ _⟩
  · have HV : Hid (chgOf s t = (chg s t s.size : Nat)) := Lib.hid (by unfold chgOf; rw [hsame]; rfl)
    have hz := (same_iff.1 hsame).2.2.1
    have HZ := Lib.hid hz
    have hz1 : s.size ≤ t.size := by omega
    have HS := Lib.hid hsame
    clear hsame hz
    go_enter Try.func13, Try.ntmps13
    go_wp2_with (go_at_call 46; refine (sSameFrame_any _ _ _ hs ht).mono ?_; rw [HS.out]; rintro e w' ⟨rfl, rfl⟩)
    go_loopw [5, 6] (fun n i wr => ∃ k : Nat, k ≤ s.size ∧ i = .int .i64 k ∧ n = .int .i64 (chg s t k : Nat) ∧ Below w.heap.size w wr) (fun _ i _ => s.size - (intOf i).toNat)
    case atStart => exact ⟨0, Nat.zero_le _, rfl, rfl, Below.refl _ _⟩
    case round =>
      obtain ⟨k, hk, rfl, rfl, hB⟩ := hrel
      have HB := Lib.hid hB
      clear hB
      have l1 := chg_le s t k
      by_cases hlt : k < s.size
      · have hlt2 : k < t.size := by omega
        have i0 : (0 : Int) ≤ (k : Int) := Int.natCast_nonneg _
        have i1 : (k : Int) < (s.size : Int) := by omega
        have i2 : (k : Int) < (t.size : Int) := by omega
        by_cases a : s[k] = t[k]
        · have n1 := Lib.hid (chg_no hlt hlt2 a)
          have b1 := byte_ne_f a
          clear a
          go_wp2
          go_quiet (fail)
          go_wp2
          go_roundw
          case rel => exact ⟨k + 1, by omega, by go_num, by rw [n1.out], below_drewN HB.out _⟩
          case measure => simp [intOf]; omega
        · have n1 := Lib.hid (chg_yes hlt hlt2 a)
          have b1 := byte_ne_t a
          clear a
          go_wp2
          go_quiet (fail)
          go_wp2
          go_roundw
          case rel => exact ⟨k + 1, by omega, by go_num, by rw [n1.out]; go_num, below_drewN HB.out _⟩
          case measure => simp [intOf]; omega
      · have hk' : k = s.size := by omega
        subst hk'
        go_wp2
        go_ret
        exact ⟨ret_int HV.out.symm, HB.out⟩

def aboveB (s t : ByteArray) : Bool := sameB s t && (List.range (s.size + 1)).all (fun k => decide (cnt t 102 k ≤ cnt s 102 k))
theorem above_iff {s t : ByteArray} : aboveB s t = true ↔ sameB s t = true ∧ ∀ k, k ≤ s.size → cnt t 102 k ≤ cnt s 102 k := by
  unfold aboveB
  simp only [Bool.and_eq_true, List.all_eq_true, List.mem_range, decide_eq_true_eq]
  exact ⟨fun h => ⟨h.1, fun k hk => h.2 k (by omega)⟩, fun h => ⟨h.1, fun k hk => h.2 k (by omega)⟩⟩
theorem above_f {s t : ByteArray} (h : ¬ (sameB s t = true ∧ ∀ k, k ≤ s.size → cnt t 102 k ≤ cnt s 102 k)) : aboveB s t = false := by
  cases e : aboveB s t
  · rfl
  · exact absurd (above_iff.1 e) h
theorem same_fN {s t : ByteArray} (h : sameB s t = true) : cnt t 102 s.size = cnt s 102 s.size := by
  obtain ⟨h1, h2, h3, h4⟩ := same_iff.1 h
  have s1 := (isStrip_iff.1 h1).1
  have s2 := (isStrip_iff.1 h2).1
  have e1 : cnt t 102 s.size = fN t := by rw [h3]; rfl
  have e2 : cnt s 102 s.size = fN s := rfl
  rw [e1, e2]; omega
theorem cnt_extract (s : ByteArray) (c : UInt8) (k : Nat) : cnt (s.extract 0 k) c k = cnt s c k := by
  unfold cnt
  have : (s.extract 0 k).data.toList = s.data.toList.take k := by
    simp [ByteArray.data_extract, Array.toList_extract]
  rw [this, List.take_take, Nat.min_self]

theorem sIsAbove_any (s t : ByteArray) (w : World) (hs : s.size ≤ 1048576) (ht : t.size ≤ 1048576) :
    Calls Try.prog 48 #[.string s, .string t] w fun e w' => e = .returned (.bool (aboveB s t)) ∧ w = w' := by
  cases hsame : sameB s t
  · have HS := Lib.hid hsame
    have HV := Lib.hid (above_f (s := s) (t := t) (fun h => by rw [hsame] at h; exact absurd h.1 (by simp)))
    clear hsame
    go_enter Try.func48, Try.ntmps48
    go_wp2_with (go_at_call 46; refine (sSameFrame_any _ _ _ hs ht).mono ?_; rw [HS.out]; rintro e w' ⟨rfl, rfl⟩)
    go_ret
    exact ⟨ret_bool HV.out.symm, rfl⟩
  · have hz := (same_iff.1 hsame).2.2.1
    have hz1 : s.size ≤ t.size := by omega
    have HS := Lib.hid hsame
    clear hsame hz
    go_enter Try.func48, Try.ntmps48
    go_wp2_with (go_at_call 46; refine (sSameFrame_any _ _ _ hs ht).mono ?_; rw [HS.out]; rintro e w' ⟨rfl, rfl⟩)
    go_loop [5, 6] (fun n i => ∃ k : Nat, k ≤ s.size ∧ i = .int .i64 k ∧ n = .int .i64 ((cnt s 102 k : Nat) - (cnt t 102 k : Nat)) ∧ ∀ j, j ≤ k → cnt t 102 j ≤ cnt s 102 j) (fun _ i => s.size - (intOf i).toNat)
    case atStart => exact ⟨0, Nat.zero_le _, rfl, by rw [cnt_zero, cnt_zero]; rfl, fun j hj => by
      have : j = 0 := by omega
      subst this; rw [cnt_zero]; omega⟩
    case round =>
      obtain ⟨k, hk, rfl, rfl, hall⟩ := hrel
      have l1 := cnt_le s 102 k
      have l2 := cnt_le t 102 k
      have l3 := hall k (Nat.le_refl k)
      have HA := Lib.hid hall
      clear hall
      by_cases hlt : k < s.size
      · have hlt2 : k < t.size := by omega
        by_cases a : s[k] = 102
        · by_cases b : t[k] = 102
          · have n1 := Lib.hid (cnt_yes hlt a)
            have n2 := Lib.hid (cnt_yes hlt2 b)
            have b1 := byte_102t a
            have b2 := byte_102t b
            clear a b
            go_wp2
            go_round
            case rel => exact ⟨k + 1, by omega, by go_num, congrArg (Value.int .i64) (by rw [n1.out, n2.out]; omega), fun j hj => by
              by_cases e : j = k + 1
              · subst e; rw [n1.out, n2.out]; omega
              · exact HA.out j (by omega)⟩
            case measure => simp [intOf]; omega
          · have n1 := Lib.hid (cnt_yes hlt a)
            have n2 := Lib.hid (cnt_no hlt2 b)
            have b1 := byte_102t a
            have b2 := byte_102f b
            clear a b
            go_wp2
            go_round
            case rel => exact ⟨k + 1, by omega, by go_num, congrArg (Value.int .i64) (by rw [n1.out, n2.out]; omega), fun j hj => by
              by_cases e : j = k + 1
              · subst e; rw [n1.out, n2.out]; omega
              · exact HA.out j (by omega)⟩
            case measure => simp [intOf]; omega
        · by_cases b : t[k] = 102
          · have n1 := Lib.hid (cnt_no hlt a)
            have n2 := Lib.hid (cnt_yes hlt2 b)
            have b1 := byte_102f a
            have b2 := byte_102t b
            clear a b
            by_cases hn : cnt t 102 k < cnt s 102 k
            · go_wp2
              go_round
              case rel => exact ⟨k + 1, by omega, by go_num, congrArg (Value.int .i64) (by rw [n1.out, n2.out]; omega), fun j hj => by
                by_cases e : j = k + 1
                · subst e; rw [n1.out, n2.out]; omega
                · exact HA.out j (by omega)⟩
              case measure => simp [intOf]; omega
            · have HV := Lib.hid (above_f (s := s) (t := t) (fun h => by have := h.2 (k + 1) (by omega); rw [n1.out, n2.out] at this; omega))
              go_wp2
              go_ret
              exact ⟨ret_bool HV.out.symm, rfl⟩
          · have n1 := Lib.hid (cnt_no hlt a)
            have n2 := Lib.hid (cnt_no hlt2 b)
            have b1 := byte_102f a
            have b2 := byte_102f b
            clear a b
            go_wp2
            go_round
            case rel => exact ⟨k + 1, by omega, by go_num, congrArg (Value.int .i64) (by rw [n1.out, n2.out]), fun j hj => by
              by_cases e : j = k + 1
              · subst e; rw [n1.out, n2.out]; omega
              · exact HA.out j (by omega)⟩
            case measure => simp [intOf]; omega
      · have hk' : k = s.size := by omega
        subst hk'
        have HV := Lib.hid (above_iff.2 ⟨HS.out, HA.out⟩)
        go_wp2
        go_ret
        exact ⟨ret_bool HV.out.symm, rfl⟩

theorem forwards_any (s : ByteArray) (k : Nat) (w : World) (hs : s.size ≤ 1048576) (hk : k ≤ s.size) :
    Calls Try.prog 76 #[.string s, .int .i64 k] w fun e w' => e = .returned (.int .i64 (cnt s 102 k : Nat)) ∧ w = w' := by
  have HX := Lib.hid (cnt_extract s 102 k)
  go_enter Try.func76, Try.ntmps76
  go_wp2_with (go_at_call 89; refine (strCount_any _ _ _).mono ?_; rintro e w' ⟨rfl, rfl⟩)
  go_ret
  exact ⟨ret_int (by rw [HX.out]), rfl⟩
theorem iIsAbove_any (s t : ByteArray) (w : World) (hs : s.size ≤ 1048576) (ht : t.size ≤ 1048576) :
    Calls Try.prog 49 #[.string s, .string t] w fun e w' => e = .returned (.bool (aboveB s t)) ∧ w = w' := by
  cases hsame : sameB s t
  · have HS := Lib.hid hsame
    have HV := Lib.hid (above_f (s := s) (t := t) (fun h => by rw [hsame] at h; exact absurd h.1 (by simp)))
    clear hsame
    go_enter Try.func49, Try.ntmps49
    go_wp2_with (go_at_call 47; refine (iSameFrame_any _ _ _ hs ht).mono ?_; rw [HS.out]; rintro e w' ⟨rfl, rfl⟩)
    go_ret
    exact ⟨ret_bool HV.out.symm, rfl⟩
  · have hz := (same_iff.1 hsame).2.2.1
    have hz1 : s.size ≤ t.size := by omega
    have HE := Lib.hid (same_fN hsame)
    have HS := Lib.hid hsame
    clear hsame hz
    go_enter Try.func49, Try.ntmps49
    go_wp2_with (go_at_call 47; refine (iSameFrame_any _ _ _ hs ht).mono ?_; rw [HS.out]; rintro e w' ⟨rfl, rfl⟩)
    go_loop [12] (fun i => ∃ k : Nat, k ≤ s.size ∧ i = .int .i64 k ∧ ∀ j, j < k → cnt t 102 j ≤ cnt s 102 j) (fun i => s.size - (intOf i).toNat)
    case atStart => exact ⟨0, Nat.zero_le _, rfl, fun j hj => absurd hj (Nat.not_lt_zero j)⟩
    case round =>
      obtain ⟨k, hk, rfl, hall⟩ := hrel
      have HA := Lib.hid hall
      clear hall
      by_cases hlt : k < s.size
      · by_cases hn : cnt s 102 k < cnt t 102 k
        · have HV := Lib.hid (above_f (s := s) (t := t) (fun h => by have := h.2 k hk; omega))
          go_wp2_with (go_at_call 76; refine (forwards_any _ _ _ (by assumption) (by omega)).mono ?_; rintro e w' ⟨rfl, rfl⟩)
          go_ret
          exact ⟨ret_bool HV.out.symm, rfl⟩
        · have X : Hid (∀ j, j < k + 1 → cnt t 102 j ≤ cnt s 102 j) := Lib.hid (fun j hj => by
            by_cases e : j = k
            · subst e; omega
            · exact HA.out j (by omega))
          clear HA
          go_wp2_with (go_at_call 76; refine (forwards_any _ _ _ (by assumption) (by omega)).mono ?_; rintro e w' ⟨rfl, rfl⟩)
          go_round
          case rel => exact ⟨k + 1, by omega, by go_num, X.out⟩
          case measure => simp [intOf]; omega
      · have hk' : k = s.size := by omega
        subst hk'
        have HV := Lib.hid (above_iff.2 ⟨HS.out, fun j hj => by
          by_cases e : j = s.size
          · subst e; rw [HE.out]; exact Nat.le_refl _
          · exact HA.out j (by omega)⟩)
        go_wp2
        go_ret
        exact ⟨ret_bool HV.out.symm, rfl⟩
theorem iIsBetween_any (l s h : ByteArray) (w : World) (hl : l.size ≤ 1048576) (hs : s.size ≤ 1048576) (hh : h.size ≤ 1048576) :
    Calls Try.prog 16 #[.string l, .string s, .string h] w fun e w' => e = .returned (.bool (aboveB s l && aboveB h s)) ∧ w = w' := by
  cases h1 : aboveB s l
  · have H1 := Lib.hid h1
    clear h1
    go_enter Try.func16, Try.ntmps16
    go_wp2_with (go_at_call 49; refine (iIsAbove_any _ _ _ (by assumption) (by assumption)).mono ?_; rw [H1.out]; rintro e w' ⟨rfl, rfl⟩)
    go_ret
    exact ⟨rfl, rfl⟩
  · have H1 := Lib.hid h1
    clear h1
    go_enter Try.func16, Try.ntmps16
    go_wp2_with fail
    refine (iIsAbove_any _ _ _ (by assumption) (by assumption)).mono ?_
    rw [H1.out]
    rintro e w' ⟨rfl, rfl⟩
    go_wp2_with fail
    refine (iIsAbove_any _ _ _ (by assumption) (by assumption)).mono ?_
    rintro e w' ⟨rfl, rfl⟩
    go_wp2
    go_ret
    exact ⟨rfl, rfl⟩
theorem sIsBetween_any (l s h : ByteArray) (w : World) (hl : l.size ≤ 1048576) (hs : s.size ≤ 1048576) (hh : h.size ≤ 1048576) :
    Calls Try.prog 15 #[.string l, .string s, .string h] w fun e w' => e = .returned (.bool (aboveB s l && aboveB h s)) ∧ w = w' := by
  cases h1 : aboveB s l
  · have H1 := Lib.hid h1
    clear h1
    go_enter Try.func15, Try.ntmps15
    go_wp2_with (go_at_call 48; refine (sIsAbove_any _ _ _ (by assumption) (by assumption)).mono ?_; rw [H1.out]; rintro e w' ⟨rfl, rfl⟩)
    go_ret
    exact ⟨rfl, rfl⟩
  · have H1 := Lib.hid h1
    clear h1
    go_enter Try.func15, Try.ntmps15
    go_wp2_with fail
    refine (sIsAbove_any _ _ _ (by assumption) (by assumption)).mono ?_
    rw [H1.out]
    rintro e w' ⟨rfl, rfl⟩
    go_wp2_with fail
    refine (sIsAbove_any _ _ _ (by assumption) (by assumption)).mono ?_
    rintro e w' ⟨rfl, rfl⟩
    go_wp2
    go_ret
    exact ⟨rfl, rfl⟩
end Go.Proofs.Ytkmegaaaekbmaaa
