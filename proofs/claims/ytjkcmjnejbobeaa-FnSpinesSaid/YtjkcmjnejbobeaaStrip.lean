/-
  Strips as strings: whether a string is one, its letters d and f; contracts of IsStrip, DownOf, ForwardOf and strings.Count at one letter.
  By an AI agent.
-/
import Derived.Test.YtjkcmjnejbobeaaMem
import Derived.Lib.Bytealg
import Derived.WalkSpells
namespace Go.Proofs.Ytjkcmjnejbobeaa
open Go.ChangeShapes Go.WideShapes Go.ChangeAt Go.RowKit
set_option maxRecDepth 100000
set_option linter.unusedVariables false

/-- How often a letter stands among the first k of a string. -/
def cnt (s : ByteArray) (c : UInt8) (k : Nat) : Nat := (s.data.toList.take k).count c
def dN (s : ByteArray) : Nat := cnt s 100 s.size
def fN (s : ByteArray) : Nat := cnt s 102 s.size
theorem take_snoc (s : ByteArray) (k : Nat) (h : k < s.size) : s.data.toList.take (k + 1) = s.data.toList.take k ++ [s[k]] := by
  rw [List.take_succ_eq_append_getElem (by simpa using h)]; rfl
theorem cnt_zero (s : ByteArray) (c : UInt8) : cnt s c 0 = 0 := by simp [cnt]
theorem cnt_yes {s : ByteArray} {c : UInt8} {k : Nat} (h : k < s.size) (e : s[k] = c) : cnt s c (k + 1) = cnt s c k + 1 := by
  unfold cnt; rw [take_snoc s k h, List.count_append, e]; simp
theorem cnt_no {s : ByteArray} {c : UInt8} {k : Nat} (h : k < s.size) (e : s[k] ≠ c) : cnt s c (k + 1) = cnt s c k := by
  unfold cnt; rw [take_snoc s k h, List.count_append]; simp [e]
theorem cnt_le (s : ByteArray) (c : UInt8) (k : Nat) : cnt s c k ≤ k := by
  unfold cnt; exact Nat.le_trans List.count_le_length (List.length_take_le _ _)
theorem cnt_all (s : ByteArray) (c : UInt8) : Lib.countByte s.data.toList c = cnt s c s.size := by
  unfold cnt Lib.countByte; rw [List.take_of_length_le (by simp)]
theorem cnt_two {s : ByteArray} {k : Nat} (h : k ≤ s.size) : cnt s 100 k + cnt s 102 k ≤ k := by
  induction k with
  | zero => simp [cnt_zero]
  | succ k ih =>
    have hk : k < s.size := by omega
    by_cases e : s[k] = 100
    · rw [cnt_yes hk e, cnt_no hk (by rw [e]; decide)]; have := ih (by omega); omega
    · by_cases e' : s[k] = 102
      · rw [cnt_no hk e, cnt_yes hk e']; have := ih (by omega); omega
      · rw [cnt_no hk e, cnt_no hk e']; have := ih (by omega); omega
/-- What a letter that is neither leaves: fewer than all are counted, from there on. -/
theorem cnt_gap {s : ByteArray} {k : Nat} (h : k < s.size) (e : s[k] ≠ 100) (e' : s[k] ≠ 102) : ∀ m, k < m → m ≤ s.size → cnt s 100 m + cnt s 102 m < m := by
  intro m
  induction m with
  | zero => intro hkm; omega
  | succ m ih =>
    intro hkm hm
    by_cases hk : k = m
    · subst hk
      rw [cnt_no h e, cnt_no h e']
      have := cnt_two (s := s) (k := k) (by omega)
      omega
    · have := ih (by omega) (by omega)
      have hm' : m < s.size := by omega
      by_cases a : s[m] = 100
      · rw [cnt_yes hm' a, cnt_no hm' (by rw [a]; decide)]; omega
      · by_cases b : s[m] = 102
        · rw [cnt_no hm' a, cnt_yes hm' b]; omega
        · rw [cnt_no hm' a, cnt_no hm' b]; omega
def isStripB (s : ByteArray) : Bool := decide (dN s + fN s = s.size ∧ 1 ≤ dN s ∧ dN s ≤ 8 ∧ 1 ≤ fN s ∧ fN s ≤ 8)
theorem isStrip_iff {s : ByteArray} : isStripB s = true ↔ dN s + fN s = s.size ∧ 1 ≤ dN s ∧ dN s ≤ 8 ∧ 1 ≤ fN s ∧ fN s ≤ 8 := by unfold isStripB; simp
theorem isStrip_false {s : ByteArray} (h : ¬ (dN s + fN s = s.size ∧ 1 ≤ dN s ∧ dN s ≤ 8 ∧ 1 ≤ fN s ∧ fN s ≤ 8)) : isStripB s = false := by unfold isStripB; simpa using h
def downOf (s : ByteArray) : Int := if isStripB s = true then dN s else 0
def fwdOf (s : ByteArray) : Int := if isStripB s = true then fN s else 0
theorem byte_t {x : UInt8} {n : Nat} {c : UInt8} (h : x = c) (hn : c.toNat = n) : (((x.toNat : Nat) : Int) == (n : Int)) = true := by subst h; rw [hn]; simp
theorem byte_f {x : UInt8} {n : Nat} {c : UInt8} (h : x ≠ c) (hn : c.toNat = n) : (((x.toNat : Nat) : Int) == (n : Int)) = false := by
  have : x.toNat ≠ n := fun e => h (UInt8.toNat_inj.1 (e.trans hn.symm))
  have : ¬ ((x.toNat : Nat) : Int) = (n : Int) := by omega
  simpa using this
theorem byte_100t {x : UInt8} (h : x = 100) : (((x.toNat : Nat) : Int) == 100) = true := byte_t h rfl
theorem byte_100f {x : UInt8} (h : x ≠ 100) : (((x.toNat : Nat) : Int) == 100) = false := byte_f h rfl
theorem byte_102t {x : UInt8} (h : x = 102) : (((x.toNat : Nat) : Int) == 102) = true := byte_t h rfl
theorem byte_102f {x : UInt8} (h : x ≠ 102) : (((x.toNat : Nat) : Int) == 102) = false := byte_f h rfl

theorem strCount_any (s : ByteArray) (c : UInt8) (w : World) :
    Calls Try.prog 74 #[.string s, .string ⟨#[c]⟩] w fun e w' => e = .returned (.int .i64 (cnt s c s.size)) ∧ w = w' := by
  rw [← cnt_all]
  go_enter Try.func74, Try.ntmps74
  go_wp2
  rw [run_callFunc_extern Try.func78 (by kernel_rfl) (by kernel_rfl) (by kernel_rfl) (e := Extern.BytealgCount.count) (by kernel_rfl), Lib.run_countString]
  simp only [Result.andThen]
  rw [Oper.upon_value]
  go_wp2
  go_ret
  exact ⟨rfl, rfl⟩

theorem iIsStrip_any (s : ByteArray) (w : World) (hs : s.size ≤ 1048576) :
    Calls Try.prog 66 #[.string s] w fun e w' => e = .returned (.bool (isStripB s)) ∧ w = w' := by
  have h2 := cnt_two (s := s) (Nat.le_refl _)
  have hiff := @isStrip_iff s
  have hfalse := @isStrip_false s
  unfold dN fN at hiff hfalse
  by_cases hsum : cnt s 100 s.size + cnt s 102 s.size = s.size
  · have hsum' : (((cnt s 100 s.size : Nat) : Int) + (cnt s 102 s.size : Nat) == (s.size : Int)) = true := by simp; omega
    by_cases hd : 1 ≤ cnt s 100 s.size ∧ cnt s 100 s.size ≤ 8
    · by_cases hf : 1 ≤ cnt s 102 s.size ∧ cnt s 102 s.size ≤ 8
      · have HB := Lib.hid (hiff.2 ⟨hsum, hd.1, hd.2, hf.1, hf.2⟩)
        obtain ⟨d1, d2⟩ := hd
        obtain ⟨f1, f2⟩ := hf
        clear hsum hiff hfalse
        go_enter Try.func66, Try.ntmps66
        go_wp2_with (first | (go_at_call 74; refine (strCount_any _ _ _).mono ?_; rintro e w' ⟨rfl, rfl⟩) | (go_at_call 41; (first | refine (within_t _ _ _ _ (by omega) (by omega)).mono ?_ | refine (within_f _ _ _ _ (by omega)).mono ?_); rintro e w' ⟨rfl, rfl⟩))
        go_ret
        exact ⟨ret_bool HB.out.symm, rfl⟩
      · have HB := Lib.hid (hfalse (fun h => hf ⟨h.2.2.2.1, h.2.2.2.2⟩))
        obtain ⟨d1, d2⟩ := hd
        have hf' : cnt s 102 s.size < 1 ∨ 8 < cnt s 102 s.size := by omega
        clear hsum hf hiff hfalse
        go_enter Try.func66, Try.ntmps66
        go_wp2_with (first | (go_at_call 74; refine (strCount_any _ _ _).mono ?_; rintro e w' ⟨rfl, rfl⟩) | (go_at_call 41; (first | refine (within_t _ _ _ _ (by omega) (by omega)).mono ?_ | refine (within_f _ _ _ _ (by omega)).mono ?_); rintro e w' ⟨rfl, rfl⟩))
        go_ret
        exact ⟨ret_bool HB.out.symm, rfl⟩
    · have HB := Lib.hid (hfalse (fun h => hd ⟨h.2.1, h.2.2.1⟩))
      have hd' : cnt s 100 s.size < 1 ∨ 8 < cnt s 100 s.size := by omega
      clear hsum hd hiff hfalse
      go_enter Try.func66, Try.ntmps66
      go_wp2_with (first | (go_at_call 74; refine (strCount_any _ _ _).mono ?_; rintro e w' ⟨rfl, rfl⟩) | (go_at_call 41; (first | refine (within_t _ _ _ _ (by omega) (by omega)).mono ?_ | refine (within_f _ _ _ _ (by omega)).mono ?_); rintro e w' ⟨rfl, rfl⟩))
      go_ret
      exact ⟨ret_bool HB.out.symm, rfl⟩
  · have HB := Lib.hid (hfalse (fun h => hsum h.1))
    have hsum' : (((cnt s 100 s.size : Nat) : Int) + (cnt s 102 s.size : Nat) == (s.size : Int)) = false := by simp; omega
    clear hsum hiff hfalse
    go_enter Try.func66, Try.ntmps66
    go_wp2_with (first | (go_at_call 74; refine (strCount_any _ _ _).mono ?_; rintro e w' ⟨rfl, rfl⟩) | (go_at_call 41; (first | refine (within_t _ _ _ _ (by omega) (by omega)).mono ?_ | refine (within_f _ _ _ _ (by omega)).mono ?_); rintro e w' ⟨rfl, rfl⟩))
    go_ret
    exact ⟨ret_bool HB.out.symm, rfl⟩

theorem sIsStrip_any (s : ByteArray) (w : World) (hs : s.size ≤ 1048576) :
    Calls Try.prog 71 #[.string s] w fun e w' => e = .returned (.bool (isStripB s)) ∧ w = w' := by
  go_enter Try.func71, Try.ntmps71
  go_wp2
  go_loop [3, 4, 5] (fun d f i => ∃ k : Nat, k ≤ s.size ∧ i = .int .i64 k ∧ d = .int .i64 (cnt s 100 k : Nat) ∧ f = .int .i64 (cnt s 102 k : Nat) ∧ cnt s 100 k + cnt s 102 k = k) (fun _ _ i => s.size - (intOf i).toNat)
  case atStart => exact ⟨0, Nat.zero_le _, rfl, by rw [cnt_zero]; rfl, by rw [cnt_zero]; rfl, by rw [cnt_zero, cnt_zero]⟩
  case round =>
    obtain ⟨k, hk, rfl, rfl, rfl, hs2⟩ := hrel
    have l1 := cnt_le s 100 k
    have l2 := cnt_le s 102 k
    have HS := Lib.hid hs2
    clear hs2
    by_cases hlt : k < s.size
    · by_cases a : s[k] = 100
      · have b1 := byte_100t a
        have n1 := Lib.hid (cnt_yes hlt a)
        have n2 := Lib.hid (cnt_no (c := 102) hlt (by rw [a]; decide))
        clear a
        go_wp2
        go_round
        case rel => exact ⟨k + 1, by omega, by go_num, by rw [n1.out]; go_num, by rw [n2.out], by rw [n1.out, n2.out]; have := HS.out; omega⟩
        case measure => simp [intOf]; omega
      · by_cases b : s[k] = 102
        · have b1 := byte_100f a
          have b2 := byte_102t b
          have n1 := Lib.hid (cnt_no hlt a)
          have n2 := Lib.hid (cnt_yes hlt b)
          clear a b
          go_wp2
          go_round
          case rel => exact ⟨k + 1, by omega, by go_num, by rw [n1.out], by rw [n2.out]; go_num, by rw [n1.out, n2.out]; have := HS.out; omega⟩
          case measure => simp [intOf]; omega
        · have b1 := byte_100f a
          have b2 := byte_102f b
          have HB : Hid (isStripB s = false) := Lib.hid (isStrip_false (fun h => by have := cnt_gap hlt a b s.size hlt (Nat.le_refl _); have h1 := h.1; unfold dN fN at h1; omega))
          clear a b
          go_wp2
          go_ret
          exact ⟨ret_bool HB.out.symm, rfl⟩
    · have hk' : k = s.size := by omega
      subst hk'
      have hiff := @isStrip_iff s
      have hfalse := @isStrip_false s
      unfold dN fN at hiff hfalse
      by_cases hd : 1 ≤ cnt s 100 s.size ∧ cnt s 100 s.size ≤ 8
      · by_cases hf : 1 ≤ cnt s 102 s.size ∧ cnt s 102 s.size ≤ 8
        · have HB := Lib.hid (hiff.2 ⟨HS.out, hd.1, hd.2, hf.1, hf.2⟩)
          obtain ⟨d1, d2⟩ := hd
          obtain ⟨f1, f2⟩ := hf
          clear hiff hfalse
          go_wp2_with (go_at_call 39; (first | refine (l01In_t _ _ _ _ (by omega) (by omega)).mono ?_ | refine (l01In_f _ _ _ _ (by omega)).mono ?_); rintro e w' ⟨rfl, rfl⟩)
          go_ret
          exact ⟨ret_bool HB.out.symm, rfl⟩
        · have HB := Lib.hid (hfalse (fun h => hf ⟨h.2.2.2.1, h.2.2.2.2⟩))
          obtain ⟨d1, d2⟩ := hd
          have hf' : cnt s 102 s.size < 1 ∨ 8 < cnt s 102 s.size := by omega
          clear hf hiff hfalse
          go_wp2_with (go_at_call 39; (first | refine (l01In_t _ _ _ _ (by omega) (by omega)).mono ?_ | refine (l01In_f _ _ _ _ (by omega)).mono ?_); rintro e w' ⟨rfl, rfl⟩)
          go_ret
          exact ⟨ret_bool HB.out.symm, rfl⟩
      · have HB := Lib.hid (hfalse (fun h => hd ⟨h.2.1, h.2.2.1⟩))
        have hd' : cnt s 100 s.size < 1 ∨ 8 < cnt s 100 s.size := by omega
        clear hd hiff hfalse
        go_wp2_with (go_at_call 39; (first | refine (l01In_t _ _ _ _ (by omega) (by omega)).mono ?_ | refine (l01In_f _ _ _ _ (by omega)).mono ?_); rintro e w' ⟨rfl, rfl⟩)
        go_ret
        exact ⟨ret_bool HB.out.symm, rfl⟩

theorem l02Count_any (s : ByteArray) (c : UInt8) (z : Nat) (w : World) (hs : s.size ≤ 1048576) (hz : c.toNat = z) :
    Calls Try.prog 72 #[.string s, .int .u8 z] w fun e w' => e = .returned (.int .i64 (cnt s c s.size : Nat)) ∧ w = w' := by
  have HZ := Lib.hid hz
  clear hz
  go_enter Try.func72, Try.ntmps72
  go_wp2
  go_loop [5, 6] (fun d i => ∃ k : Nat, k ≤ s.size ∧ i = .int .i64 k ∧ d = .int .i64 (cnt s c k : Nat)) (fun _ i => s.size - (intOf i).toNat)
  case atStart => exact ⟨0, Nat.zero_le _, rfl, by rw [cnt_zero]; rfl⟩
  case round =>
    obtain ⟨k, hk, rfl, rfl⟩ := hrel
    have l1 := cnt_le s c k
    by_cases hlt : k < s.size
    · by_cases a : s[k] = c
      · have b1 := byte_t a HZ.out
        have n1 := Lib.hid (cnt_yes hlt a)
        clear a
        go_wp2
        go_round
        case rel => exact ⟨k + 1, by omega, by go_num, by rw [n1.out]; go_num⟩
        case measure => simp [intOf]; omega
      · have b1 := byte_f a HZ.out
        have n1 := Lib.hid (cnt_no hlt a)
        clear a
        go_wp2
        go_round
        case rel => exact ⟨k + 1, by omega, by go_num, by rw [n1.out]⟩
        case measure => simp [intOf]; omega
    · have hk' : k = s.size := by omega
      subst hk'
      go_wp2
      go_ret
      exact ⟨rfl, rfl⟩

theorem downOf_t {s : ByteArray} (h : isStripB s = true) : downOf s = (cnt s 100 s.size : Nat) := by unfold downOf; rw [h]; rfl
theorem downOf_f {s : ByteArray} (h : isStripB s = false) : downOf s = 0 := by unfold downOf; rw [h]; rfl
theorem fwdOf_t {s : ByteArray} (h : isStripB s = true) : fwdOf s = (cnt s 102 s.size : Nat) := by unfold fwdOf; rw [h]; rfl
theorem fwdOf_f {s : ByteArray} (h : isStripB s = false) : fwdOf s = 0 := by unfold fwdOf; rw [h]; rfl
theorem iDownOf_any (s : ByteArray) (w : World) (hs : s.size ≤ 1048576) :
    Calls Try.prog 63 #[.string s] w fun e w' => e = .returned (.int .i64 (downOf s)) ∧ w = w' := by
  cases hb : isStripB s
  · have HB := Lib.hid hb
    have HV := Lib.hid (downOf_f hb)
    clear hb
    go_enter Try.func63, Try.ntmps63
    go_wp2_with (go_at_call 66; refine (iIsStrip_any _ _ hs).mono ?_; rw [HB.out]; rintro e w' ⟨rfl, rfl⟩)
    go_ret
    exact ⟨ret_int HV.out.symm, rfl⟩
  · have HB := Lib.hid hb
    have HV := Lib.hid (downOf_t hb)
    clear hb
    go_enter Try.func63, Try.ntmps63
    go_wp2_with (first | (go_at_call 66; refine (iIsStrip_any _ _ hs).mono ?_; rw [HB.out]; rintro e w' ⟨rfl, rfl⟩) | (go_at_call 74; refine (strCount_any _ _ _).mono ?_; rintro e w' ⟨rfl, rfl⟩))
    go_ret
    exact ⟨ret_int HV.out.symm, rfl⟩
theorem iForwardOf_any (s : ByteArray) (w : World) (hs : s.size ≤ 1048576) :
    Calls Try.prog 64 #[.string s] w fun e w' => e = .returned (.int .i64 (fwdOf s)) ∧ w = w' := by
  cases hb : isStripB s
  · have HB := Lib.hid hb
    have HV := Lib.hid (fwdOf_f hb)
    clear hb
    go_enter Try.func64, Try.ntmps64
    go_wp2_with (go_at_call 66; refine (iIsStrip_any _ _ hs).mono ?_; rw [HB.out]; rintro e w' ⟨rfl, rfl⟩)
    go_ret
    exact ⟨ret_int HV.out.symm, rfl⟩
  · have HB := Lib.hid hb
    have HV := Lib.hid (fwdOf_t hb)
    clear hb
    go_enter Try.func64, Try.ntmps64
    go_wp2_with (first | (go_at_call 66; refine (iIsStrip_any _ _ hs).mono ?_; rw [HB.out]; rintro e w' ⟨rfl, rfl⟩) | (go_at_call 74; refine (strCount_any _ _ _).mono ?_; rintro e w' ⟨rfl, rfl⟩))
    go_ret
    exact ⟨ret_int HV.out.symm, rfl⟩
theorem sDownOf_any (s : ByteArray) (w : World) (hs : s.size ≤ 1048576) :
    Calls Try.prog 53 #[.string s] w fun e w' => e = .returned (.int .i64 (downOf s)) ∧ w = w' := by
  cases hb : isStripB s
  · have HB := Lib.hid hb
    have HV := Lib.hid (downOf_f hb)
    clear hb
    go_enter Try.func53, Try.ntmps53
    go_wp2_with (go_at_call 71; refine (sIsStrip_any _ _ hs).mono ?_; rw [HB.out]; rintro e w' ⟨rfl, rfl⟩)
    go_ret
    exact ⟨ret_int HV.out.symm, rfl⟩
  · have HB := Lib.hid hb
    have HV := Lib.hid (downOf_t hb)
    clear hb
    go_enter Try.func53, Try.ntmps53
    go_wp2_with (first | (go_at_call 71; refine (sIsStrip_any _ _ hs).mono ?_; rw [HB.out]; rintro e w' ⟨rfl, rfl⟩) | (go_at_call 72; refine (l02Count_any _ 100 100 _ hs rfl).mono ?_; rintro e w' ⟨rfl, rfl⟩))
    go_ret
    exact ⟨ret_int HV.out.symm, rfl⟩
theorem sForwardOf_any (s : ByteArray) (w : World) (hs : s.size ≤ 1048576) :
    Calls Try.prog 54 #[.string s] w fun e w' => e = .returned (.int .i64 (fwdOf s)) ∧ w = w' := by
  cases hb : isStripB s
  · have HB := Lib.hid hb
    have HV := Lib.hid (fwdOf_f hb)
    clear hb
    go_enter Try.func54, Try.ntmps54
    go_wp2_with (go_at_call 71; refine (sIsStrip_any _ _ hs).mono ?_; rw [HB.out]; rintro e w' ⟨rfl, rfl⟩)
    go_ret
    exact ⟨ret_int HV.out.symm, rfl⟩
  · have HB := Lib.hid hb
    have HV := Lib.hid (fwdOf_t hb)
    clear hb
    go_enter Try.func54, Try.ntmps54
    go_wp2_with (first | (go_at_call 71; refine (sIsStrip_any _ _ hs).mono ?_; rw [HB.out]; rintro e w' ⟨rfl, rfl⟩) | (go_at_call 72; refine (l02Count_any _ 102 102 _ hs rfl).mono ?_; rintro e w' ⟨rfl, rfl⟩))
    go_ret
    exact ⟨ret_int HV.out.symm, rfl⟩
end Go.Proofs.Ytjkcmjnejbobeaa
