/-
  Steps of two strips: which are one and the same. Contracts of forwards and isSameStep in the program.
  By an AI agent.
-/
import Derived.Test.YtlplfpoggifadaaCard
import Derived.Test.YtlplfpoggifadaaSame
import Derived.Test.YtlplfpoggifadaaOwn
namespace Go.Proofs.Ytlplfpoggifadaa
open Go.ChangeShapes Go.WideShapes Go.ChangeAt Go.RowKit Go.Joins Go.Deep
set_option maxRecDepth 100000
set_option linter.unusedVariables false

theorem byteAt {s : ByteArray} {k : Nat} (h : k < s.size) : s.data.toList.getD k 0 = s[k] := by
  have h' : k < s.data.size := h
  rw [List.getD, Array.getElem?_toList, Array.getElem?_eq_getElem h']
  rfl
def bt (s : ByteArray) (i : Nat) : UInt8 := s.data.toList.getD i 0
theorem bt_at {s : ByteArray} {k : Nat} (h : k < s.size) : bt s k = s[k] := byteAt h
theorem cntExtract (s : ByteArray) (c : UInt8) (k : Nat) : cnt (s.extract 0 k) c k = cnt s c k := by
  unfold cnt
  simp [ByteArray.data_extract, Array.toList_extract, List.take_take]
def rowS (ss : List ByteArray) (k : Nat) : ByteArray := ss.getD k ByteArray.empty
/-- The steps at i of two strips are one and the same. -/
def sameSt (s t : ByteArray) (i : Nat) : Bool := decide (bt s i = bt t i) && decide (cnt s 102 i = cnt t 102 i)
theorem byt_f {x y : UInt8} (h : ¬ x = y) : (((x.toNat : Nat) : Int) == ((y.toNat : Nat) : Int)) = false := by
  have : ¬ ((x.toNat : Nat) : Int) = ((y.toNat : Nat) : Int) := fun e => h (UInt8.toNat_inj.1 (by omega))
  simpa using this
theorem byt_t {x y : UInt8} (h : x = y) : (((x.toNat : Nat) : Int) == ((y.toNat : Nat) : Int)) = true := by subst h; simp
theorem quiet_more {P : Program} {f : FuncId} {args : Array Value} {w : World} {n : Nat} {v : Value}
    (h : Calls P f args (w.drewN n) fun e w' => e = .returned v ∧ ∃ m, w' = (w.drewN n).drewN m) : Calls P f args (w.drewN n) fun e w'' => e = .returned v ∧ ∃ m, w'' = w.drewN m :=
  h.mono fun _ _ ⟨he, m, hm⟩ => ⟨he, n + m, by rw [hm, World.drewN_drewN]⟩
theorem forwardsF (s : ByteArray) (k : Nat) (w : World) (hs : s.size ≤ 1048576) (hk : k ≤ s.size) :
    Calls Try.prog 87 #[.string s, .int .i64 k] w fun e w' => e = .returned (.int .i64 (cnt s 102 k : Nat)) ∧ w = w' := by
  have HX := Lib.hid (cntExtract s 102 k)
  go_enter Try.func87, Try.ntmps87
  go_wp2_with (go_at_call 79; refine (strCount_any _ _ _).mono ?_; rintro e w' ⟨rfl, rfl⟩)
  go_ret
  exact ⟨ret_int (by rw [HX.out]), rfl⟩
theorem isSameStep_any (s t : ByteArray) (i : Nat) (w : World) (hs : s.size ≤ 1048576) (ht : t.size ≤ 1048576) (hi : i < s.size) (hj : i < t.size) :
    Calls Try.prog 81 #[.string s, .string t, .int .i64 i] w fun e w' => e = .returned (.bool (sameSt s t i)) ∧ ∃ m, w' = w.drewN m := by
  have i0 : (0 : Int) ≤ (i : Int) := Int.natCast_nonneg _
  have i1 : (i : Int) < (s.size : Int) := by omega
  have i2 : (i : Int) < (t.size : Int) := by omega
  by_cases h : s[i] = t[i]
  · have b1 := byt_t h
    have h1 := h
    rw [← bt_at hi, ← bt_at hj] at h1
    clear h
    by_cases h2 : cnt s 102 i = cnt t 102 i
    · have HV : Hid (sameSt s t i = true) := Lib.hid (by unfold sameSt; rw [decide_eq_true h1, decide_eq_true h2]; rfl)
      have e1 : (((cnt s 102 i : Nat) : Int) == ((cnt t 102 i : Nat) : Int)) = true := by rw [h2]; simp
      clear h2 h1
      go_enter Try.func81, Try.ntmps81
      go_wp2
      go_quiet ((go_at_call 87; exact quiet_eq (forwardsF _ _ _ (by assumption) (by omega))))
      go_wp2
      go_ret
      exact ⟨ret_bool HV.out.symm, _, rfl⟩
    · have HV : Hid (sameSt s t i = false) := Lib.hid (by unfold sameSt; rw [decide_eq_false h2, Bool.and_false])
      have e1 : (((cnt s 102 i : Nat) : Int) == ((cnt t 102 i : Nat) : Int)) = false := by simpa using (fun e : ((cnt s 102 i : Nat) : Int) = ((cnt t 102 i : Nat) : Int) => h2 (by omega))
      clear h2 h1
      go_enter Try.func81, Try.ntmps81
      go_wp2
      go_quiet ((go_at_call 87; exact quiet_eq (forwardsF _ _ _ (by assumption) (by omega))))
      go_wp2
      go_ret
      exact ⟨ret_bool HV.out.symm, _, rfl⟩
  · have b1 := byt_f h
    have h1 : ¬ bt s i = bt t i := by rw [bt_at hi, bt_at hj]; exact h
    have HV : Hid (sameSt s t i = false) := Lib.hid (by unfold sameSt; rw [decide_eq_false h1, Bool.false_and])
    clear h h1
    go_enter Try.func81, Try.ntmps81
    go_wp2
    go_quiet ((go_at_call 87; exact quiet_eq (forwardsF _ _ _ (by assumption) (by omega))))
    go_wp2
    go_ret
    exact ⟨ret_bool HV.out.symm, _, rfl⟩
theorem isSameStep_is {v : Bool} (s t : ByteArray) (i : Nat) (w : World) (hv : sameSt s t i = v) (hs : s.size ≤ 1048576) (ht : t.size ≤ 1048576) (hi : i < s.size) (hj : i < t.size) :
    Calls Try.prog 81 #[.string s, .string t, .int .i64 i] w fun e w' => e = .returned (.bool v) ∧ ∃ m, w' = w.drewN m := hv ▸ isSameStep_any s t i w hs ht hi hj
/-- A valid card of n strips of N steps. -/
structure Cd (d f : Int) (n N : Nat) (ss : List ByteArray) : Prop where
  len : ss.length = n
  room : (n : Int) + tot ss n ≤ 1048576
  ok : cardOkB d f ss = true
  sum : d + f = N
section
variable {d f : Int} {n N : Nat} {ss : List ByteArray}
theorem Cd.bds (h : Cd d f n N ss) : (1 ≤ d ∧ d ≤ 8 ∧ 1 ≤ f ∧ f ≤ 8) ∧ 1 ≤ n ∧ n ≤ 10 ∧ 2 ≤ N ∧ N ≤ 16 := by
  have h1 := (cardOk_iff.1 h.ok).1
  have h2 := h.len
  have h3 := h.sum
  omega
theorem Cd.size (h : Cd d f n N ss) {k : Nat} (hk : k < n) : (rowS ss k).size = N := by
  have h1 := stripIn_iff.1 (allIn_at (cardOk_iff.1 h.ok).2 (by rw [h.len]; exact hk))
  have hb := h.bds
  have h3 := h.sum
  unfold rowS
  have hs : isStripB (ss.getD k ByteArray.empty) = true := by
    cases e : isStripB (ss.getD k ByteArray.empty)
    · have h2 := h1.1
      rw [downOf_f e] at h2
      omega
    · rfl
  have h4 := (isStrip_iff.1 hs).1
  have h5 := h1.1
  have h6 := h1.2
  unfold downOf at h5
  unfold fwdOf at h6
  rw [hs] at h5 h6
  simp only [if_true] at h5 h6
  omega
end
end Go.Proofs.Ytlplfpoggifadaa
