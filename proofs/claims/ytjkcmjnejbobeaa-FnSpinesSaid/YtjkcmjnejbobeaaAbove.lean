/-
  Two strips: contracts of SameFrame, IsAbove, IsBetween and ChangedSteps in the program and in the reference.
  By an AI agent.
-/
import Derived.Test.YtjkcmjnejbobeaaStrip
import Derived.WalkSmall
namespace Go.Proofs.Ytjkcmjnejbobeaa
open Go.ChangeShapes Go.WideShapes Go.ChangeAt Go.RowKit
set_option maxRecDepth 100000
set_option linter.unusedVariables false

def sameB (s t : ByteArray) : Bool := isStripB s && isStripB t && decide (s.size = t.size ∧ dN s = dN t)
theorem same_iff {s t : ByteArray} : sameB s t = true ↔ isStripB s = true ∧ isStripB t = true ∧ s.size = t.size ∧ dN s = dN t := by unfold sameB; simp [and_assoc]
theorem same_f {s t : ByteArray} (h : ¬ (isStripB s = true ∧ isStripB t = true ∧ s.size = t.size ∧ dN s = dN t)) : sameB s t = false := by
  cases e : sameB s t
  · rfl
  · exact absurd (same_iff.1 e) h
theorem eq_t {a b : Int} (h : a = b) : (a == b) = true := by simpa using h
theorem eq_f {a b : Int} (h : ¬ a = b) : (a == b) = false := by simpa using h
theorem downOf_d {s : ByteArray} (h : isStripB s = true) : downOf s = dN s := by unfold downOf; rw [h]; rfl
theorem fwdOf_d {s : ByteArray} (h : isStripB s = true) : fwdOf s = fN s := by unfold fwdOf; rw [h]; rfl

def chg (s t : ByteArray) : Nat → Nat
  | 0 => 0
  | k + 1 => chg s t k + if s.data.toList.getD k 0 = t.data.toList.getD k 0 then 0 else 1
def chgOf (s t : ByteArray) : Int := if sameB s t = true then (chg s t s.size : Nat) else -1
theorem byte_at {s : ByteArray} {k : Nat} (h : k < s.size) : s.data.toList.getD k 0 = s[k] := by
  have h' : k < s.data.size := h
  rw [List.getD, Array.getElem?_toList, Array.getElem?_eq_getElem h']
  rfl
theorem chg_le (s t : ByteArray) (k : Nat) : chg s t k ≤ k := by
  induction k with
  | zero => exact Nat.le_refl _
  | succ k ih => unfold chg; split <;> omega
theorem chg_no {s t : ByteArray} {k : Nat} (h : k < s.size) (h' : k < t.size) (e : s[k] = t[k]) : chg s t (k + 1) = chg s t k := by
  show chg s t k + _ = _; rw [byte_at h, byte_at h', if_pos e]; rfl
theorem chg_yes {s t : ByteArray} {k : Nat} (h : k < s.size) (h' : k < t.size) (e : ¬ s[k] = t[k]) : chg s t (k + 1) = chg s t k + 1 := by
  show chg s t k + _ = _; rw [byte_at h, byte_at h', if_neg e]
theorem byte_ne_f {x y : UInt8} (h : x = y) : (((x.toNat : Nat) : Int) != ((y.toNat : Nat) : Int)) = false := by subst h; simp
theorem byte_ne_t {x y : UInt8} (h : ¬ x = y) : (((x.toNat : Nat) : Int) != ((y.toNat : Nat) : Int)) = true := by
  have : ¬ ((x.toNat : Nat) : Int) = ((y.toNat : Nat) : Int) := fun e => h (UInt8.toNat_inj.1 (by omega))
  simpa using this

def aboveB (s t : ByteArray) : Bool := sameB s t && (List.range (s.size + 1)).all (fun k => decide (cnt t 102 k ≤ cnt s 102 k))
theorem above_iff {s t : ByteArray} : aboveB s t = true ↔ sameB s t = true ∧ ∀ k, k ≤ s.size → cnt t 102 k ≤ cnt s 102 k := by
  unfold aboveB
  simp only [Bool.and_eq_true, List.all_eq_true, List.mem_range, decide_eq_true_eq]
  exact ⟨fun h => ⟨h.1, fun k hk => h.2 k (by omega)⟩, fun h => ⟨h.1, fun k hk => h.2 k (by omega)⟩⟩
theorem above_f {s t : ByteArray} (h : ¬ (sameB s t = true ∧ ∀ k, k ≤ s.size → cnt t 102 k ≤ cnt s 102 k)) : aboveB s t = false := by
  cases e : aboveB s t
  · rfl
  · exact absurd (above_iff.1 e) h
theorem same_fN {s t : ByteArray} (h : sameB s t = true) : cnt t 102 s.size = cnt s 102 s.size := by
  obtain ⟨h1, h2, h3, h4⟩ := same_iff.1 h
  have s1 := (isStrip_iff.1 h1).1
  have s2 := (isStrip_iff.1 h2).1
  have e1 : cnt t 102 s.size = fN t := by rw [h3]; rfl
  have e2 : cnt s 102 s.size = fN s := rfl
  rw [e1, e2]; omega
theorem cnt_extract (s : ByteArray) (c : UInt8) (k : Nat) : cnt (s.extract 0 k) c k = cnt s c k := by
  unfold cnt
  have : (s.extract 0 k).data.toList = s.data.toList.take k := by
    simp [ByteArray.data_extract, Array.toList_extract]
  rw [this, List.take_take, Nat.min_self]

theorem forwards_any (s : ByteArray) (k : Nat) (w : World) (hs : s.size ≤ 1048576) (hk : k ≤ s.size) :
    Calls Try.prog 83 #[.string s, .int .i64 k] w fun e w' => e = .returned (.int .i64 (cnt s 102 k : Nat)) ∧ w = w' := by
  have HX := Lib.hid (cnt_extract s 102 k)
  go_enter Try.func83, Try.ntmps83
  go_wp2_with (go_at_call 74; refine (strCount_any _ _ _).mono ?_; rintro e w' ⟨rfl, rfl⟩)
  go_ret
  exact ⟨ret_int (by rw [HX.out]), rfl⟩
end Go.Proofs.Ytjkcmjnejbobeaa
