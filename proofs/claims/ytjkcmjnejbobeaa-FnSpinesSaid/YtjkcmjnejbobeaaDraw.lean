/-
  Drawn strips: contracts of l02Draw, l02Many and FlatStrip: strings of so many letters d and so many letters f.
  By an AI agent.
-/
import Derived.Test.YtjkcmjnejbobeaaCurN
import Derived.Test.YtjkcmjnejbobeaaStrip
import Derived.Test.YtjkcmjnejbobeaaCard
namespace Go.Proofs.Ytjkcmjnejbobeaa
open Go.ChangeShapes Go.WideShapes Go.ChangeAt Go.RowKit
set_option maxRecDepth 100000
set_option linter.unusedVariables false

/-- A string of p letters d and q letters f. -/
def Df (s : ByteArray) (p q : Nat) : Prop := dN s = p ∧ fN s = q ∧ s.size = p + q
theorem dN_eq (s : ByteArray) : dN s = s.data.toList.count 100 := by unfold dN cnt; rw [List.take_of_length_le (by simp)]
theorem fN_eq (s : ByteArray) : fN s = s.data.toList.count 102 := by unfold fN cnt; rw [List.take_of_length_le (by simp)]
theorem dN_app (s t : ByteArray) : dN (s ++ t) = dN s + dN t := by rw [dN_eq, dN_eq, dN_eq]; simp [List.count_append]
theorem fN_app (s t : ByteArray) : fN (s ++ t) = fN s + fN t := by rw [fN_eq, fN_eq, fN_eq]; simp [List.count_append]
theorem Df.empty : Df ⟨#[]⟩ 0 0 := ⟨rfl, rfl, rfl⟩
theorem Df.app {s t : ByteArray} {p q p' q' : Nat} (h : Df s p q) (h' : Df t p' q') : Df (s ++ t) (p + p') (q + q') := by
  obtain ⟨h1, h2, h3⟩ := h
  obtain ⟨h4, h5, h6⟩ := h'
  exact ⟨by rw [dN_app, h1, h4], by rw [fN_app, h2, h5], by rw [ByteArray.size_append, h3, h6]; omega⟩
theorem Df.d : Df ⟨#[100]⟩ 1 0 := ⟨by decide, by decide, rfl⟩
theorem Df.f : Df ⟨#[102]⟩ 0 1 := ⟨by decide, by decide, rfl⟩
theorem Df.strip {s : ByteArray} {p q : Nat} (h : Df s p q) (h1 : 1 ≤ p) (h2 : p ≤ 8) (h3 : 1 ≤ q) (h4 : q ≤ 8) : stripIn p q s = true := by
  obtain ⟨e1, e2, e3⟩ := h
  have hs : isStripB s = true := isStrip_iff.2 ⟨by omega, by omega, by omega, by omega, by omega⟩
  refine stripIn_iff.2 ⟨?_, ?_⟩
  · unfold downOf; rw [if_pos hs, e1]
  · unfold fwdOf; rw [if_pos hs, e2]
def DrwP (b : Nat) (a : Option Addr) (l c p q : Nat) (w : World) (e : Ending) (w' : World) : Prop := ∃ s, e = .returned (.string s) ∧ Df s p q ∧ Dr w' b a l c ∧ OnlyB b w w'
set_option maxHeartbeats 4000000 in
theorem draw_any (b : Nat) (a : Option Addr) (l c p q : Nat) (w : World) (hp : p ≤ 8) (hq : q ≤ 8) (hD : Dr w b a l c) :
    Calls Try.prog 61 #[.pointer (some ⟨b, 0, none⟩), .int .i64 p, .int .i64 q] w (DrwP b a l c p q w) := by
  have HD := Lib.hid hD
  clear hD
  go_enter Try.func61, Try.ntmps61
  go_wp2_with fail
  go_loopw [1, 2, 7] (fun u v t wr => ∃ (i j : Nat) (s : ByteArray), i ≤ p ∧ j ≤ q ∧ u = .int .i64 i ∧ v = .int .i64 j ∧ t = .string s ∧ Df s (p - i) (q - j) ∧ Dr wr b a l c ∧ OnlyB b w wr) (fun u v _ _ => (intOf u).toNat + (intOf v).toNat)
  case atStart => exact ⟨p, q, ⟨#[]⟩, Nat.le_refl _, Nat.le_refl _, rfl, rfl, rfl, by rw [Nat.sub_self, Nat.sub_self]; exact Df.empty, HD.out, OnlyB.refl _ _⟩
  case round =>
    obtain ⟨i, j, s, hi, hj, rfl, rfl, rfl, hs, hd, ho⟩ := hrel
    have HS := Lib.hid hs
    have HDr := Lib.hid hd
    have HO := Lib.hid ho
    clear hs hd ho
    by_cases h0 : i = 0 ∧ j = 0
    · obtain ⟨rfl, rfl⟩ := h0
      go_wp2
      go_ret
      exact ⟨s, rfl, by have := HS.out; exact this, HDr.out, HO.out⟩
    · have t0 : decide ((i : Int) + (j : Int) > 0) = true := decide_eq_true (by omega)
      have t0' : decide (0 < (i : Int) + (j : Int)) = true := decide_eq_true (by omega)
      have z0 : ¬ 9223372036854775807 < s.size + 1 := by have := HS.out.2.2; omega
      go_wp2_with (go_at_call 47; refine (below_any b a l c _ _ (by omega) HDr.out).mono ?_; rintro e w1 ⟨v, rfl, ⟨hv0, hv1, hv2⟩, hD1, hO1⟩; have HD1 := Lib.hid hD1; have HO1 := Lib.hid (HO.out.then hO1); clear hD1 hO1)
      · have hv : v < (i : Int) := by assumption
        refine ⟨⟨i - 1, j, _, by omega, by omega, by go_num, rfl, rfl, ?_, HD1.out, HO1.out⟩, by simp [intOf]; omega⟩
        have := HS.out.app Df.d
        rw [show p - (i - 1) = p - i + 1 by omega]
        exact this
      · have hv : (i : Int) ≤ v := by assumption
        have hv3 := hv1 (by omega)
        refine ⟨⟨i, j - 1, _, by omega, by omega, rfl, by go_num, rfl, ?_, HD1.out, HO1.out⟩, by simp [intOf]; omega⟩
        have := HS.out.app Df.f
        rw [show q - (j - 1) = q - j + 1 by omega]
        exact this
/-- The same letter over and over. -/
def rep (t : ByteArray) : Nat → ByteArray
  | 0 => ⟨#[]⟩
  | k + 1 => rep t k ++ t
theorem Df.rep {t : ByteArray} {p q : Nat} (h : Df t p q) : ∀ k, Df (rep t k) (k * p) (k * q) := by
  intro k
  induction k with
  | zero => rw [Nat.zero_mul, Nat.zero_mul]; exact Df.empty
  | succ k ih => have := ih.app h; rw [Nat.succ_mul, Nat.succ_mul]; exact this
theorem rep_size (t : ByteArray) (h : t.size = 1) : ∀ k, (rep t k).size = k := by
  intro k
  induction k with
  | zero => rfl
  | succ k ih => show (rep t k ++ t).size = _; rw [ByteArray.size_append, ih, h]
set_option maxHeartbeats 4000000 in
theorem many_any (t : ByteArray) (n : Nat) (w : World) (ht : t.size = 1) (hn : n ≤ 8) :
    Calls Try.prog 73 #[.string t, .int .i64 n] w fun e w' => e = .returned (.string (rep t n)) ∧ w = w' := by
  go_enter Try.func73, Try.ntmps73
  go_wp2_with fail
  go_loopw [5, 6] (fun s k wr => ∃ i : Nat, i ≤ n ∧ k = .int .i64 i ∧ s = .string (rep t i) ∧ w = wr) (fun _ k _ => n - (intOf k).toNat)
  case atStart => exact ⟨0, Nat.zero_le _, rfl, rfl, rfl⟩
  case round =>
    obtain ⟨i, hi, rfl, rfl, rfl⟩ := hrel
    by_cases h : i < n
    · have z0 : ¬ 9223372036854775807 < (rep t i).size + t.size := by rw [rep_size t ht, ht]; omega
      go_wp2
      go_roundw
      case rel => exact ⟨i + 1, by omega, by go_num, rfl, trivial⟩
      case measure => simp [intOf]; omega
    · have : i = n := by omega
      subst this
      go_wp2
      go_ret
      exact ⟨rfl, rfl⟩
theorem flat_any (p q : Nat) (w : World) (hp : 1 ≤ p ∧ p ≤ 8) (hq : 1 ≤ q ∧ q ≤ 8) :
    Calls Try.prog 62 #[.int .i64 p, .int .i64 q] w fun e w' => (∃ s, e = .returned (.string s) ∧ Df s p q) ∧ w = w' := by
  have z0 : ¬ 9223372036854775807 < (rep ⟨#[100]⟩ p).size + (rep ⟨#[102]⟩ q).size := by rw [rep_size _ rfl, rep_size _ rfl]; omega
  have hs : Df (rep ⟨#[100]⟩ p ++ rep ⟨#[102]⟩ q) p q := by
    have := (Df.d.rep p).app (Df.f.rep q)
    simpa using this
  have HS := Lib.hid hs
  clear hs
  go_enter Try.func62, Try.ntmps62
  go_wp2_with (first | (go_at_call 52; refine (l02Frame_t _ _ _ (by omega)).mono ?_; rintro e w1 ⟨rfl, rfl⟩) | (go_at_call 73; refine (many_any _ _ _ (by rfl) (by omega)).mono ?_; rintro e w1 ⟨rfl, rfl⟩))
  go_ret
  exact ⟨⟨_, rfl, HS.out⟩, rfl⟩
end Go.Proofs.Ytjkcmjnejbobeaa
