/-
  The cursor that the laws draw with: contracts of l01New, l01Below and l01Once.
  By an AI agent.
-/
import Derived.Test.YtjkcmjnejbobeaaCur
namespace Go.Proofs.Ytjkcmjnejbobeaa
open Go.ChangeShapes Go.WideShapes Go.ChangeAt Go.RowKit
set_option maxRecDepth 100000
set_option linter.unusedVariables false

theorem Bytes.only {w w' : World} {a : Option Addr} {l b : Nat} (h : Bytes w a l) (hb : OnlyB b w w') (hn : 0 < l → ∀ x off, a = some ⟨x, off, none⟩ → x ≠ b) : Bytes w' a l := by
  intro h0
  obtain ⟨x, off, ha, hc⟩ := h h0
  refine ⟨x, off, ha, fun i hi => ?_⟩
  obtain ⟨v, hv, hcell⟩ := hc i hi
  have hlt : x < w.heap.size := World.block_lt_of_cell? _ _ hcell
  exact ⟨v, hv, (World.cell?_of_block (w := w) (a := ⟨x, off + i, none⟩) (hb.block x hlt (hn h0 x off ha))).trans hcell⟩
/-- A cursor at block b, ready to be drawn from. -/
structure Dr (w : World) (b : Nat) (a : Option Addr) (l c : Nat) : Prop where
  room : l ≤ 1048576
  bytes : Bytes w a l
  ne : 0 < l → ∀ x off, a = some ⟨x, off, none⟩ → x ≠ b
  cur : Cur w b a l c
theorem Dr.below {w w' : World} {b l c : Nat} {a : Option Addr} (h : Dr w b a l c) (hb : Below w.heap.size w w') : Dr w' b a l c := ⟨h.room, h.bytes.below hb, h.ne, h.cur.below hb⟩
theorem Dr.lt {w : World} {b l c : Nat} {a : Option Addr} (h : Dr w b a l c) : b < w.heap.size := h.cur.lt
theorem Dr.only {w w' : World} {b l c g : Nat} {a : Option Addr} (h : Dr w b a l c) (hb : OnlyB g w w') (hg : b ≠ g) (hx : 0 < l → ∀ x off, a = some ⟨x, off, none⟩ → x ≠ g) : Dr w' b a l c :=
  ⟨h.room, h.bytes.only hb hx, h.ne, by obtain ⟨i, x, hi, hr⟩ := h.cur; exact ⟨i, x, hi, hb.row hr hg⟩⟩
/-- What a draw of a number below n hands back. -/
def BelP (b : Nat) (a : Option Addr) (l c : Nat) (n : Int) (w : World) (e : Ending) (w' : World) : Prop := ∃ v : Int, e = .returned (.int .i64 v) ∧ (0 ≤ v ∧ (0 < n → v < n) ∧ (n ≤ 0 → v = 0)) ∧ Dr w' b a l c ∧ OnlyB b w w'
set_option maxHeartbeats 4000000 in
theorem below_any (b : Nat) (a : Option Addr) (l c : Nat) (n : Int) (w : World) (hn : n ≤ 256) (hD : Dr w b a l c) :
    Calls Try.prog 47 #[.pointer (some ⟨b, 0, none⟩), .int .i64 n] w (BelP b a l c n w) := by
  go_enter Try.func47, Try.ntmps47
  by_cases h0 : n ≤ 0
  · have t0 : decide (n ≤ 0) = true := decide_eq_true h0
    go_wp2
    go_ret
    exact ⟨0, rfl, ⟨Int.le_refl _, fun h => absurd h (by omega), fun _ => rfl⟩, hD, OnlyB.refl _ _⟩
  · have t0 : decide (n ≤ 0) = false := decide_eq_false h0
    have t1 : decide (n ≤ 256) = true := decide_eq_true hn
    have hne : n ≠ 0 := by omega
    have hpos : 0 < n := by omega
    have HD := Lib.hid hD
    clear hD
    go_wp2_with (go_at_call 60; refine (byte_any b a l c w HD.out.room HD.out.bytes HD.out.ne HD.out.cur).mono ?_; rintro e w1 ⟨v, rfl, hv, hC1, hO1⟩; have HO1 := Lib.hid hO1; have HC1 := Lib.hid hC1; clear hO1 hC1; obtain ⟨hv0, hv1⟩ := hv)
    have hm0 := Int.emod_nonneg v hne
    have hm1 := Int.emod_lt_of_pos v hpos
    go_ret
    refine ⟨_, rfl, ⟨?_, fun _ => ?_, fun h => absurd h (by omega)⟩, ⟨HD.out.room, HD.out.bytes.only HO1.out HD.out.ne, HD.out.ne, HC1.out⟩, HO1.out⟩
    · first | exact hm0 | (rw [Int.tmod_eq_emod_of_nonneg hv0]; exact hm0)
    · first | exact hm1 | (rw [Int.tmod_eq_emod_of_nonneg hv0]; exact hm1)
/-- A fact about a draw with a yes or no. -/
def OncP (b : Nat) (a : Option Addr) (l c : Nat) (w : World) (e : Ending) (w' : World) : Prop := ∃ v : Bool, e = .returned (.bool v) ∧ Dr w' b a l c ∧ OnlyB b w w'
/-- A new cursor. -/
def NewP (a : Option Addr) (l c : Nat) (w : World) (e : Ending) (w' : World) : Prop := ∃ g, e = .returned (.pointer (some ⟨g, 0, none⟩)) ∧ w.heap.size ≤ g ∧ Dr w' g a l c ∧ Below w.heap.size w w'
set_option maxHeartbeats 4000000 in
theorem new_any (a : Option Addr) (l c : Nat) (w : World) (hm : l ≤ 1048576) (hY : Bytes w a l) :
    Calls Try.prog 32 #[.slice a l c] w (NewP a l c w) := by
  have HN : Hid (0 < l → ∀ x off, a = some ⟨x, off, none⟩ → x ≠ w.heap.size) := Lib.hid (fun h0 x off h e => by
    obtain ⟨x2, off2, h2, hc⟩ := hY h0
    obtain ⟨v, _, cv⟩ := hc 0 h0
    have hlt : x2 < w.heap.size := World.block_lt_of_cell? _ _ cv
    rw [h] at h2
    simp only [Option.some.injEq, Addr.mk.injEq, and_true] at h2
    omega)
  have HY := Lib.hid hY
  clear hY
  go_enter Try.func32, Try.ntmps32
  go_wp2_with fail
  go_loopw [3, 4] (fun s i wr => ∃ (k : Nat) (h : Int), k ≤ l ∧ i = .int .i64 k ∧ s = .int .i64 h ∧ wr = w) (fun _ i _ => l - (intOf i).toNat)
  case atStart => exact ⟨0, 33051 + (l : Int), Nat.zero_le _, rfl, rfl, rfl⟩
  case round =>
    obtain ⟨k, h, hk, rfl, rfl, rfl⟩ := hrel
    by_cases hlt : k < l
    · by_cases h4 : k < 4000
      · obtain ⟨x, off, rfl, hc⟩ := HY.out (by omega)
        obtain ⟨v, hv, cv⟩ := hc k hlt
        obtain ⟨hv0, hv1⟩ := hv
        clear hc
        have t0 : decide ((k : Int) < (l : Int)) = true := decide_eq_true (by omega)
        have t1 : decide ((k : Int) < 4000) = true := decide_eq_true (by omega)
        go_wp2
        go_roundw
        case rel => exact ⟨k + 1, _, by omega, by go_num, rfl, trivial⟩
        case measure => simp [intOf]; omega
      · have t0 : decide ((k : Int) < (l : Int)) = true := decide_eq_true (by omega)
        have t1 : decide ((k : Int) < 4000) = false := decide_eq_false (by omega)
        go_wp2
        have B0 := Below.box wr (.cells #[.slice a l c, .int .i64 0, .int .i64 h] 68 (0, 0))
        have R0 : Row (wr.alloc (.cells #[.slice a l c, .int .i64 0, .int .i64 h] 68 (0, 0))) wr.heap.size 3 (curC a l c 0 h) := (Row.of_new wr _ _).congr fun j hj => by
          have : j = 0 ∨ j = 1 ∨ j = 2 := by simp at hj; omega
          rcases this with rfl | rfl | rfl <;> rfl
        go_ret
        exact ⟨wr.heap.size, rfl, Nat.le_refl _, ⟨hm, HY.out.below B0, HN.out, 0, h, Nat.zero_le _, R0⟩, B0⟩
    · have hk' : k = l := by omega
      subst hk'
      have t0 : decide ((k : Int) < (k : Int)) = false := decide_eq_false (by omega)
      go_wp2
      have B0 := Below.box wr (.cells #[.slice a k c, .int .i64 0, .int .i64 h] 68 (0, 0))
      have R0 : Row (wr.alloc (.cells #[.slice a k c, .int .i64 0, .int .i64 h] 68 (0, 0))) wr.heap.size 3 (curC a k c 0 h) := (Row.of_new wr _ _).congr fun j hj => by
        have : j = 0 ∨ j = 1 ∨ j = 2 := by simp at hj; omega
        rcases this with rfl | rfl | rfl <;> rfl
      go_ret
      exact ⟨wr.heap.size, rfl, Nat.le_refl _, ⟨hm, HY.out.below B0, HN.out, 0, h, Nat.zero_le _, R0⟩, B0⟩
end Go.Proofs.Ytjkcmjnejbobeaa
