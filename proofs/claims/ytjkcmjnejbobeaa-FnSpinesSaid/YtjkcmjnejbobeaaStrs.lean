/-
  Slices of strings: contracts of szStringS, toStringS, eqStringS and markStringS of the laws' package.
  By an AI agent.
-/
import Derived.Test.YtjkcmjnejbobeaaInts
import Derived.SliceStrings
import Derived.WalkSpells
import Derived.Laws.BytesArg
namespace Go.Proofs.Ytjkcmjnejbobeaa
open Go.ChangeShapes Go.WideShapes Go.ChangeAt Go.RowKit
set_option maxRecDepth 100000
set_option linter.unusedVariables false

/-- The cells of a list of strings. -/
def sc (ss : List ByteArray) (i : Nat) : Value := .string (ss.getD i ByteArray.empty)
theorem sc_one (ss : List ByteArray) (i : Nat) : (sc ss i).oneCell' = true := rfl
/-- A slice of strings that came in: its cells, in a world. -/
def SArg (w : World) (a : Option Addr) (len : Nat) (ss : List ByteArray) : Prop := 0 < len → ∃ b off, a = some ⟨b, off, none⟩ ∧ ∀ i, i < len → w.cell? ⟨b, off + i, none⟩ = some (sc ss i)
theorem SArg.below {w w' : World} {a : Option Addr} {len : Nat} {ss : List ByteArray} (h : SArg w a len ss) (hb : Below w.heap.size w w') : SArg w' a len ss := by
  intro h0
  obtain ⟨b, off, ha, hc⟩ := h h0
  have hlt : b < w.heap.size := World.block_lt_of_cell? _ _ (hc 0 h0)
  exact ⟨b, off, ha, fun i hi => (hb.cell (p := ⟨b, off + i, none⟩) hlt).trans (hc i hi)⟩
/-- The sizes of the first k strings together. -/
def tot (ss : List ByteArray) : Nat → Nat
  | 0 => 0
  | k + 1 => tot ss k + (ss.getD k ByteArray.empty).size
theorem tot_mono (ss : List ByteArray) {k n : Nat} (h : k ≤ n) : tot ss k ≤ tot ss n := by
  induction n with
  | zero => have : k = 0 := by omega
            subst this; exact Nat.le_refl _
  | succ n ih =>
    by_cases e : k = n + 1
    · subst e; exact Nat.le_refl _
    · have := ih (by omega); show _ ≤ tot ss n + _; omega
theorem tot_at (ss : List ByteArray) {k n : Nat} (h : k < n) : (ss.getD k ByteArray.empty).size ≤ tot ss n := by
  have := tot_mono ss (show k + 1 ≤ n from h)
  have e : tot ss (k + 1) = tot ss k + (ss.getD k ByteArray.empty).size := rfl
  omega

theorem szStringS_ok (a : Option Addr) (len cap : Nat) (ss : List ByteArray) (left : Int) (w : World) (hl : left ≤ 1048576) (h0 : (len : Int) + tot ss len ≤ left) (h : SArg w a len ss) :
    Calls Try.prog 56 #[.slice a len cap, .int .i64 left] w fun e w' => e = .returned (.int .i64 (left - len - tot ss len)) ∧ w = w' := by
  have HA := Lib.hid h
  clear h
  go_enter Try.func56, Try.ntmps56
  go_wp2
  go_loop [1, 5] (fun s i => ∃ k : Nat, k ≤ len ∧ i = .int .i64 k ∧ s = .int .i64 (left - len - tot ss k)) (fun _ i => len - (intOf i).toNat)
  case atStart => exact ⟨0, Nat.zero_le _, rfl, congrArg (Value.int .i64) (by simp [tot])⟩
  case round =>
    obtain ⟨k, hk, rfl, rfl⟩ := hrel
    have hmk := tot_mono ss hk
    by_cases hlt : k < len
    · obtain ⟨b, off, rfl, hP⟩ := HA.out (by omega)
      have c0 := hP k hlt
      have hm1 := tot_mono ss (show k + 1 ≤ len from hlt)
      have HT : Hid (tot ss (k + 1) = tot ss k + (ss.getD k ByteArray.empty).size) := Lib.hid rfl
      rw [HT.out] at hm1
      unfold sc at c0
      generalize ss.getD k ByteArray.empty = q at c0 HT hm1
      clear hP
      go_wp2
      go_round
      case rel => exact ⟨k + 1, by omega, by go_num, congrArg (Value.int .i64) (by rw [HT.out]; omega)⟩
      case measure => simp [intOf]; omega
    · have hk' : k = len := by omega
      subst hk'
      go_wp2
      go_ret
      exact ⟨rfl, rfl⟩

theorem szStringS_big (a : Option Addr) (len cap : Nat) (ss : List ByteArray) (left : Int) (w : World) (hl0 : 0 ≤ left) (hl : left ≤ 1048576) (hmx : len ≤ 9223372036854775807) (hsz : ∀ k, k < len → (ss.getD k ByteArray.empty).size ≤ 9223372036854775807)
    (h0 : left < (len : Int) + tot ss len) (h : SArg w a len ss) :
    Calls Try.prog 56 #[.slice a len cap, .int .i64 left] w fun e w' => e = .returned (.int .i64 (-1)) ∧ w = w' := by
  have HA := Lib.hid h
  have HZ := Lib.hid hsz
  clear h hsz
  by_cases hlen : left < len
  · go_enter Try.func56, Try.ntmps56
    go_wp2
    go_ret
    exact ⟨rfl, rfl⟩
  · go_enter Try.func56, Try.ntmps56
    go_wp2
    go_loop [1, 5] (fun s i => ∃ k : Nat, k ≤ len ∧ i = .int .i64 k ∧ s = .int .i64 (left - len - tot ss k) ∧ (len : Int) + tot ss k ≤ left) (fun _ i => len - (intOf i).toNat)
    case atStart => exact ⟨0, Nat.zero_le _, rfl, congrArg (Value.int .i64) (by simp [tot]), by simp [tot]; omega⟩
    case round =>
      obtain ⟨k, hk, rfl, rfl, hle⟩ := hrel
      by_cases hlt : k < len
      · obtain ⟨b, off, rfl, hP⟩ := HA.out (by omega)
        have c0 := hP k hlt
        have z0 := HZ.out k hlt
        have HT : Hid (tot ss (k + 1) = tot ss k + (ss.getD k ByteArray.empty).size) := Lib.hid rfl
        unfold sc at c0
        generalize ss.getD k ByteArray.empty = q at c0 HT z0
        clear hP
        by_cases hq : (len : Int) + tot ss k + q.size ≤ left
        · go_wp2
          go_round
          case rel => exact ⟨k + 1, by omega, by go_num, congrArg (Value.int .i64) (by rw [HT.out]; omega), by rw [HT.out]; omega⟩
          case measure => simp [intOf]; omega
        · go_wp2
          go_ret
          exact ⟨rfl, rfl⟩
      · exfalso
        have hk' : k = len := by omega
        subst hk'
        omega

theorem infoStr : (Try.prog.info? 9).map (fun i => (i.zero, i.size, i.bytes)) = some (some (.string ByteArray.empty), 1, 16) := by kernel_rfl
theorem toStringS_any (a : Option Addr) (len cap : Nat) (ss : List ByteArray) (w : World) (hm : len ≤ 1048576) (h : SArg w a len ss) :
    Calls Try.prog 57 #[.slice a len cap] w fun e w' => ∃ g, e = .returned (.slice (some ⟨g, 0, none⟩) len len) ∧ w.heap.size ≤ g ∧ Row w' g len (sc ss) ∧ Below w.heap.size w w' := by
  obtain ⟨i0, hi0, hz0, hz1, hz2⟩ := info_parts infoStr
  have HA := Lib.hid h
  clear h
  go_enter Try.func57, Try.ntmps57
  go_wp2_with (at_make; refine wpList_make_full _ rfl _ _ 32 rfl w.heap.size 9 i0 _ 1 Try.underlying32 hi0 hz0 hz1 .i64 .i64 len len len rfl rfl rfl rfl (by rw [hz2]; omega) (by unfold maxLen; omega) (Nat.le_refl _) ?_; intro w1 own1 gr1)
  have R0 : Row w1 w.heap.size len (fun j => if j < 0 then sc ss j else .string ByteArray.empty) := ((Row.of_owns own1).mono (M := len) (by omega)).congr fun j hj => by
    rw [made_at _ _ _ (by omega), if_neg (by omega)]
    simp [Value.cells, Nat.mod_one]
  have B0 : Below w.heap.size w w1 := (Below.refl _ _).grown gr1 (Nat.le_refl _) (by simp)
  clear own1 gr1
  go_loopw [4] (fun i wr => ∃ k : Nat, k ≤ len ∧ i = .int .i64 k ∧ Row wr w.heap.size len (fun j => if j < k then sc ss j else .string ByteArray.empty) ∧ Below w.heap.size w wr) (fun i _ => len - (intOf i).toNat)
  case atStart => exact ⟨0, Nat.zero_le _, rfl, R0, B0⟩
  case round =>
    obtain ⟨k, hk, rfl, hR, hB⟩ := hrel
    have HR := Lib.hid hR
    have HB := Lib.hid hB
    clear hR hB
    by_cases hlt : k < len
    · obtain ⟨b, off, rfl, hP⟩ := HA.out.below HB.out (by omega)
      have c0 := hP k hlt
      have Q : Hid (sc ss k = .string (ss.getD k ByteArray.empty)) := Lib.hid rfl
      rw [Q.out] at c0
      generalize ss.getD k ByteArray.empty = q at c0 Q
      have f0 := HR.out.frozen k
      have d0 := (HR.out.cell hlt).trans (congrArg some (if_neg (Nat.lt_irrefl k)))
      clear hP
      go_wp2
      go_roundw
      case rel => exact ⟨k + 1, by omega, by go_num, fill1 HR.out Q.out.symm, HB.out.setCell (Nat.le_refl _) _⟩
      case measure => simp [intOf]; omega
    · have hk' : k = len := by omega
      subst hk'
      have HF := Lib.hid (HR.out.congr (d := sc ss) (fun j hj => if_pos hj))
      clear HR
      go_wp2
      go_ret
      exact ⟨_, rfl, Nat.le_refl _, HF.out, HB.out⟩

theorem eqStringS_same (a b : Option Addr) (n ca cb : Nat) (ss : List ByteArray) (w : World) (hm : n ≤ 1048576) (hA : SlR w a n (sc ss)) (hB : SlR w b n (sc ss)) :
    Calls Try.prog 58 #[.slice a n ca, .slice b n cb] w fun e w' => e = .returned (.bool true) ∧ Below w.heap.size w w' := by
  have HA := Lib.hid hA
  have HB := Lib.hid hB
  clear hA hB
  go_enter Try.func58, Try.ntmps58
  go_wp2
  go_loopw [5] (fun i wr => ∃ k : Nat, k ≤ n ∧ i = .int .i64 k ∧ Below w.heap.size w wr) (fun i _ => n - (intOf i).toNat)
  case atStart => exact ⟨0, Nat.zero_le _, rfl, Below.refl _ _⟩
  case round =>
    obtain ⟨k, hk, rfl, hb⟩ := hrel
    have Hb := Lib.hid hb
    clear hb
    by_cases hlt : k < n
    · obtain ⟨ga, rfl, ra⟩ := (HA.out.below Hb.out).row (by omega)
      obtain ⟨gb, rfl, rb⟩ := (HB.out.below Hb.out).row (by omega)
      have c0 := ra.cell hlt
      have d0 := rb.cell hlt
      unfold sc at c0 d0
      generalize ss.getD k ByteArray.empty = q at c0 d0
      have i0 : (0 : Int) ≤ (k : Int) := Int.natCast_nonneg _
      have i1 : (k : Int) < (n : Int) := by omega
      clear ra rb
      go_wp2
      go_quiet (fail)
      go_wp2
      go_roundw
      case rel => exact ⟨k + 1, by omega, by go_num, below_drewN Hb.out _⟩
      case measure => simp [intOf]; omega
    · go_wp2
      go_ret
      exact ⟨rfl, Hb.out⟩

theorem markText_any (k : Int) (w : World) (h0 : 1 ≤ k) (h1 : k ≤ 2000000000) :
    Calls Try.prog 59 #[.int .i64 k] w fun e w' => ∃ s : ByteArray, e = .returned (.string s) ∧ Below w.heap.size w w' := by
  go_enter Try.func59, Try.ntmps59
  go_wp2
  go_loopw [0, 3] (fun i o wr => ∃ (j : Nat) (s : ByteArray), i = .int .i64 j ∧ o = .string s ∧ (s.size : Int) + j ≤ k ∧ Below w.heap.size w wr) (fun i _ _ => (intOf i).toNat)
  case atStart => exact ⟨k.toNat, ByteArray.empty, congrArg (Value.int .i64) (by omega), rfl, by simp; omega, Below.refl _ _⟩
  case round =>
    obtain ⟨j, s, rfl, rfl, hs, hB⟩ := hrel
    have HB := Lib.hid hB
    clear hB
    by_cases hj : 0 < j
    · have hconv := run_convert_bytes_arg (P := Try.prog) (wr.alloc (.cells #[.int .u8 (48 + (j : Int) % 10)] 5 (0, 0))) 22 5 Try.underlying22 Try.underlying5 wr.heap.size 0 1 1 [48 + (j : Int) % 10] rfl (fun i hi => by
        obtain rfl : i = 0 := by omega
        exact (Row.of_new wr #[.int .u8 (48 + (j : Int) % 10)] 5).cell (i := 0) (Nat.zero_lt_one)) 9 Try.underlying9
      have hz : (strOfNums [48 + (j : Int) % 10]).size = 1 := rfl
      generalize strOfNums [48 + (j : Int) % 10] = t at hconv hz
      go_wp2
      go_roundw
      case rel => exact ⟨j / 10, t ++ s, by go_num, rfl, by rw [ByteArray.size_append, hz]; omega, HB.out.alloc HB.out.size _⟩
      case measure => simp [intOf]; omega
    · go_wp2
      go_ret
      exact ⟨_, rfl, HB.out⟩

theorem markStringS_row (g n c : Nat) (k0 : Int) (d : Nat → Value) (w : World) (hk0 : 1 ≤ k0) (hk1 : k0 ≤ 1000000000) (hm : n ≤ 1048576) (hR : Row w g n d) :
    Calls Try.prog 46 #[.slice (some ⟨g, 0, none⟩) n c, .int .i64 k0] w fun e w' => ∃ d', e = .returned (.int .i64 (k0 + n)) ∧ Row w' g n d' ∧ OnlyB g w w' := by
  have HR := Lib.hid hR
  clear hR
  go_enter Try.func46, Try.ntmps46
  go_wp2
  go_loopw [1, 5] (fun s i wr => ∃ (j : Nat) (d' : Nat → Value), j ≤ n ∧ i = .int .i64 j ∧ s = .int .i64 (k0 + j) ∧ Row wr g n d' ∧ OnlyB g w wr) (fun _ i _ => n - (intOf i).toNat)
  case atStart => exact ⟨0, d, Nat.zero_le _, rfl, by simp, HR.out, OnlyB.refl _ _⟩
  case round =>
    obtain ⟨j, d', hj, rfl, rfl, hW, hO⟩ := hrel
    have HW := Lib.hid hW
    have HO := Lib.hid hO
    clear hW hO
    by_cases hlt : j < n
    · go_wp2_with (go_at_call 59; refine (markText_any _ _ (by omega) (by omega)).mono ?_; rintro e w2 ⟨t, rfl, hb2⟩; have hr2 := HW.out.below hb2 HW.out.lt; have f0 := hr2.frozen j; have d0 := hr2.cell hlt)
      go_roundw
      case rel => exact ⟨j + 1, _, by omega, by go_num, congrArg (Value.int .i64) (by omega), hr2.set j (.string t), (HO.out.below hb2).set _ _⟩
      case measure => simp [intOf]; omega
    · have hj' : j = n := by omega
      subst hj'
      go_wp2
      go_ret
      exact ⟨d', rfl, HW.out, HO.out⟩
theorem markStringS_any (a : Option Addr) (n c : Nat) (k0 : Int) (d : Nat → Value) (w : World) (hk0 : 1 ≤ k0) (hk1 : k0 ≤ 1000000000) (hm : n ≤ 1048576) (hR : SlR w a n d) :
    Calls Try.prog 46 #[.slice a n c, .int .i64 k0] w fun e w' => ∃ d', e = .returned (.int .i64 (k0 + n)) ∧ SlR w' a n d' ∧ Marked a n w w' := by
  rcases Nat.eq_zero_or_pos n with h0 | h0
  · subst h0
    go_enter Try.func46, Try.ntmps46
    go_wp2
    refine wp_loop_rounds 1 ?_
    rw [rounds_succ]
    go_wp2
    go_ret
    exact ⟨d, ret_int (by simp), .inl rfl, .inl ⟨rfl, Below.refl _ _⟩⟩
  · obtain ⟨g, rfl, hr⟩ := hR.row h0
    exact (markStringS_row g n c k0 d w hk0 hk1 hm hr).mono fun e w' ⟨d', h1, h2, h3⟩ => ⟨d', h1, .of_row h2, .inr ⟨h0, g, rfl, h3⟩⟩
end Go.Proofs.Ytjkcmjnejbobeaa
