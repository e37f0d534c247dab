/-
  Contracts of toIntS, eqIntS, markIntS and heldIntS of the laws' package.
  By an AI agent.
-/
import Derived.Test.YtjkcmjnejbobeaaSl
import Derived.Deep.QuietTactic
import Derived.BigQuiet
import Derived.WalkSmall
namespace Go.Proofs.Ytjkcmjnejbobeaa
open Go.ChangeShapes Go.WideShapes Go.ChangeAt Go.RowKit
set_option maxRecDepth 100000
set_option linter.unusedVariables false

/-- The cells of a list of numbers. -/
def ic (zs : List Int) (i : Nat) : Value := .int .i64 (zs.getD i 0)
theorem ic_one (zs : List Int) (i : Nat) : (ic zs i).oneCell' = true := rfl
/-- A slice of integers that came in: its cells, in a world. -/
def IArg (w : World) (a : Option Addr) (len : Nat) (zs : List Int) : Prop := 0 < len → ∃ b off, a = some ⟨b, off, none⟩ ∧ ∀ i, i < len → w.cell? ⟨b, off + i, none⟩ = some (ic zs i)
theorem IArg.below {w w' : World} {a : Option Addr} {len : Nat} {zs : List Int} (h : IArg w a len zs) (hb : Below w.heap.size w w') : IArg w' a len zs := by
  intro h0
  obtain ⟨b, off, ha, hc⟩ := h h0
  have hlt : b < w.heap.size := World.block_lt_of_cell? _ _ (hc 0 h0)
  exact ⟨b, off, ha, fun i hi => (hb.cell (p := ⟨b, off + i, none⟩) hlt).trans (hc i hi)⟩
theorem infoInt : (Try.prog.info? 3).map (fun i => (i.zero, i.size, i.bytes)) = some (some (.int .i64 0), 1, 8) := by kernel_rfl
theorem fill1 {w : World} {g N k : Nat} {z v : Value} {d : Nat → Value} (h : Row w g N (fun j => if j < k then d j else z)) (hv : v = d k) :
    Row (w.setCell ⟨g, k, none⟩ v) g N (fun j => if j < k + 1 then d j else z) := by
  refine (h.set _ _).congr fun j _ => ?_
  subst hv
  by_cases h0 : j = k
  · subst h0; rw [if_pos rfl, if_pos (by omega)]
  · rw [if_neg h0]
    by_cases hk : j < k
    · rw [if_pos hk, if_pos (by omega)]
    · rw [if_neg hk, if_neg (by omega)]

theorem toIntS_any (a : Option Addr) (len cap : Nat) (zs : List Int) (w : World) (hm : len ≤ 1048576) (h : IArg w a len zs) :
    Calls Try.prog 29 #[.slice a len cap] w fun e w' => ∃ g, e = .returned (.slice (some ⟨g, 0, none⟩) len len) ∧ w.heap.size ≤ g ∧ Row w' g len (ic zs) ∧ Below w.heap.size w w' := by
  obtain ⟨i0, hi0, hz0, hz1, hz2⟩ := info_parts infoInt
  have HA := Lib.hid h
  clear h
  go_enter Try.func29, Try.ntmps29
  go_wp2_with (at_make; refine wpList_make_full _ rfl _ _ 27 rfl w.heap.size 3 i0 _ 1 Try.underlying27 hi0 hz0 hz1 .i64 .i64 len len len rfl rfl rfl rfl (by rw [hz2]; omega) (by unfold maxLen; omega) (Nat.le_refl _) ?_; intro w1 own1 gr1)
  have R0 : Row w1 w.heap.size len (fun j => if j < 0 then ic zs j else .int .i64 0) := ((Row.of_owns own1).mono (M := len) (by omega)).congr fun j hj => by
    rw [made_at _ _ _ (by omega), if_neg (by omega)]
    simp [Value.cells, Nat.mod_one]
  have B0 : Below w.heap.size w w1 := (Below.refl _ _).grown gr1 (Nat.le_refl _) (by simp)
  clear own1 gr1
  go_loopw [4] (fun i wr => ∃ k : Nat, k ≤ len ∧ i = .int .i64 k ∧ Row wr w.heap.size len (fun j => if j < k then ic zs j else .int .i64 0) ∧ Below w.heap.size w wr) (fun i _ => len - (intOf i).toNat)
  case atStart => exact ⟨0, Nat.zero_le _, rfl, R0, B0⟩
  case round =>
    obtain ⟨k, hk, rfl, hR, hB⟩ := hrel
    have HR := Lib.hid hR
    have HB := Lib.hid hB
    clear hR hB
    by_cases hlt : k < len
    · obtain ⟨b, off, rfl, hP⟩ := HA.out.below HB.out (by omega)
      have c0 := hP k hlt
      have Q : Hid (ic zs k = .int .i64 (zs.getD k 0)) := Lib.hid rfl
      rw [Q.out] at c0
      generalize zs.getD k 0 = q at c0 Q
      have f0 := HR.out.frozen k
      have d0 := (HR.out.cell hlt).trans (congrArg some (if_neg (Nat.lt_irrefl k)))
      clear hP
      go_wp2
      go_roundw
      case rel => exact ⟨k + 1, by omega, by go_num, fill1 HR.out Q.out.symm, HB.out.setCell (Nat.le_refl _) _⟩
      case measure => simp [intOf]; omega
    · have hk' : k = len := by omega
      subst hk'
      have HF := Lib.hid (HR.out.congr (d := ic zs) (fun j hj => if_pos hj))
      clear HR
      go_wp2
      go_ret
      exact ⟨_, rfl, Nat.le_refl _, HF.out, HB.out⟩

theorem eqIntS_same (a b : Option Addr) (n ca cb : Nat) (zs : List Int) (w : World) (hm : n ≤ 1048576) (hA : SlR w a n (ic zs)) (hB : SlR w b n (ic zs)) :
    Calls Try.prog 21 #[.slice a n ca, .slice b n cb] w fun e w' => e = .returned (.bool true) ∧ Below w.heap.size w w' := by
  have HA := Lib.hid hA
  have HB := Lib.hid hB
  clear hA hB
  go_enter Try.func21, Try.ntmps21
  go_wp2
  go_loopw [5] (fun i wr => ∃ k : Nat, k ≤ n ∧ i = .int .i64 k ∧ Below w.heap.size w wr) (fun i _ => n - (intOf i).toNat)
  case atStart => exact ⟨0, Nat.zero_le _, rfl, Below.refl _ _⟩
  case round =>
    obtain ⟨k, hk, rfl, hb⟩ := hrel
    have Hb := Lib.hid hb
    clear hb
    by_cases hlt : k < n
    · obtain ⟨ga, rfl, ra⟩ := (HA.out.below Hb.out).row (by omega)
      obtain ⟨gb, rfl, rb⟩ := (HB.out.below Hb.out).row (by omega)
      have c0 := ra.cell hlt
      have d0 := rb.cell hlt
      unfold ic at c0 d0
      generalize zs.getD k 0 = q at c0 d0
      have i0 : (0 : Int) ≤ (k : Int) := Int.natCast_nonneg _
      have i1 : (k : Int) < (n : Int) := by omega
      have e0 : (q != q) = false := by simp
      clear ra rb
      go_wp2
      go_quiet (fail)
      go_wp2
      go_roundw
      case rel => exact ⟨k + 1, by omega, by go_num, below_drewN Hb.out _⟩
      case measure => simp [intOf]; omega
    · go_wp2
      go_ret
      exact ⟨rfl, Hb.out⟩

/-- The numbers from k0 on. -/
def numc (k0 : Int) (i : Nat) : Value := .int .i64 (k0 + i)
theorem mark1 {w : World} {g N j : Nat} {k0 : Int} {c : Nat → Value} {x : Int} (h : Row w g N (fun i => if i < j then numc k0 i else c i)) (hx : x = k0 + (j : Nat)) :
    Row (w.setCell ⟨g, j, none⟩ (.int .i64 x)) g N (fun i => if i < j + 1 then numc k0 i else c i) := by
  refine (h.set _ _).congr fun i _ => ?_
  subst hx
  by_cases h0 : i = j
  · subst h0; rw [if_pos rfl, if_pos (by omega)]; rfl
  · rw [if_neg h0]
    by_cases hk : i < j
    · rw [if_pos hk, if_pos (by omega)]
    · rw [if_neg hk, if_neg (by omega)]

theorem markIntS_row (g n c : Nat) (k0 : Int) (d : Nat → Value) (w : World) (hk0 : 0 ≤ k0) (hk1 : k0 ≤ 1000000000) (hm : n ≤ 1048576) (hR : Row w g n d) :
    Calls Try.prog 24 #[.slice (some ⟨g, 0, none⟩) n c, .int .i64 k0] w fun e w' => e = .returned (.int .i64 (k0 + n)) ∧ Row w' g n (numc k0) ∧ Only g w w' := by
  have HR := Lib.hid (hR.congr (d := fun i => if i < 0 then numc k0 i else d i) (fun i _ => by rw [if_neg (by omega)]))
  clear hR
  go_enter Try.func24, Try.ntmps24
  go_wp2
  go_loopw [1, 5] (fun s i wr => ∃ j : Nat, j ≤ n ∧ i = .int .i64 j ∧ s = .int .i64 (k0 + j) ∧ Row wr g n (fun i => if i < j then numc k0 i else d i) ∧ Only g w wr) (fun _ i _ => n - (intOf i).toNat)
  case atStart => exact ⟨0, Nat.zero_le _, rfl, by simp, HR.out, Only.refl _ _⟩
  case round =>
    obtain ⟨j, hj, rfl, rfl, hW, hO⟩ := hrel
    have HW := Lib.hid hW
    have HO := Lib.hid hO
    clear hW hO
    by_cases hlt : j < n
    · have d0 := HW.out.cell hlt
      rw [if_neg (by omega)] at d0
      have f0 := HW.out.frozen j
      generalize d j = v0 at d0
      go_wp2
      go_roundw
      case rel => exact ⟨j + 1, by omega, by go_num, congrArg (Value.int .i64) (by omega), mark1 HW.out rfl, HO.out.set _ _⟩
      case measure => simp [intOf]; omega
    · have hj' : j = n := by omega
      subst hj'
      have HF := Lib.hid (HW.out.congr (d := numc k0) (fun i hi => if_pos hi))
      clear HW
      go_wp2
      go_ret
      exact ⟨rfl, HF.out, HO.out⟩
theorem markIntS_any (a : Option Addr) (n c : Nat) (k0 : Int) (d : Nat → Value) (w : World) (hk0 : 0 ≤ k0) (hk1 : k0 ≤ 1000000000) (hm : n ≤ 1048576) (hR : SlR w a n d) :
    Calls Try.prog 24 #[.slice a n c, .int .i64 k0] w fun e w' => e = .returned (.int .i64 (k0 + n)) ∧ SlR w' a n (numc k0) ∧ Marked a n w w' := by
  rcases Nat.eq_zero_or_pos n with h0 | h0
  · subst h0
    go_enter Try.func24, Try.ntmps24
    go_wp2
    refine wp_loop_rounds 1 ?_
    rw [rounds_succ]
    go_wp2
    go_ret
    exact ⟨ret_int (by simp), .inl rfl, .inl ⟨rfl, Below.refl _ _⟩⟩
  · obtain ⟨g, rfl, hr⟩ := hR.row h0
    exact (markIntS_row g n c k0 d w hk0 hk1 hm hr).mono fun e w' ⟨h1, h2, h3⟩ => ⟨h1, .of_row h2, .inr ⟨h0, g, rfl, h3.toB⟩⟩
theorem heldIntS_any (a : Option Addr) (n c : Nat) (k0 : Int) (w : World) (hk0 : 0 ≤ k0) (hk1 : k0 ≤ 1000000000) (hm : n ≤ 1048576) (hR : SlR w a n (numc k0)) :
    Calls Try.prog 25 #[.slice a n c, .int .i64 k0] w fun e w' => e = .returned (.int .i64 (k0 + n)) ∧ w = w' := by
  have HR := Lib.hid hR
  clear hR
  go_enter Try.func25, Try.ntmps25
  go_wp2
  go_loop [1, 5] (fun s i => ∃ j : Nat, j ≤ n ∧ i = .int .i64 j ∧ s = .int .i64 (k0 + j)) (fun _ i => n - (intOf i).toNat)
  case atStart => exact ⟨0, Nat.zero_le _, rfl, by simp⟩
  case round =>
    obtain ⟨j, hj, rfl, rfl⟩ := hrel
    by_cases hlt : j < n
    · obtain ⟨g, rfl, hr⟩ := HR.out.row (by omega)
      have d0 := hr.cell hlt
      unfold numc at d0
      clear hr
      go_wp2
      go_round
      case rel => exact ⟨j + 1, by omega, by go_num, congrArg (Value.int .i64) (by omega)⟩
      case measure => simp [intOf]; omega
    · have hj' : j = n := by omega
      subst hj'
      go_wp2
      go_ret
      exact ⟨rfl, rfl⟩
end Go.Proofs.Ytjkcmjnejbobeaa
