/-
  Stories: one that came in by value, opened; contracts of szStory, toStory, eqStory and markStory of the laws' package.
  By an AI agent.
-/
import Derived.Test.YtjnjlpljakkakaaReg
import Derived.Lib.SmallJoins
import Derived.Deep.Slices
import Derived.Deep.Fields
import Derived.ChangeSame
import Derived.Carry
import Derived.Deep.RegionHeld3
namespace Go.Proofs.Ytjnjlpljakkakaa
open Go.ChangeShapes Go.WideShapes Go.ChangeAt Go.RowKit Go.Joins Go.Deep
set_option maxRecDepth 100000
set_option linter.unusedVariables false

abbrev Rows := List (List Int)
def rowN (L : Rows) (i : Nat) : List Int := L.getD i []
def lenN (L : Rows) (i : Nat) : Nat := (rowN L i).length
/-- A slice of slices of integers that came in. -/
def AIS (w : World) (a : Option Addr) (n : Nat) (L : Rows) : Prop := 0 < n → ∃ b off, a = some ⟨b, off, none⟩ ∧ ∀ i, i < n → ∃ α C, w.cell? ⟨b, off + i, none⟩ = some (.slice α (lenN L i) C) ∧ IArg w α (lenN L i) (rowN L i)
theorem AIS.below {w w' : World} {a : Option Addr} {n : Nat} {L : Rows} (h : AIS w a n L) (hb : Below w.heap.size w w') : AIS w' a n L := by
  intro h0
  obtain ⟨b, off, ha, hc⟩ := h h0
  have hlt : b < w.heap.size := by obtain ⟨_, _, h, _⟩ := hc 0 h0; exact World.block_lt_of_cell? _ _ h
  refine ⟨b, off, ha, fun i hi => ?_⟩
  obtain ⟨α, C, h1, h2⟩ := hc i hi
  exact ⟨α, C, (hb.cell (p := ⟨b, off + i, none⟩) hlt).trans h1, h2.below hb⟩
/-- A story that came in. -/
structure DStory where
  a : Option Addr
  n : Nat
  c : Nat
  L : Rows
def DStory.val (x : DStory) : Value := .agg #[.slice x.a x.n x.c]
def DStory.good (x : DStory) (w : World) : Prop := x.L.length = x.n ∧ x.n ≤ 9223372036854775807 ∧ (∀ i, i < x.n → lenN x.L i ≤ 9223372036854775807) ∧ AIS w x.a x.n x.L
section
variable {H : Type} {enc : TypeId × Value → H} {w : World} {r : Reach} {b0 base : Nat} {held : Bool}
theorem spot_none' {w : World} {b off : Nat} {sp : Option Nat} {v : Value} (h : w.cell? ⟨b, off, sp⟩ = some v) : sp = none := by
  by_cases hs : sp.isSome
  · exfalso
    simp only [World.cell?] at h
    split at h
    · simp [hs] at h
    · simp at h
  · simpa using hs
theorem open_ints' {n : Nat} {t : TypeId} {v : Value} {y : DataW H × List MemPlace} (ht : Try.prog.underlying t = some (.slice 3)) (h : DataW.trod enc Try.prog w base (fun _ => true) held n t [v] = some y) :
    ∃ (a : Option Addr) (len cap : Nat) (zs : List Int), v = .slice a len cap ∧ zs.length = len ∧ len ≤ 9223372036854775807 ∧ (∀ z ∈ zs, (Lit.int .i64 z).wf = true) ∧ IArg w a len zs := by
  rcases open_ints ht Try.underlying3 (by kernel_rfl) h with ⟨hcs, hx⟩ | ⟨a, len, cap, ss, hcs, _, hl, hm, hz, hx, hcell, hws⟩
  · simp at hcs
    exact ⟨none, 0, 0, [], hcs, rfl, Nat.zero_le _, fun z h => absurd h (by simp), fun h => absurd h (Nat.lt_irrefl 0)⟩
  · simp at hcs
    unfold maxLen at hm
    obtain ⟨b, off, sp⟩ := a
    have hz' : len ≤ ss.length := by simp at hz; omega
    refine ⟨some ⟨b, off, sp⟩, len, cap, ss.take len, hcs, by simp [hz'], by omega, fun z h => hws z (List.mem_of_mem_take h), fun h0 => ?_⟩
    · have h00 := hcell 0 (by omega)
      have hsp : sp = none := by
        simp only [Addr.add] at h00
        exact spot_none' (by simpa using h00)
      subst hsp
      refine ⟨b, off, rfl, fun i hi => ?_⟩
      have := hcell i (by omega)
      rw [add_at] at this
      rw [this]
      simp [ic, List.getD, hi]
theorem open_Story {v : Value} {d : DataW H} {p : List MemPlace}
    (hv : Value.okWide Try.prog w r b0 24 v) (h : DataW.Trod enc Try.prog w base (fun _ => true) held 24 v d p) :
    ∃ x : DStory, v = x.val ∧ x.good w := by
  obtain ⟨cs, rfl, hsz⟩ := okWide_struct Try.underlying24 hv
  have hC : Try.prog.cellsOf 24 = 1 := by kernel_rfl
  have hS : Try.prog.cellsOf 22 = 1 := by kernel_rfl
  have hI : Try.prog.cellsOf 31 = 1 := by kernel_rfl
  rw [hC] at hsz
  obtain ⟨v0, rfl⟩ : ∃ v0, cs = #[v0] := by
    obtain ⟨l⟩ := cs
    match l, hsz with
    | [x], _ => exact ⟨x, rfl⟩
  obtain ⟨fuel, hf⟩ := h
  obtain ⟨y0, n, hx, _, h0⟩ := trod_struct1 Try.underlying24 hf
  dsimp only at h0
  rw [hS] at h0
  have k0 : DataW.trod enc Try.prog w base (fun _ => true) held n 22 [v0] = some y0 := by
    have := h0
    simp [Value.cells] at this
    exact this
  rcases open_slice1 Try.underlying22 hI k0 with ⟨hcs, _⟩ | ⟨x, l, c, m, n', V, D, Pl, hcs, _, hl, hm, hmm, hx, hi⟩
  · simp at hcs
    subst hcs
    exact ⟨⟨none, 0, 0, []⟩, rfl, rfl, Nat.zero_le _, fun i h => absurd h (Nat.not_lt_zero i), fun h => absurd h (Nat.lt_irrefl 0)⟩
  · simp at hcs
    subst hcs
    obtain ⟨b, off, sp⟩ := x
    have hP : ∀ i, ∃ q : Option Addr × Nat × List Int, i < l → w.cell? ((⟨b, off, sp⟩ : Addr).add i) = some (.slice q.1 q.2.2.length q.2.1) ∧ q.2.2.length ≤ 9223372036854775807 ∧ IArg w q.1 q.2.2.length q.2.2 := by
      intro i
      by_cases hlt : i < l
      · obtain ⟨h1, h2⟩ := hi i (by rw [hmm]; simp; omega)
        obtain ⟨ad, len, cap, zs, e1, k1, k2, k3, k4⟩ := open_ints' Try.underlying31 h2
        subst k1
        exact ⟨⟨ad, cap, zs⟩, fun _ => ⟨h1.trans (congrArg some e1), k2, k4⟩⟩
      · exact ⟨default, fun h => absurd h hlt⟩
    obtain ⟨q, hq⟩ := Classical.axiomOfChoice hP
    have hsp : 0 < l → sp = none := by
      intro h0
      have := (hq 0 h0).1
      simp only [Addr.add] at this
      exact spot_none' (by simpa using this)
    unfold maxLen at hm
    have hrow : ∀ i, i < l → rowN ((List.range l).map fun i => (q i).2.2) i = (q i).2.2 := by
      intro i hi
      simp [rowN, List.getD, hi]
    refine ⟨⟨some ⟨b, off, sp⟩, l, c, (List.range l).map fun i => (q i).2.2⟩, rfl, by simp, by show l ≤ _; omega, fun i hlt => ?_, fun h0 => ?_⟩
    · have hlt : i < l := hlt
      show (rowN _ i).length ≤ _
      rw [hrow i hlt]
      exact (hq i hlt).2.1
    · obtain rfl := hsp h0
      refine ⟨b, off, rfl, fun i hlt => ?_⟩
      have hlt : i < l := hlt
      obtain ⟨h1, _, h3⟩ := hq i hlt
      rw [add_at] at h1
      refine ⟨(q i).1, (q i).2.1, ?_, ?_⟩
      · show _ = some (Value.slice _ (rowN _ i).length _)
        rw [hrow i hlt]; exact h1
      · show IArg w _ (rowN _ i).length (rowN _ i)
        rw [hrow i hlt]; exact h3
end
/-! ### Its size -/
def sumR (L : Rows) : Nat → Nat
  | 0 => 0
  | k + 1 => sumR L k + lenN L k
theorem sumR_mono (L : Rows) {k n : Nat} (h : k ≤ n) : sumR L k ≤ sumR L n := by
  induction n with
  | zero => have : k = 0 := by omega
            subst this; exact Nat.le_refl _
  | succ n ih =>
    by_cases e : k = n + 1
    · subst e; exact Nat.le_refl _
    · have := ih (by omega); show _ ≤ sumR L n + _; omega
theorem lenN_le (L : Rows) {k n : Nat} (h : k < n) : lenN L k ≤ sumR L n := by
  have := sumR_mono L (show k + 1 ≤ n from h)
  have e : sumR L (k + 1) = sumR L k + lenN L k := rfl
  omega
theorem szIntS_ok (a : Option Addr) (n c : Nat) (left : Int) (w : World) (hl : left ≤ 1048576) (h0 : (n : Int) ≤ left) :
    Calls Try.prog 55 #[.slice a n c, .int .i64 left] w fun e w' => e = .returned (.int .i64 (left - n)) ∧ w = w' := by
  go_enter Try.func55, Try.ntmps55
  go_wp2
  go_ret
  exact ⟨rfl, rfl⟩
theorem szIntS_big (a : Option Addr) (n c : Nat) (left : Int) (w : World) (hl0 : 0 ≤ left) (hl : left ≤ 1048576) (hmx : n ≤ 9223372036854775807) (h0 : left < (n : Int)) :
    Calls Try.prog 55 #[.slice a n c, .int .i64 left] w fun e w' => e = .returned (.int .i64 (-1)) ∧ w = w' := by
  go_enter Try.func55, Try.ntmps55
  go_wp2
  go_ret
  exact ⟨rfl, rfl⟩
set_option maxHeartbeats 1000000 in
theorem szIntSS_ok (a : Option Addr) (n c : Nat) (L : Rows) (left : Int) (w : World) (hl : left ≤ 1048576) (h0 : (n : Int) + sumR L n ≤ left) (h : AIS w a n L) :
    Calls Try.prog 35 #[.slice a n c, .int .i64 left] w fun e w' => e = .returned (.int .i64 (left - n - sumR L n)) ∧ w = w' := by
  have HA := Lib.hid h
  clear h
  go_enter Try.func35, Try.ntmps35
  go_wp2
  go_loop [1, 5] (fun s i => ∃ k : Nat, k ≤ n ∧ i = .int .i64 k ∧ s = .int .i64 (left - n - sumR L k)) (fun _ i => n - (intOf i).toNat)
  case atStart => exact ⟨0, Nat.zero_le _, rfl, congrArg (Value.int .i64) (by simp [sumR])⟩
  case round =>
    obtain ⟨k, hk, rfl, rfl⟩ := hrel
    have hmk := sumR_mono L hk
    by_cases hlt : k < n
    · obtain ⟨b, off, rfl, hP⟩ := HA.out (by omega)
      obtain ⟨α, C, c0, hs⟩ := hP k hlt
      have hm1 := sumR_mono L (show k + 1 ≤ n from hlt)
      have HT : Hid (sumR L (k + 1) = sumR L k + lenN L k) := Lib.hid rfl
      rw [HT.out] at hm1
      clear hP hs
      generalize lenN L k = x at *
      go_wp2_with (go_at_call 55; refine (szIntS_ok _ _ _ _ _ (by omega) (by omega)).mono ?_; rintro e w2 ⟨rfl, rfl⟩)
      go_round
      case rel => exact ⟨k + 1, by omega, by go_num, congrArg (Value.int .i64) (by rw [HT.out]; push_cast; omega)⟩
      case measure => simp [intOf]; omega
    · have hk' : k = n := by omega
      subst hk'
      go_wp2
      go_ret
      exact ⟨rfl, rfl⟩
set_option maxHeartbeats 1000000 in
theorem szIntSS_big (a : Option Addr) (n c : Nat) (L : Rows) (left : Int) (w : World) (hl0 : 0 ≤ left) (hl : left ≤ 1048576) (hmx : n ≤ 9223372036854775807) (hfit : ∀ i, i < n → lenN L i ≤ 9223372036854775807) (h0 : left < (n : Int) + sumR L n) (h : AIS w a n L) :
    Calls Try.prog 35 #[.slice a n c, .int .i64 left] w fun e w' => e = .returned (.int .i64 (-1)) ∧ w = w' := by
  have HA := Lib.hid h
  have HF := Lib.hid hfit
  clear h hfit
  by_cases hlen : left < n
  · go_enter Try.func35, Try.ntmps35
    go_wp2
    go_ret
    exact ⟨rfl, rfl⟩
  · go_enter Try.func35, Try.ntmps35
    go_wp2
    go_loop [1, 5] (fun s i => ∃ k : Nat, k ≤ n ∧ i = .int .i64 k ∧ s = .int .i64 (left - n - sumR L k) ∧ (n : Int) + sumR L k ≤ left) (fun _ i => n - (intOf i).toNat)
    case atStart => exact ⟨0, Nat.zero_le _, rfl, congrArg (Value.int .i64) (by simp [sumR]), by simp [sumR]; omega⟩
    case round =>
      obtain ⟨k, hk, rfl, rfl, hle⟩ := hrel
      by_cases hlt : k < n
      · obtain ⟨b, off, rfl, hP⟩ := HA.out (by omega)
        obtain ⟨α, C, c0, hs⟩ := hP k hlt
        have g1 := HF.out k hlt
        have HT : Hid (sumR L (k + 1) = sumR L k + lenN L k) := Lib.hid rfl
        clear hP hs
        generalize lenN L k = x at *
        by_cases hq : (n : Int) + sumR L k + x ≤ left
        · go_wp2_with (go_at_call 55; refine (szIntS_ok _ _ _ _ _ (by omega) (by omega)).mono ?_; rintro e w2 ⟨rfl, rfl⟩)
          go_round
          case rel => exact ⟨k + 1, by omega, by go_num, congrArg (Value.int .i64) (by rw [HT.out]; push_cast; omega), by rw [HT.out]; push_cast; push_cast at hq; omega⟩
          case measure => simp [intOf]; omega
        · go_wp2_with (go_at_call 55; refine (szIntS_big _ _ _ _ _ (by omega) (by omega) g1 (by omega)).mono ?_; rintro e w2 ⟨rfl, rfl⟩)
          go_ret
          exact ⟨rfl, rfl⟩
      · exfalso
        have hk' : k = n := by omega
        subst hk'
        omega
theorem szStory_ok (a : Option Addr) (n c : Nat) (L : Rows) (left : Int) (w : World) (hl : left ≤ 1048576) (h0 : (n : Int) + sumR L n ≤ left) (h : AIS w a n L) :
    Calls Try.prog 11 #[.agg #[.slice a n c], .int .i64 left] w fun e w' => e = .returned (.int .i64 (left - n - sumR L n)) ∧ Below w.heap.size w w' := by
  have HA := Lib.hid (h.below (Below.box w (.cells #[.slice a n c] 24 (0, 0))))
  clear h
  go_enter Try.func11, Try.ntmps11
  go_wp2_with (go_at_call 35; refine (szIntSS_ok _ _ _ L _ _ (by omega) h0 HA.out).mono ?_; rintro e w2 ⟨rfl, rfl⟩)
  go_ret
  exact ⟨rfl, Below.box _ _⟩
theorem szStory_big (a : Option Addr) (n c : Nat) (L : Rows) (left : Int) (w : World) (hl0 : 0 ≤ left) (hl : left ≤ 1048576) (hmx : n ≤ 9223372036854775807) (hfit : ∀ i, i < n → lenN L i ≤ 9223372036854775807) (h0 : left < (n : Int) + sumR L n) (h : AIS w a n L) :
    Calls Try.prog 11 #[.agg #[.slice a n c], .int .i64 left] w fun e w' => e = .returned (.int .i64 (-1)) ∧ Below w.heap.size w w' := by
  have HA := Lib.hid (h.below (Below.box w (.cells #[.slice a n c] 24 (0, 0))))
  have HF := Lib.hid hfit
  clear h hfit
  go_enter Try.func11, Try.ntmps11
  go_wp2_with (go_at_call 35; refine (szIntSS_big _ _ _ L _ _ hl0 (by omega) hmx HF.out h0 HA.out).mono ?_; rintro e w2 ⟨rfl, rfl⟩)
  go_ret
  exact ⟨rfl, Below.box _ _⟩
end Go.Proofs.Ytjnjlpljakkakaa
