/-
  Lists of lists of numbers of the call's own: contracts of eqIntSS, markIntSS and heldIntSS of the laws' package.
  By an AI agent.
-/
import Derived.Test.YteojoifhmaoiaaaReg
import Derived.Deep.QuietTactic
import Derived.BigQuiet
import Derived.Deep.RegionHeld3
namespace Go.Proofs.Yteojoifhmaoiaaa
open Go.ChangeShapes Go.WideShapes Go.ChangeAt Go.RowKit
set_option maxRecDepth 100000
set_option linter.unusedVariables false

abbrev Rows := List (List Int)
def rowN (L : Rows) (i : Nat) : List Int := L.getD i []
def lenN (L : Rows) (i : Nat) : Nat := (rowN L i).length
def sumR (L : Rows) : Nat → Nat
  | 0 => 0
  | k + 1 => sumR L k + lenN L k
theorem sumR_mono (L : Rows) {k n : Nat} (h : k ≤ n) : sumR L k ≤ sumR L n := by
  induction n with
  | zero => have : k = 0 := by omega
            subst this; exact Nat.le_refl _
  | succ n ih =>
    by_cases e : k = n + 1
    · subst e; exact Nat.le_refl _
    · have := ih (by omega); show _ ≤ sumR L n + _; omega
/-- A slice of slices of the call's own. -/
def RSt (w : World) (a : Option Addr) (n : Nat) (L : Rows) : Prop := ∃ (α : Nat → Option Addr) (C : Nat → Nat), SlR w a n (fun i => .slice (α i) (lenN L i) (C i)) ∧ ∀ i, i < n → lenN L i ≤ C i ∧ SlR w (α i) (lenN L i) (ic (rowN L i))
theorem RSt.below {w w' : World} {a : Option Addr} {n : Nat} {L : Rows} (h : RSt w a n L) (hb : Below w.heap.size w w') : RSt w' a n L := by
  obtain ⟨α, C, h1, h2⟩ := h
  exact ⟨α, C, h1.below hb, fun i hi => ⟨(h2 i hi).1, (h2 i hi).2.below hb⟩⟩
theorem RSt.at {w : World} {a : Option Addr} {n : Nat} {L : Rows} (h : RSt w a n L) {i : Nat} (hi : i < n) : ∃ (g : Nat) (α : Option Addr) (C : Nat), a = some ⟨g, 0, none⟩ ∧ g < w.heap.size ∧ w.cell? ⟨g, i, none⟩ = some (.slice α (lenN L i) C) ∧ lenN L i ≤ C ∧ SlR w α (lenN L i) (ic (rowN L i)) := by
  obtain ⟨α, C, h1, h2⟩ := h
  obtain ⟨g, hg, hr⟩ := h1.row (by omega)
  exact ⟨g, α i, C i, hg, hr.lt, hr.cell hi, (h2 i hi).1, (h2 i hi).2⟩
/-- .. made by toStory: its rows in blocks of their own, all of them from lo up to hi. -/
def crow (A : Nat → Nat) (L : Rows) (i : Nat) : Value := .slice (some ⟨A i, 0, none⟩) (lenN L i) (lenN L i)
def OSt (w : World) (lo hi g n : Nat) (L : Rows) : Prop := (lo ≤ g ∧ g < hi) ∧ ∃ A : Nat → Nat, Row w g n (crow A L) ∧ ∀ i, i < n → (lo ≤ A i ∧ A i < hi ∧ A i ≠ g ∧ ∀ j, j < i → A j ≠ A i) ∧ Row w (A i) (lenN L i) (ic (rowN L i))
section
variable {w w' : World} {lo hi g n : Nat} {L : Rows}
theorem OSt.below (h : OSt w lo hi g n L) (hb : Below w.heap.size w w') : OSt w' lo hi g n L := by
  obtain ⟨h0, A, h1, h2⟩ := h
  exact ⟨h0, A, h1.below hb h1.lt, fun i hi => ⟨(h2 i hi).1, (h2 i hi).2.below hb (h2 i hi).2.lt⟩⟩
theorem OSt.rst (h : OSt w lo hi g n L) : RSt w (some ⟨g, 0, none⟩) n L := by
  obtain ⟨h0, A, h1, h2⟩ := h
  exact ⟨fun i => some ⟨A i, 0, none⟩, lenN L, .of_row h1, fun i hi => ⟨Nat.le_refl _, .of_row (h2 i hi).2⟩⟩
theorem OSt.lt (h : OSt w lo hi g n L) : g < w.heap.size := by obtain ⟨_, A, h1, _⟩ := h; exact h1.lt
end
section
variable {w w' : World} {g : Nat}
theorem Marked.row {b N M : Nat} {c : Nat → Value} (h : Marked (some ⟨b, 0, none⟩) N w w') (hr : Row w g M c) (hn : g ≠ b) : Row w' g M c := by
  rcases h with ⟨_, h⟩ | ⟨_, k, hk, h⟩
  · exact hr.below h hr.lt
  · simp only [Option.some.injEq, Addr.mk.injEq, and_true] at hk
    exact hr.of_heap (h.block g hr.lt (by omega))
end
def Two2 (W : World) (ga gb k : Nat) (x y : Value) (w' : World) : Prop := (w'.cell? ⟨ga, k, none⟩ = some x ∧ w'.cell? ⟨gb, k, none⟩ = some y) ∧ Hid (Below W.heap.size W w')
theorem Two2.next {W w1 w2 : World} {ga gb k : Nat} {x y : Value} (h : Two2 W ga gb k x y w1) (hb : Below w1.heap.size w1 w2) : Two2 W ga gb k x y w2 := by
  obtain ⟨⟨c0, d0⟩, hB⟩ := h
  exact ⟨⟨(hb.cell (p := ⟨ga, k, none⟩) (World.block_lt_of_cell? _ _ c0)).trans c0, (hb.cell (p := ⟨gb, k, none⟩) (World.block_lt_of_cell? _ _ d0)).trans d0⟩, Lib.hid (hB.out.trans (hb.mono hB.out.size))⟩
set_option maxHeartbeats 2000000 in
theorem eqIntSS_same (a b : Option Addr) (n ca cb : Nat) (L : Rows) (w : World) (hm : n ≤ 1048576) (hms : ∀ i, i < n → lenN L i ≤ 1048576) (hA : RSt w a n L) (hB : RSt w b n L) :
    Calls Try.prog 30 #[.slice a n ca, .slice b n cb] w fun e w' => e = .returned (.bool true) ∧ Below w.heap.size w w' := by
  have HA := Lib.hid hA
  have HB := Lib.hid hB
  have HM := Lib.hid hms
  clear hA hB hms
  go_enter Try.func30, Try.ntmps30
  go_wp2
  go_loopw [5] (fun i wr => ∃ k : Nat, k ≤ n ∧ i = .int .i64 k ∧ Below w.heap.size w wr) (fun i _ => n - (intOf i).toNat)
  case atStart => exact ⟨0, Nat.zero_le _, rfl, Below.refl _ _⟩
  case round =>
    obtain ⟨k, hk, rfl, hb⟩ := hrel
    have Hb := Lib.hid hb
    clear hb
    by_cases hlt : k < n
    · obtain ⟨ga, α, C, rfl, la, c0, _, s1⟩ := (HA.out.below Hb.out).at hlt
      obtain ⟨gb, β, D, rfl, lb, d0, _, s2⟩ := (HB.out.below Hb.out).at hlt
      have hmk := HM.out k hlt
      have S1 := Lib.hid s1
      have S2 := Lib.hid s2
      clear s1 s2
      generalize lenN L k = x at *
      have i0 : (0 : Int) ≤ (k : Int) := Int.natCast_nonneg _
      have i1 : (k : Int) < (n : Int) := by omega
      have hSd : Two2 wr ga gb k (.slice α x C) (.slice β x D) wr.drew := ⟨⟨c0, d0⟩, Lib.hid (Below.refl _ _).drew⟩
      have HSd := Lib.hid hSd
      clear hSd
      go_wp2
      go_region_held3 (fun w' => (w'.cell? ⟨ga, k, none⟩ = some (.slice α x C) ∧ w'.cell? ⟨gb, k, none⟩ = some (.slice β x D)) ∧ Hid (Below wr.heap.size wr w'))
        (first | exact HSd.out | exact hS2.out | (go_keep; done))
        (first | (go_at_call 24; refine (eqIntS_same _ _ _ _ _ (rowN L k) _ hmk (S1.out.below (show Two2 wr ga gb k (.slice α x C) (.slice β x D) _ from by assumption).2.out) (S2.out.below (show Two2 wr ga gb k (.slice α x C) (.slice β x D) _ from by assumption).2.out)).mono ?_; rintro e w2 ⟨rfl, hb2⟩; have hS2 := Lib.hid (Two2.next (show Two2 wr ga gb k (.slice α x C) (.slice β x D) _ from by assumption) hb2)))
      have HX := Lib.hid (Hb.out.trans (hS2.out.2.out.mono Hb.out.size))
      go_wp2
      go_roundw
      case rel => exact ⟨k + 1, by omega, by go_num, HX.out⟩
      case measure => simp [intOf]; omega
    · go_wp2
      go_ret
      exact ⟨rfl, Hb.out⟩
set_option maxHeartbeats 1000000 in
theorem markIntSS_any (lo hi g n c : Nat) (k0 : Int) (L : Rows) (w : World) (hk0 : 0 ≤ k0) (hk1 : k0 ≤ 1000) (hm : n + sumR L n ≤ 1048576) (hR : OSt w lo hi g n L) :
    Calls Try.prog 31 #[.slice (some ⟨g, 0, none⟩) n c, .int .i64 k0] w fun e w' => e = .returned (.int .i64 (k0 + sumR L n)) ∧ Reg lo hi w w' := by
  obtain ⟨⟨h0, h00⟩, A, hr, hrows⟩ := hR
  have HF : Hid (∀ i, i < n → lo ≤ A i ∧ A i < hi ∧ A i ≠ g ∧ ∀ j, j < i → A j ≠ A i) := Lib.hid (fun i hi => (hrows i hi).1)
  have HR0 := Lib.hid hr
  have HRS0 : Hid (∀ i, 0 ≤ i → i < n → Row w (A i) (lenN L i) (ic (rowN L i))) := Lib.hid (fun i _ hi => (hrows i hi).2)
  clear hr hrows
  go_enter Try.func31, Try.ntmps31
  go_wp2
  go_loopw [1, 5] (fun s i wr => ∃ j : Nat, j ≤ n ∧ i = .int .i64 j ∧ s = .int .i64 (k0 + sumR L j) ∧ Row wr g n (crow A L) ∧ (∀ i, j ≤ i → i < n → Row wr (A i) (lenN L i) (ic (rowN L i))) ∧ Reg lo hi w wr) (fun _ i _ => n - (intOf i).toNat)
  case atStart => exact ⟨0, Nat.zero_le _, rfl, congrArg (Value.int .i64) (by simp [sumR]), HR0.out, HRS0.out, Reg.refl _ _ _⟩
  case round =>
    obtain ⟨j, hj, rfl, rfl, hR, hS, hG⟩ := hrel
    have HR := Lib.hid hR
    have HS := Lib.hid hS
    have HG := Lib.hid hG
    clear hR hS hG
    have hmj := sumR_mono L hj
    by_cases hlt : j < n
    · have c0 := HR.out.cell hlt
      unfold crow at c0
      have hm1 := sumR_mono L (show j + 1 ≤ n from hlt)
      have HT : Hid (sumR L (j + 1) = sumR L j + lenN L j) := Lib.hid rfl
      rw [HT.out] at hm1
      have HJ := Lib.hid (HS.out j (Nat.le_refl _) hlt)
      generalize lenN L j = x at *
      go_wp2_with (go_at_call 27; refine (markIntS_any _ _ _ _ _ _ (by omega) (by omega) (by omega) (SlR.of_row HJ.out)).mono ?_; rintro e w2 ⟨rfl, _, hmk⟩; have HMK := Lib.hid hmk; clear hmk)
      go_roundw
      case rel =>
        obtain ⟨f1, f2, f3, f4⟩ := HF.out j hlt
        refine ⟨j + 1, by omega, by go_num, congrArg (Value.int .i64) (by rw [HT.out]; push_cast; omega), HMK.out.row HR.out (Ne.symm f3), fun i hi hin => HMK.out.row (HS.out i (by omega) hin) (Ne.symm ((HF.out i hin).2.2.2 j (by omega))), HG.out.trans (Reg.marked HMK.out fun b hb => ?_)⟩
        simp only [Option.some.injEq, Addr.mk.injEq, and_true] at hb
        omega
      case measure => simp [intOf]; omega
    · have hj' : j = n := by omega
      subst hj'
      go_wp2
      go_ret
      exact ⟨rfl, HG.out⟩
/-- A list of lists whose cells are numbered on, from k0. -/
def OMk (w : World) (g n : Nat) (L : Rows) (k0 : Int) : Prop := ∃ A : Nat → Nat, Row w g n (crow A L) ∧ ∀ i, i < n → SlR w (some ⟨A i, 0, none⟩) (lenN L i) (numc (k0 + sumR L i))
theorem OMk.below {w w' : World} {g n : Nat} {L : Rows} {k0 : Int} (h : OMk w g n L k0) (hb : Below w.heap.size w w') : OMk w' g n L k0 := by
  obtain ⟨A, h1, h2⟩ := h
  exact ⟨A, h1.below hb h1.lt, fun i hi => (h2 i hi).below hb⟩
set_option maxHeartbeats 1000000 in
theorem markIntSS_num (lo hi g n c : Nat) (k0 : Int) (L : Rows) (w : World) (hk0 : 0 ≤ k0) (hk1 : k0 ≤ 1000) (hm : n + sumR L n ≤ 1048576) (hR : OSt w lo hi g n L) :
    Calls Try.prog 31 #[.slice (some ⟨g, 0, none⟩) n c, .int .i64 k0] w fun e w' => e = .returned (.int .i64 (k0 + sumR L n)) ∧ OMk w' g n L k0 ∧ Reg lo hi w w' := by
  obtain ⟨⟨h0, h00⟩, A, hr, hrows⟩ := hR
  have HF : Hid (∀ i, i < n → lo ≤ A i ∧ A i < hi ∧ A i ≠ g ∧ ∀ j, j < i → A j ≠ A i) := Lib.hid (fun i hi => (hrows i hi).1)
  have HR0 := Lib.hid hr
  have HRS0 : Hid (∀ i, 0 ≤ i → i < n → Row w (A i) (lenN L i) (ic (rowN L i))) := Lib.hid (fun i _ hi => (hrows i hi).2)
  clear hr hrows
  go_enter Try.func31, Try.ntmps31
  go_wp2
  go_loopw [1, 5] (fun s i wr => ∃ j : Nat, j ≤ n ∧ i = .int .i64 j ∧ s = .int .i64 (k0 + sumR L j) ∧ Row wr g n (crow A L) ∧ (∀ i, j ≤ i → i < n → Row wr (A i) (lenN L i) (ic (rowN L i))) ∧ (∀ i, i < j → SlR wr (some ⟨A i, 0, none⟩) (lenN L i) (numc (k0 + sumR L i))) ∧ Reg lo hi w wr) (fun _ i _ => n - (intOf i).toNat)
  case atStart => exact ⟨0, Nat.zero_le _, rfl, congrArg (Value.int .i64) (by simp [sumR]), HR0.out, HRS0.out, fun i hi => absurd hi (Nat.not_lt_zero i), Reg.refl _ _ _⟩
  case round =>
    obtain ⟨j, hj, rfl, rfl, hR, hS, hD, hG⟩ := hrel
    have HR := Lib.hid hR
    have HS := Lib.hid hS
    have HG := Lib.hid hG
    have HD := Lib.hid hD
    clear hR hS hG hD
    have hmj := sumR_mono L hj
    by_cases hlt : j < n
    · have c0 := HR.out.cell hlt
      unfold crow at c0
      have hm1 := sumR_mono L (show j + 1 ≤ n from hlt)
      have HT : Hid (sumR L (j + 1) = sumR L j + lenN L j) := Lib.hid rfl
      rw [HT.out] at hm1
      have HJ := Lib.hid (HS.out j (Nat.le_refl _) hlt)
      have HX : Hid (lenN L j = lenN L j) := Lib.hid rfl
      generalize hx : lenN L j = x at hm1 HT HJ c0 ⊢
      have HLX := Lib.hid hx
      clear hx HX
      have HZ : Hid (sumR L j = sumR L j) := Lib.hid rfl
      generalize hz : sumR L j = z at hm1 HT hmj ⊢
      have HSZ := Lib.hid hz
      clear hz HZ
      go_wp2_with (go_at_call 27; refine (markIntS_any _ _ _ _ _ _ (by omega) (by omega) (by omega) (SlR.of_row HJ.out)).mono ?_; rintro e w2 ⟨rfl, hnum, hmk⟩; have HNUM := Lib.hid hnum; clear hnum; have HMK := Lib.hid hmk; clear hmk)
      go_roundw
      case rel =>
        obtain ⟨f1, f2, f3, f4⟩ := HF.out j hlt
        refine ⟨j + 1, by omega, by go_num, congrArg (Value.int .i64) (by rw [HT.out]; push_cast; omega), HMK.out.row HR.out (Ne.symm f3), fun i hi hin => HMK.out.row (HS.out i (by omega) hin) (Ne.symm ((HF.out i hin).2.2.2 j (by omega))), fun i hi => ?_, HG.out.trans (Reg.marked HMK.out fun b hb => ?_)⟩
        · by_cases e : i = j
          · subst e
            rw [HLX.out, HSZ.out]
            exact HNUM.out
          · exact HMK.out.keep (HD.out i (by omega)) (.inr (.inr ⟨A i, A j, rfl, rfl, f4 i (by omega)⟩))
        · simp only [Option.some.injEq, Addr.mk.injEq, and_true] at hb
          omega
      case measure => simp [intOf]; omega
    · have hj' : j = n := by omega
      subst hj'
      go_wp2
      go_ret
      exact ⟨rfl, ⟨A, HR.out, HD.out⟩, HG.out⟩
theorem heldIntSS_any (g n c : Nat) (k0 : Int) (L : Rows) (w : World) (hk0 : 0 ≤ k0) (hk1 : k0 ≤ 1000) (hm : n + sumR L n ≤ 1048576) (hR : OMk w g n L k0) :
    Calls Try.prog 32 #[.slice (some ⟨g, 0, none⟩) n c, .int .i64 k0] w fun e w' => e = .returned (.int .i64 (k0 + sumR L n)) ∧ w = w' := by
  obtain ⟨A, hr, hrows⟩ := hR
  have HR := Lib.hid hr
  have HS := Lib.hid hrows
  clear hr hrows
  go_enter Try.func32, Try.ntmps32
  go_wp2
  go_loopw [1, 5] (fun s i wr => ∃ j : Nat, j ≤ n ∧ i = .int .i64 j ∧ s = .int .i64 (k0 + sumR L j) ∧ wr = w) (fun _ i _ => n - (intOf i).toNat)
  case atStart => exact ⟨0, Nat.zero_le _, rfl, congrArg (Value.int .i64) (by simp [sumR]), rfl⟩
  case round =>
    obtain ⟨j, hj, rfl, rfl, rfl⟩ := hrel
    have hmj := sumR_mono L hj
    by_cases hlt : j < n
    · have c0 := HR.out.cell hlt
      unfold crow at c0
      have hm1 := sumR_mono L (show j + 1 ≤ n from hlt)
      have HT : Hid (sumR L (j + 1) = sumR L j + lenN L j) := Lib.hid rfl
      rw [HT.out] at hm1
      have HJ := Lib.hid (HS.out j hlt)
      generalize lenN L j = x at *
      generalize sumR L j = z at *
      have n0 : ¬ (k0 + (z : Int) + (x : Int) < 0) := by omega
      go_wp2_with (go_at_call 28; refine (heldIntS_any _ _ _ (k0 + (z : Int)) _ (by omega) (by omega) (by omega) HJ.out).mono ?_; rintro e w2 ⟨rfl, rfl⟩)
      go_roundw
      case rel => exact ⟨j + 1, by omega, by go_num, congrArg (Value.int .i64) (by rw [HT.out]; push_cast; omega), trivial⟩
      case measure => simp [intOf]; omega
    · have hj' : j = n := by omega
      subst hj'
      go_wp2
      go_ret
      exact ⟨rfl, rfl⟩
end Go.Proofs.Yteojoifhmaoiaaa
