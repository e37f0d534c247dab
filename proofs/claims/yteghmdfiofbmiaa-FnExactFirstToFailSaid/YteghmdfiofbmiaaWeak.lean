/-
  The weakest strip of a card: contracts of weakest and WeakestStrip.
  By an AI agent.
-/
import Derived.Test.YteghmdfiofbmiaaCorner
import Derived.Test.YteghmdfiofbmiaaCopy
import Derived.Deep.RegionHeld3
namespace Go.Proofs.Yteghmdfiofbmiaa
open Go.ChangeShapes Go.WideShapes Go.ChangeAt Go.RowKit Go.Joins Go.Deep
set_option maxRecDepth 100000
set_option linter.unusedVariables false

/-- Three cells, and nothing below W's size turned. -/
def C3 (W : World) (b1 o1 : Nat) (v1 : Value) (b2 o2 : Nat) (v2 : Value) (b3 o3 : Nat) (v3 : Value) (w' : World) : Prop :=
  (w'.cell? ⟨b1, o1, none⟩ = some v1 ∧ w'.cell? ⟨b2, o2, none⟩ = some v2 ∧ w'.cell? ⟨b3, o3, none⟩ = some v3) ∧ Hid (Below W.heap.size W w')
theorem C3.next {W w1 w2 : World} {b1 o1 b2 o2 b3 o3 : Nat} {v1 v2 v3 : Value} (h : C3 W b1 o1 v1 b2 o2 v2 b3 o3 v3 w1) (hb : Below w1.heap.size w1 w2) : C3 W b1 o1 v1 b2 o2 v2 b3 o3 v3 w2 := by
  obtain ⟨⟨c1, c2, c3⟩, hB⟩ := h
  have l1 : b1 < w1.heap.size := World.block_lt_of_cell? _ _ c1
  have l2 : b2 < w1.heap.size := World.block_lt_of_cell? _ _ c2
  have l3 : b3 < w1.heap.size := World.block_lt_of_cell? _ _ c3
  exact ⟨⟨(hb.cell (p := ⟨b1, o1, none⟩) l1).trans c1, (hb.cell (p := ⟨b2, o2, none⟩) l2).trans c2, (hb.cell (p := ⟨b3, o3, none⟩) l3).trans c3⟩, Lib.hid (hB.out.trans (hb.mono hB.out.size))⟩

def fo (ss : List ByteArray) (k : Nat) : Int := folds (ss.getD k ByteArray.empty)
/-- The place of the first strip with the most folds, among the first k. -/
def wk (ss : List ByteArray) : Nat → Nat
  | 0 => 0
  | k + 1 => if fo ss (wk ss k) < fo ss k then k else wk ss k
theorem wk_le (ss : List ByteArray) (k : Nat) : wk ss k ≤ k ∧ (1 ≤ k → wk ss k < k) := by
  induction k with
  | zero => exact ⟨Nat.le_refl _, fun h => by omega⟩
  | succ k ih => unfold wk; split <;> omega
theorem wk_yes {ss : List ByteArray} {k : Nat} (h : fo ss (wk ss k) < fo ss k) : wk ss (k + 1) = k := by show (if _ then _ else _) = _; rw [if_pos h]
theorem wk_no {ss : List ByteArray} {k : Nat} (h : ¬ fo ss (wk ss k) < fo ss k) : wk ss (k + 1) = wk ss k := by show (if _ then _ else _) = _; rw [if_neg h]
/-- What impl.weakest keeps as the most. -/
def mo (ss : List ByteArray) : Nat → Int
  | 0 => -1
  | k + 1 => fo ss (wk ss (k + 1))
theorem fo_nonneg {s : ByteArray} (h : isStripB s = true) : 0 ≤ folds s := by
  unfold folds foldsOf'; rw [h]
  simp only [if_true]
  split <;> split <;> omega
theorem mo_step {ss : List ByteArray} {k : Nat} (hn : 0 ≤ fo ss k) : (mo ss k < fo ss k → wk ss (k + 1) = k ∧ mo ss (k + 1) = fo ss k) ∧ (¬ mo ss k < fo ss k → wk ss (k + 1) = wk ss k ∧ mo ss (k + 1) = mo ss k) := by
  cases k with
  | zero =>
    have e : wk ss 1 = 0 := by unfold wk; split <;> rfl
    exact ⟨fun _ => ⟨e, by show fo ss (wk ss 1) = _; rw [e]⟩, fun h => absurd (show (-1 : Int) < fo ss 0 by omega) h⟩
  | succ k =>
    refine ⟨fun h => ?_, fun h => ?_⟩
    · have e := wk_yes (ss := ss) (k := k + 1) h
      exact ⟨e, by show fo ss (wk ss (k + 2)) = _; rw [e]⟩
    · have e := wk_no (ss := ss) (k := k + 1) h
      exact ⟨e, by show fo ss (wk ss (k + 2)) = fo ss (wk ss (k + 1)); rw [e]⟩
theorem strips_ok {d f : Int} {ss : List ByteArray} (h : cardOkB d f ss = true) {k : Nat} (hk : k < ss.length) : isStripB (ss.getD k ByteArray.empty) = true := by
  obtain ⟨⟨q1, _⟩, ha⟩ := cardOk_iff.1 h
  have := (stripIn_iff.1 (allIn_at ha hk)).1
  cases e : isStripB (ss.getD k ByteArray.empty)
  · rw [downOf_f e] at this; omega
  · rfl
theorem iweakest_any (d f : Int) (a : Option Addr) (n c : Nat) (ss : List ByteArray) (w : World) (hl : ss.length = n) (hm : (n : Int) + tot ss n ≤ 1048576) (hR : SlR w a n (sc ss)) (hok : cardOkB d f ss = true) :
    Calls Try.prog 92 #[.agg #[.int .i64 d, .int .i64 f, .slice a n c]] w fun e w' => e = .returned (.tuple #[.int .i64 (wk ss n : Nat), .int .i64 (mo ss n)]) ∧ Below w.heap.size w w' := by
  have HB0 := Lib.hid (Below.box w (.cells #[.int .i64 d, .int .i64 f, .slice a n c] 57 (0, 0)))
  have HR := Lib.hid (hR.below HB0.out)
  have HL := Lib.hid hl
  have HO := Lib.hid hok
  clear hR hl hok
  go_enter Try.func92, Try.ntmps92
  go_wp2
  go_loopw [4, 5, 12] (fun p q i wr => ∃ k : Nat, k ≤ n ∧ i = .int .i64 k ∧ p = .int .i64 (wk ss k : Nat) ∧ q = .int .i64 (mo ss k) ∧ Below (w.alloc (.cells #[.int .i64 d, .int .i64 f, .slice a n c] 57 (0, 0))).heap.size (w.alloc (.cells #[.int .i64 d, .int .i64 f, .slice a n c] 57 (0, 0))) wr) (fun _ _ i _ => n - (intOf i).toNat)
  case atStart => exact ⟨0, Nat.zero_le _, rfl, rfl, rfl, Below.refl _ _⟩
  case round =>
    obtain ⟨k, hk, rfl, rfl, rfl, hB⟩ := hrel
    have HB := Lib.hid hB
    clear hB
    by_cases hlt : k < n
    · obtain ⟨g, rfl, hr⟩ := (HR.out.below HB.out).row (by omega)
      have c0 := hr.cell hlt
      have hz := tot_at ss hlt
      have hst := strips_ok HO.out (k := k) (by rw [HL.out]; exact hlt)
      obtain ⟨m1, m2⟩ := mo_step (ss := ss) (k := k) (fo_nonneg hst)
      unfold sc at c0
      clear hr hst
      have HF : Hid (fo ss k = folds (ss.getD k ByteArray.empty)) := Lib.hid rfl
      by_cases hmo : mo ss k < fo ss k
      · obtain ⟨e1, e2⟩ := m1 hmo
        have E1 := Lib.hid e1
        have E2 := Lib.hid e2
        rw [HF.out] at hmo
        rw [HF.out] at E2
        clear m1 m2 e1 e2 HF
        generalize ss.getD k ByteArray.empty = q at c0 hz hmo E2
        go_wp2_with (go_at_call 118; refine (iCountFolds_any _ _ (by omega)).mono ?_; rintro e w2 ⟨rfl, hb2⟩)
        go_roundw
        case rel => exact ⟨k + 1, by omega, by go_num, by rw [E1.out], by rw [E2.out], HB.out.trans (hb2.mono HB.out.size)⟩
        case measure => simp [intOf]; omega
      · obtain ⟨e1, e2⟩ := m2 hmo
        have E1 := Lib.hid e1
        have E2 := Lib.hid e2
        rw [HF.out] at hmo
        clear m1 m2 e1 e2 HF
        generalize ss.getD k ByteArray.empty = q at c0 hz hmo
        go_wp2_with (go_at_call 118; refine (iCountFolds_any _ _ (by omega)).mono ?_; rintro e w2 ⟨rfl, hb2⟩)
        go_roundw
        case rel => exact ⟨k + 1, by omega, by go_num, by rw [E1.out], by rw [E2.out], HB.out.trans (hb2.mono HB.out.size)⟩
        case measure => simp [intOf]; omega
    · have hk' : k = n := by omega
      subst hk'
      go_wp2
      go_ret2
      exact ⟨rfl, HB0.out.trans (HB.out.mono HB0.out.size)⟩
end Go.Proofs.Yteghmdfiofbmiaa
