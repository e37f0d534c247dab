/-
  Contracts of l24Bits in the reference and marked in the program: the pages of a set, in order.
  By an AI agent.
-/
import Derived.Test.YtjnjlpljakkakaaReach
import Derived.Test.YtjnjlpljakkakaaDfs
namespace Go.Proofs.Ytjnjlpljakkakaa
open Go.ChangeShapes Go.WideShapes Go.ChangeAt Go.RowKit Go.Joins Go.Deep
set_option maxRecDepth 100000
set_option linter.unusedVariables false

/-- The numbers below n that P takes. -/
def fl (P : Nat → Bool) (n : Nat) : List Int := ((List.range n).filter P).map Int.ofNat
theorem fl_yes {P : Nat → Bool} {k : Nat} (h : P k = true) : fl P (k + 1) = fl P k ++ [(k : Int)] := by
  unfold fl; rw [List.range_succ, List.filter_append, List.map_append]; simp [h]
theorem fl_no {P : Nat → Bool} {k : Nat} (h : P k = false) : fl P (k + 1) = fl P k := by
  unfold fl; rw [List.range_succ, List.filter_append, List.map_append]; simp [h]
theorem fl_len (P : Nat → Bool) (n : Nat) : (fl P n).length ≤ n := by
  unfold fl; rw [List.length_map]; exact Nat.le_trans (List.length_filter_le _ _) (by simp)
theorem fl_congr {P Q : Nat → Bool} {n : Nat} (h : ∀ k, k < n → P k = Q k) : fl P n = fl Q n := by
  unfold fl
  congr 1
  exact List.filter_congr fun k hk => h k (List.mem_range.1 hk)
theorem GetL.own {L : List Int} {w w' : World} {e : TypeId} {B g n c : Nat} (h : Own1 w' B e g n c (L.map (Value.int .i64))) (hB : w.heap.size ≤ B) (hb : Below w.heap.size w w') : GetL L w (.returned (.slice (some ⟨g, 0, none⟩) n c)) w' := by
  have hl := h.len
  rw [List.length_map] at hl
  subst hl
  exact ⟨_, _, rfl, h.sl, .of (Nat.le_trans hB h.lt.1), hb⟩
set_option maxHeartbeats 1000000 in
theorem bits_any (s n : Nat) (w : World) (hs : s < 65536) (hn : n ≤ 16) :
    Calls Try.prog 43 #[.int .i64 (s : Int), .int .i64 (n : Int)] w (GetL (fl (fun k => s.testBit k) n) w) := by
  go_enter Try.func43, Try.ntmps43
  go_wp2
  have O0 := Own1.empty w 3
  go_loopw [5, 6] (fun v i wr => ∃ (k g1 c1 : Nat), k ≤ n ∧ i = .int .i64 k ∧ v = .slice (some ⟨g1, 0, none⟩) (fl (fun k => s.testBit k) k).length c1 ∧ Own1 wr w.heap.size 3 g1 (fl (fun k => s.testBit k) k).length c1 ((fl (fun k => s.testBit k) k).map (Value.int .i64)) ∧ Below w.heap.size w wr) (fun _ i _ => n - (intOf i).toNat)
  case atStart => exact ⟨0, _, 0, Nat.zero_le _, rfl, rfl, O0, Below.box _ _⟩
  case round =>
    obtain ⟨k, g1, c1, hk, rfl, rfl, h1, hB⟩ := hrel
    have H1 := Lib.hid h1
    have HB := Lib.hid hB
    have hl := fl_len (fun k => s.testBit k) k
    clear h1 hB
    by_cases hlt : k < n
    · have t1 := bit_test s k hs
      have j2 : ¬ ((k : Int) < 0) := by omega
      cases hb : s.testBit k
      · have HT := Lib.hid (fl_no (P := fun k => s.testBit k) hb)
        rw [hb] at t1
        clear hb
        go_wp2
        go_roundw
        case rel => exact ⟨k + 1, g1, c1, by omega, by go_num, by rw [HT.out], by rw [HT.out]; exact H1.out, HB.out⟩
        case measure => simp [intOf]; omega
      · have HT := Lib.hid (fl_yes (P := fun k => s.testBit k) hb)
        rw [hb] at t1
        clear hb
        have hl1 := H1.out.lt
        have HBX := Lib.hid (Below.box wr (.cells #[.int .i64 (k : Int)] 3 (0, 0)))
        go_wp2_with (at_builtin; refine append_one rfl _ _ 31 rfl Try.underlying31 infoInt rfl (by omega) rfl (H1.out.alloc _) (by omega) rfl (new_cell (by simp)) rfl ?_; intro g' c' w3 o3 oo3 l3; have O3 := Lib.hid o3; have OO3 := Lib.hid oo3; clear o3 oo3 l3)
        go_roundw
        case rel =>
          have b2 := HB.out.alloc (o := .cells #[.int .i64 (k : Int)] 3 (0, 0)) HB.out.size
          have e1 : (fl (fun k => s.testBit k) (k + 1)).length = (fl (fun k => s.testBit k) k).length + 1 := by rw [HT.out]; simp
          exact ⟨k + 1, g', c', by omega, by go_num, by rw [e1], by rw [e1, HT.out, List.map_append]; exact O3.out, b2.trans (OO3.out.toBelow hl1.1 b2.size)⟩
        case measure => simp [intOf]; omega
    · have hk' : k = n := by omega
      subst hk'
      go_wp2
      go_ret
      exact GetL.own H1.out (Nat.le_refl _) HB.out
set_option maxHeartbeats 1000000 in
theorem marked_any (g n c : Nat) (T : Nat → Bool) (v : Bool) (w : World) (hn : n ≤ 16) (hR : Row w g n (bc T)) :
    Calls Try.prog 44 #[.slice (some ⟨g, 0, none⟩) n c, .bool v] w (GetL (fl (fun k => T k == v) n) w) := by
  have HR := Lib.hid hR
  clear hR
  go_enter Try.func44, Try.ntmps44
  go_wp2
  have O0 := Own1.empty w 3
  go_loopw [5, 11] (fun u i wr => ∃ (k g1 c1 : Nat), k ≤ n ∧ i = .int .i64 k ∧ u = .slice (some ⟨g1, 0, none⟩) (fl (fun k => T k == v) k).length c1 ∧ Own1 wr w.heap.size 3 g1 (fl (fun k => T k == v) k).length c1 ((fl (fun k => T k == v) k).map (Value.int .i64)) ∧ Below w.heap.size w wr) (fun _ i _ => n - (intOf i).toNat)
  case atStart => exact ⟨0, _, 0, Nat.zero_le _, rfl, rfl, O0, Below.box _ _⟩
  case round =>
    obtain ⟨k, g1, c1, hk, rfl, rfl, h1, hB⟩ := hrel
    have H1 := Lib.hid h1
    have HB := Lib.hid hB
    have hl := fl_len (fun k => T k == v) k
    clear h1 hB
    by_cases hlt : k < n
    · have hrow := HR.out.below HB.out HR.out.lt
      have c0 := hrow.cell hlt
      unfold bc at c0
      clear hrow
      cases hb : (T k == v)
      · have HT := Lib.hid (fl_no (P := fun k => T k == v) hb)
        generalize T k = t at *
        go_wp2
        go_roundw
        case rel => exact ⟨k + 1, g1, c1, by omega, by go_num, by rw [HT.out], by rw [HT.out]; exact H1.out, HB.out⟩
        case measure => simp [intOf]; omega
      · have HT := Lib.hid (fl_yes (P := fun k => T k == v) hb)
        have hl1 := H1.out.lt
        generalize T k = t at *
        go_wp2_with (at_builtin; refine append_one rfl _ _ 31 rfl Try.underlying31 infoInt rfl (by omega) rfl (H1.out.alloc _) (by omega) rfl (new_cell (by simp)) rfl ?_; intro g' c' w3 o3 oo3 l3; have O3 := Lib.hid o3; have OO3 := Lib.hid oo3; clear o3 oo3 l3)
        go_roundw
        case rel =>
          have b2 := HB.out.alloc (o := .cells #[.int .i64 (k : Int)] 3 (0, 0)) HB.out.size
          have e1 : (fl (fun k => T k == v) (k + 1)).length = (fl (fun k => T k == v) k).length + 1 := by rw [HT.out]; simp
          exact ⟨k + 1, g', c', by omega, by go_num, by rw [e1], by rw [e1, HT.out, List.map_append]; exact O3.out, b2.trans (OO3.out.toBelow hl1.1 b2.size)⟩
        case measure => simp [intOf]; omega
    · have hk' : k = n := by omega
      subst hk'
      go_wp2
      go_ret
      exact GetL.own H1.out (Nat.le_refl _) HB.out
end Go.Proofs.Ytjnjlpljakkakaa
