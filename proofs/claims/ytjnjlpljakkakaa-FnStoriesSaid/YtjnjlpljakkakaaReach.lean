/-
  Contract of l24Reach in the reference.
  By an AI agent.
-/
import Derived.Test.YtjnjlpljakkakaaGraph
import Derived.Test.YtjnjlpljakkakaaTwo
namespace Go.Proofs.Ytjnjlpljakkakaa
open Go.ChangeShapes Go.WideShapes Go.ChangeAt Go.RowKit Go.Joins Go.Deep
set_option maxRecDepth 100000
set_option linter.unusedVariables false

/-- Cells that hold words. -/
def wc (f : Nat → Nat) (i : Nat) : Value := .int .i64 ((f i : Nat) : Int)
theorem wc_set {w : World} {g n k v : Nat} {f : Nat → Nat} (h : Row w g n (wc f)) : Row (w.setCell ⟨g, k, none⟩ (.int .i64 (v : Int))) g n (wc (fun i => if i = k then v else f i)) := by
  refine (h.set _ _).congr fun q _ => ?_
  unfold wc
  by_cases e : q = k
  · subst e; simp
  · simp [e]
theorem i64_nat (a : Nat) (h : a < 9223372036854775808) : (BitVec.ofInt 64 (a : Int)).toNat = a := by
  rw [BitVec.ofInt_natCast, BitVec.toNat_ofNat]; exact Nat.mod_eq_of_lt (by omega)
theorem or_i64 (a b : Nat) (ha : a < 65536) (hb : b < 65536) : bits .or .i64 (a : Int) (b : Int) = ((a ||| b : Nat) : Int) := by
  have hx : a ||| b < 2 ^ 16 := Nat.or_lt_two_pow (by omega) (by omega)
  show IntKind.i64.wrap ((BitVec.ofInt 64 (a : Int) ||| BitVec.ofInt 64 (b : Int)).toNat : Int) = _
  rw [BitVec.toNat_or, i64_nat a (by omega), i64_nat b (by omega)]
  exact IntWalk.i64_in _ (by omega)
theorem or_lt (a b : Nat) (ha : a < 65536) (hb : b < 65536) : a ||| b < 65536 := Nat.or_lt_two_pow (n := 16) (by omega) (by omega)
theorem and_one_i64 (a : Nat) (ha : a < 9223372036854775808) : bits .and .i64 (a : Int) 1 = ((a % 2 : Nat) : Int) := by
  show IntKind.i64.wrap ((BitVec.ofInt 64 (a : Int) &&& BitVec.ofInt 64 ((1 : Nat) : Int)).toNat : Int) = _
  rw [BitVec.toNat_and, i64_nat a ha, i64_nat 1 (by omega), Nat.and_one_is_mod]
  exact IntWalk.i64_in _ (by omega)
theorem bit_eq (a m : Nat) : a.testBit m = decide (a / 2 ^ m % 2 = 1) := Nat.testBit_eq_decide_div_mod_eq
theorem pow_lt16 {x n : Nat} (h : x < n) (hn : n ≤ 16) : 2 ^ x < 65536 := Nat.pow_lt_pow_right (a := 2) (by omega) (show x < 16 by omega)
theorem shl_one {x : Nat} (h : x < 16) : IntKind.i64.wrap (2 ^ min x 64) = ((2 ^ x : Nat) : Int) := by
  rw [show min x 64 = x by omega]
  have := pow_lt16 h (Nat.le_refl _)
  have e : ((2 : Int) ^ x) = ((2 ^ x : Nat) : Int) := by norm_cast
  rw [e]
  generalize 2 ^ x = P at *
  exact IntWalk.i64_in _ (by omega)
theorem bit_test (a m : Nat) (ha : a < 65536) : (bits .and .i64 ((a : Int) / 2 ^ m) 1 == 1) = a.testBit m := by
  have e : (a : Int) / 2 ^ m = ((a / 2 ^ m : Nat) : Int) := by norm_cast
  rw [e, and_one_i64 _ (Nat.lt_of_le_of_lt (Nat.div_le_self _ _) (by omega)), bit_eq]
  by_cases h : a / 2 ^ m % 2 = 1
  · rw [h]; rfl
  · rw [decide_eq_false h, show a / 2 ^ m % 2 = 0 by omega]; rfl
theorem or_pow (a x : Nat) (ha : a < 65536) (hx : x < 16) : bits .or .i64 (a : Int) (IntKind.i64.wrap (2 ^ x)) = ((a ||| 2 ^ x : Nat) : Int) := by
  have h1 := shl_one hx
  rw [show min x 64 = x by omega] at h1
  rw [h1, or_i64 _ _ ha (pow_lt16 hx (Nat.le_refl _))]
theorem TabOk.start {L : Rows} {m n : Nat} {f : Nat → Nat} (h : TabOk L m n f) : TabIn L m 0 n f := TabIn.start h
/-- What the reference's table holds. -/
def ReachP (n : Nat) (L : Rows) (w : World) (e : Ending) (w' : World) : Prop :=
  ∃ (g c : Nat) (f : Nat → Nat), e = .returned (.slice (some ⟨g, 0, none⟩) n c) ∧ Row w' g n (wc f) ∧ (∀ i, i < n → f i < 65536 ∧ ∀ j, (f i).testBit j = true ↔ Path L i j) ∧ Below w.heap.size w w'
set_option maxHeartbeats 4000000 in
theorem reach_any (a : Option Addr) (n c : Nat) (L : Rows) (w : World) (hs : storyOk n L) (hR : RSt w a n L) :
    Calls Try.prog 41 #[.agg #[.slice a n c]] w (ReachP n L w) := by
  obtain ⟨i0, hi0, hz0, hz1, hz2⟩ := info_parts infoInt
  have HS := Lib.hid hs
  obtain ⟨⟨n1, n2⟩, _⟩ := hs
  have hb0 := Below.box w (.cells #[.slice a n c] 27 (0, 0))
  have HB0 := Lib.hid hb0
  have HR := Lib.hid (hR.below hb0)
  clear hR hb0
  have hc0 : (w.alloc (.cells #[.slice a n c] 27 (0, 0))).cell? ⟨w.heap.size, 0, none⟩ = some (.slice a n c) := new_cell rfl
  have HC0 := Lib.hid hc0
  have hs0 : w.heap.size < (w.alloc (.cells #[.slice a n c] 27 (0, 0))).heap.size := by simp
  clear hc0
  have hsz : (w.alloc (.cells #[.slice a n c] 27 (0, 0))).heap.size = w.heap.size + 1 := by simp
  go_enter Try.func41, Try.ntmps41
  go_wp2_with (at_make; refine wpList_make_full _ rfl _ _ 31 rfl (w.alloc (.cells #[.slice a n c] 27 (0, 0))).heap.size 3 i0 _ 1 Try.underlying31 hi0 hz0 hz1 .i64 .i64 n n n rfl rfl rfl rfl (by rw [hz2]; omega) (by unfold maxLen; omega) (Nat.le_refl _) ?_; intro w1 own1 gr1)
  generalize hW : w.alloc (.cells #[.slice a n c] 27 (0, 0)) = W at *
  clear hW
  generalize hbx : w.heap.size = bx at *
  generalize hog : W.heap.size = og at *
  obtain rfl : og = bx + 1 := hsz
  have hbo : bx < (bx + 1) := by omega
  have FIN : Hid (∀ w', Below (bx + 1) W w' → Below w.heap.size w w') := Lib.hid (fun w' h => by rw [hbx]; exact HB0.out.trans (h.mono (by omega)))
  have R0 : Row w1 (bx + 1) n (wc (fun _ => 0)) := ((Row.of_owns own1).mono (M := n) (by omega)).congr fun j hj => by
    rw [made_at _ _ _ (by omega)]
    simp [Value.cells, Nat.mod_one, wc]
  have B0 : Below (bx + 1) W w1 := (Below.refl (bx + 1) W).grown gr1 (Nat.le_of_eq hog.symm) (by simp)
  have HOG := Lib.hid hog
  clear own1 gr1 hog hbx
  go_loopw [5] (fun i wr => ∃ (k : Nat) (f : Nat → Nat), k ≤ n ∧ i = .int .i64 k ∧ Row wr (bx + 1) n (wc f) ∧ TabNew L k 0 n f ∧ (∀ i, f i < 65536) ∧ Below (bx + 1) W wr) (fun i _ => n - (intOf i).toNat)
  case atStart => exact ⟨0, _, Nat.zero_le _, rfl, R0, TabNew.start, fun _ => by omega, B0⟩
  case round =>
    obtain ⟨k, f, hk, rfl, hr, ht, hf, hB⟩ := hrel
    rename World => wo
    have HRW := Lib.hid hr
    have HT := Lib.hid ht
    have HF := Lib.hid hf
    have HB := Lib.hid hB
    clear hr ht hf hB
    by_cases hlt : k < n
    · have i0' : (0 : Int) ≤ (k : Int) := Int.natCast_nonneg _
      have i1 : (k : Int) < (n : Int) := by omega
      go_wp2
      go_loopw [6] (fun i wr => ∃ (q : Nat) (f : Nat → Nat), q ≤ lenN L k ∧ i = .int .i64 q ∧ Row wr (bx + 1) n (wc f) ∧ TabNew L k q n f ∧ (∀ i, f i < 65536) ∧ Below (bx + 1) W wr) (fun i _ => lenN L k - (intOf i).toNat)
      case atStart => exact ⟨0, _, Nat.zero_le _, rfl, HRW.out, HT.out, HF.out, HB.out⟩
      case round =>
        obtain ⟨q, f, hq, rfl, hr, ht, hf, hB2⟩ := hrel
        rename World => wi
        have HRI := Lib.hid hr
        have HTI := Lib.hid ht
        have HFI := Lib.hid hf
        have HBI := Lib.hid hB2
        clear hr ht hf hB2
        obtain ⟨g, α, C, rfl, lg, c1, hC, s1⟩ := (HR.out.below (show Below W.heap.size W wi by rw [HOG.out]; exact HBI.out)).at hlt
        have c0 := (HBI.out.cell (p := ⟨bx, 0, none⟩) hbo).trans HC0.out
        have hlen := (HS.out.2 k hlt).1
        have hlen' : lenN L k ≤ 4 := hlen
        clear hlen
        by_cases hlq : q < lenN L k
        · obtain ⟨g3, rfl, hr3⟩ := s1.row (by omega)
          have c2 := hr3.cell hlq
          unfold ic at c2
          have hv := ((HS.out.2 k hlt).2 q hlq).1
          obtain ⟨x, hx⟩ : ∃ x : Nat, (rowN L k).getD q 0 = (x : Int) := ⟨((rowN L k).getD q 0).toNat, by omega⟩
          rw [hx] at c2 hv
          have HX := Lib.hid hx
          clear hr3 hx s1
          have hx16 : x < 16 := by omega
          have HTN := Lib.hid (HTI.out.next hlt HX.out)
          have c3 := HRI.out.cell hlt
          unfold wc at c3
          have f3 := HRI.out.frozen k
          have hfk := HFI.out k
          have hpx := pow_lt16 (n := 16) hx16 (Nat.le_refl _)
          have e1 := shl_one hx16
          have HOL := Lib.hid (or_lt _ _ hfk hpx)
          have e2 := or_pow _ _ hfk hx16
          have HRN : Hid (Row (wi.setCell ⟨bx + 1, k, none⟩ (.int .i64 (bits .or .i64 (f k : Int) (wrap64 (2 ^ x))))) (bx + 1) n (wc (fun i => if i = k then f k ||| 2 ^ x else f i))) := Lib.hid (by rw [← IntWalk.i64_left, e2]; exact wc_set HRI.out)
          clear e2 e1 hpx
          generalize hm' : lenN L k = m at *
          generalize f k ||| 2 ^ x = u at *
          generalize hfk2 : f k = F at *
          have j0 : (0 : Int) ≤ (q : Int) := Int.natCast_nonneg _
          have j1 : (q : Int) < (m : Int) := by omega
          have j2 : ¬ ((x : Int) < 0) := by omega
          go_wp2
          go_region
          go_wp2
          go_roundw
          case rel => exact ⟨q + 1, (fun i => if i = k then u else f i), by omega, by go_num, HRN.out.of_heap rfl, HTN.out, fun i => (by show (if i = k then u else f i) < 65536; split; exact HOL.out; exact HFI.out i), ((HBI.out.setCell (p := ⟨bx + 1, k, none⟩) (Nat.le_refl _) _).drew)⟩
          case measure => simp [intOf]; omega
        · have hq' : q = lenN L k := by omega
          subst hq'
          have HTN := Lib.hid HTI.out.row
          go_wp2
          go_roundw
          case rel => exact ⟨k + 1, f, by omega, by go_num, HRI.out, HTN.out, HFI.out, HBI.out⟩
          case measure => simp [intOf]; omega
    · have hk' : k = n := by omega
      subst hk'
      have HTD := Lib.hid HT.out.done
      clear HT
      go_wp2
      go_loopw [7] (fun i wr => ∃ (m : Nat) (f : Nat → Nat), m ≤ k ∧ i = .int .i64 m ∧ Row wr (bx + 1) k (wc f) ∧ TabOk L m k f ∧ (∀ i, f i < 65536) ∧ Below (bx + 1) W wr) (fun i _ => k - (intOf i).toNat)
      case atStart => exact ⟨0, _, Nat.zero_le _, rfl, HRW.out, HTD.out, HF.out, HB.out⟩
      case round =>
        clear HTD HF HRW HB
        obtain ⟨m, f, hm, rfl, hr, ht, hf, hB⟩ := hrel
        rename World => wm
        have HRW := Lib.hid hr
        have HT := Lib.hid ht
        have HF := Lib.hid hf
        have HB := Lib.hid hB
        clear hr ht hf hB
        by_cases hlm : m < k
        · have i0' : (0 : Int) ≤ (m : Int) := Int.natCast_nonneg _
          have i1 : (m : Int) < (k : Int) := by omega
          go_wp2
          go_loopw [8] (fun i wr => ∃ (q : Nat) (f : Nat → Nat), q ≤ k ∧ i = .int .i64 q ∧ Row wr (bx + 1) k (wc f) ∧ TabIn L m q k f ∧ (∀ i, f i < 65536) ∧ Below (bx + 1) W wr) (fun i _ => k - (intOf i).toNat)
          case atStart => exact ⟨0, _, Nat.zero_le _, rfl, HRW.out, HT.out.start, HF.out, HB.out⟩
          case round =>
            clear HT HF HRW HB
            obtain ⟨q, f, hq, rfl, hr, ht, hf, hB⟩ := hrel
            rename World => wi
            have HRI := Lib.hid hr
            have HTI := Lib.hid ht
            have HFI := Lib.hid hf
            have HBI := Lib.hid hB
            clear hr ht hf hB
            by_cases hlq : q < k
            · have c3 := HRI.out.cell hlq
              have c4 := HRI.out.cell hlm
              unfold wc at c3 c4
              have f3 := HRI.out.frozen q
              have hfq := HFI.out q
              have hfm := HFI.out m
              have e2 := bit_test (f q) m hfq
              have e3 := or_i64 _ _ hfq hfm
              have HOL := Lib.hid (or_lt _ _ hfq hfm)
              have j0 : (0 : Int) ≤ (q : Int) := Int.natCast_nonneg _
              have j1 : (q : Int) < (k : Int) := by omega
              have j2 : ¬ ((m : Int) < 0) := by omega
              cases hb : (f q).testBit m
              · have HTN := Lib.hid (HTI.out.next_no hlq hlm hb)
                rw [hb] at e2
                clear hb e3
                generalize f q = F at *
                go_wp2
                go_roundw
                case rel => exact ⟨q + 1, f, by omega, by go_num, HRI.out, HTN.out, HFI.out, HBI.out⟩
                case measure => simp [intOf]; omega
              · have HTN := Lib.hid (HTI.out.next_or hlq hlm hb)
                have HRN : Hid (Row (wi.setCell ⟨bx + 1, q, none⟩ (.int .i64 (bits .or .i64 (f q : Int) (f m : Int)))) (bx + 1) k (wc (fun i => if i = q then f q ||| f m else f i))) := Lib.hid (by rw [e3]; exact wc_set HRI.out)
                rw [hb] at e2
                clear hb e3
                generalize f q ||| f m = u at *
                generalize hFq : f q = F at *
                generalize hFm : f m = G at *
                go_wp2
                go_region
                go_wp2
                go_roundw
                case rel => exact ⟨q + 1, (fun i => if i = q then u else f i), by omega, by go_num, HRN.out.of_heap rfl, HTN.out, fun i => (by show (if i = q then u else f i) < 65536; split; exact HOL.out; exact HFI.out i), ((HBI.out.setCell (p := ⟨bx + 1, q, none⟩) (Nat.le_refl _) _).drew)⟩
                case measure => simp [intOf]; omega
            · have hq' : q = k := by omega
              subst hq'
              have HTN := Lib.hid HTI.out.done
              go_wp2
              go_roundw
              case rel => exact ⟨m + 1, f, by omega, by go_num, HRI.out, HTN.out, HFI.out, HBI.out⟩
              case measure => simp [intOf]; omega
        · have hm' : m = k := by omega
          subst hm'
          have HX : Hid (∀ i, i < m → f i < 65536 ∧ ∀ j, (f i).testBit j = true ↔ Path L i j) := Lib.hid (fun i hi => ⟨HF.out i, fun j => (HT.out i hi j).trans (Rm_all HS.out hi)⟩)
          go_wp2
          go_ret
          exact ⟨bx + 1, m, f, rfl, HRW.out, HX.out, FIN.out _ HB.out⟩
end Go.Proofs.Ytjnjlpljakkakaa
