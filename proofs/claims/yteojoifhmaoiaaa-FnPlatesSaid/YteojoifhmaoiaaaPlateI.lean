/-
  Contract of PlatesOf in the program: the colors, sorted and compacted, are the colors that are used, in their order.
  By an AI agent.
-/
import Derived.Test.YteojoifhmaoiaaaPlate
import Derived.Test.YteojoifhmaoiaaaShelf
import Derived.Sort.OwnSortedInts
import Derived.Lib.OwnBridge
namespace Go.Proofs.Yteojoifhmaoiaaa
open Go.ChangeShapes Go.WideShapes Go.ChangeAt Go.RowKit Go.Joins Go.Deep
set_option maxRecDepth 100000
set_option linter.unusedVariables false

theorem sorted_ext : ∀ {l1 l2 : List Int}, l1.Pairwise (· < ·) → l2.Pairwise (· < ·) → (∀ x, x ∈ l1 ↔ x ∈ l2) → l1 = l2 := by
  intro l1
  induction l1 with
  | nil =>
    intro l2 _ _ h
    cases l2 with
    | nil => rfl
    | cons y t => exact absurd ((h y).2 (List.mem_cons_self ..)) (by simp)
  | cons x s ih =>
    intro l2 h1 h2 h
    cases l2 with
    | nil => exact absurd ((h x).1 (List.mem_cons_self ..)) (by simp)
    | cons y t =>
      rw [List.pairwise_cons] at h1 h2
      have hx := (h x).1 (List.mem_cons_self ..)
      have hy := (h y).2 (List.mem_cons_self ..)
      have hxy : x = y := by
        rcases List.mem_cons.1 hx with e | e
        · exact e
        · rcases List.mem_cons.1 hy with e2 | e2
          · exact e2.symm
          · have a := h2.1 x e
            have b := h1.1 y e2
            omega
      subst hxy
      rw [ih h1.2 h2.2 (fun z => ?_)]
      constructor
      · intro hz
        rcases List.mem_cons.1 ((h z).1 (List.mem_cons_of_mem _ hz)) with e | e
        · have := h1.1 z hz; omega
        · exact e
      · intro hz
        rcases List.mem_cons.1 ((h z).2 (List.mem_cons_of_mem _ hz)) with e | e
        · have := h2.1 z hz; omega
        · exact e
theorem compact_up (d : Array Int) (hs : ∀ i j, i < j → j < d.size → d[i]! ≤ d[j]!) : ∀ m, m ≤ d.size → (Lib.compactUpTo d m).Pairwise (· < ·) ∧ ∀ x, x ∈ Lib.compactUpTo d m ↔ ∃ j, j < m ∧ d[j]! = x := by
  intro m
  induction m with
  | zero => intro _; exact ⟨by simp [Lib.compactUpTo], fun x => ⟨fun h => by simp [Lib.compactUpTo] at h, fun ⟨j, h, _⟩ => by omega⟩⟩
  | succ m ih =>
    intro hm
    obtain ⟨h1, h2⟩ := ih (by omega)
    rw [Lib.compactUpTo_succ]
    cases hk : Lib.keeps d m
    · rw [if_neg (by simp), List.append_nil]
      refine ⟨h1, fun x => ?_⟩
      rw [h2]
      constructor
      · rintro ⟨j, hj, e⟩
        exact ⟨j, by omega, e⟩
      · rintro ⟨j, hj, e⟩
        have hk2 : ¬ (m = 0 ∨ d[m]! ≠ d[m - 1]!) := by
          unfold Lib.keeps at hk
          exact of_decide_eq_false hk
        by_cases e2 : j = m
        · subst e2
          refine ⟨j - 1, by omega, ?_⟩
          rw [← e]
          exact (Classical.not_not.1 (fun h => hk2 (.inr h))).symm
        · exact ⟨j, by omega, e⟩
    · rw [if_pos rfl]
      have hk2 : m = 0 ∨ d[m]! ≠ d[m - 1]! := by
        unfold Lib.keeps at hk
        exact of_decide_eq_true hk
      refine ⟨?_, fun x => ?_⟩
      · rw [List.pairwise_append]
        refine ⟨h1, by simp, fun a ha b hb => ?_⟩
        rw [List.mem_singleton] at hb
        subst hb
        obtain ⟨j, hj, rfl⟩ := (h2 a).1 ha
        rcases hk2 with h0 | h0
        · omega
        · have a1 := hs (m - 1) m (by omega) (by omega)
          by_cases e : j = m - 1
          · subst e; omega
          · have a2 := hs j (m - 1) (by omega) (by omega)
            omega
      · rw [List.mem_append, h2, List.mem_singleton]
        constructor
        · rintro (⟨j, hj, e⟩ | e)
          · exact ⟨j, by omega, e⟩
          · exact ⟨m, by omega, e.symm⟩
        · rintro ⟨j, hj, e⟩
          by_cases e2 : j = m
          · subst e2; exact .inr e.symm
          · exact .inl ⟨j, by omega, e⟩
theorem plL_mem (cs : List Int) (v : Int) : ∀ x, v ∈ plL cs x ↔ 0 ≤ v ∧ v < (x : Int) ∧ ∃ i, i < cs.length ∧ cs.getD i 0 = v := by
  intro x
  induction x with
  | zero => unfold plL; exact ⟨fun h => by simp at h, fun h => by omega⟩
  | succ x ih =>
    unfold plL
    rw [List.mem_append, ih]
    by_cases h : usedB cs (x : Int) cs.length = true
    · rw [if_pos h, List.mem_singleton]
      have h2 := (usedB_iff _).1 h
      constructor
      · rintro (⟨a, b, c⟩ | e)
        · exact ⟨a, by omega, c⟩
        · subst e; exact ⟨by omega, by omega, h2⟩
      · rintro ⟨a, b, c⟩
        by_cases e : v = (x : Int)
        · exact .inr e
        · exact .inl ⟨a, by omega, c⟩
    · rw [if_neg h]
      have h2 : ¬ ∃ i, i < cs.length ∧ cs.getD i 0 = (x : Int) := fun h3 => h ((usedB_iff _).2 h3)
      constructor
      · rintro (⟨a, b, c⟩ | e)
        · exact ⟨a, by omega, c⟩
        · simp at e
      · rintro ⟨a, b, c⟩
        by_cases e : v = (x : Int)
        · subst e; exact absurd c h2
        · exact .inl ⟨a, by omega, c⟩
theorem plL_up (cs : List Int) : ∀ x, (plL cs x).Pairwise (· < ·) := by
  intro x
  induction x with
  | zero => exact .nil
  | succ x ih =>
    unfold plL
    by_cases h : usedB cs (x : Int) cs.length = true
    · rw [if_pos h, List.pairwise_append]
      refine ⟨ih, by simp, fun a ha b hb => ?_⟩
      rw [List.mem_singleton] at hb
      subst hb
      exact ((plL_mem cs a x).1 ha).2.1
    · rw [if_neg h, List.append_nil]; exact ih
theorem colB_yes' {d f : Int} {ss : List ByteArray} {cs : List Int} {k : Nat} (h : colB d f ss cs k = true) : colsB cs = true := by
  unfold colB at h
  simp only [Bool.and_eq_true] at h
  exact h.1
def srt (cs : List Int) : List Int := cs.mergeSort fun x y => decide (x ≤ y)
theorem plates_eq {cs : List Int} (h : colsB cs = true) : Lib.compact (srt cs) = plL cs 8 := by
  have hp : (srt cs).Pairwise (fun a b => decide (a ≤ b) = true) := List.pairwise_mergeSort (fun a b c h1 h2 => by simp only [decide_eq_true_eq] at *; omega) (fun a b => by simp only [Bool.or_eq_true, decide_eq_true_eq]; omega) cs
  have hs : ∀ i j, i < j → j < (srt cs).toArray.size → (srt cs).toArray[i]! ≤ (srt cs).toArray[j]! := by
    intro i j hij hj
    have hj' : j < (srt cs).length := by simpa using hj
    have := List.pairwise_iff_getElem.1 hp i j (by omega) hj' hij
    rw [decide_eq_true_eq] at this
    simpa [hj', show i < (srt cs).length by omega] using this
  obtain ⟨h1, h2⟩ := compact_up (srt cs).toArray hs (srt cs).length (by simp)
  refine sorted_ext h1 (plL_up cs 8) fun x => ?_
  unfold Lib.compact at *
  rw [h2, plL_mem]
  constructor
  · rintro ⟨j, hj, e⟩
    have hm : x ∈ srt cs := by
      rw [← e]
      simp [hj]
    unfold srt at hm
    rw [List.mem_mergeSort] at hm
    obtain ⟨i, hi, hi2⟩ := List.getElem_of_mem hm
    have h3 := colsB_at h hi
    rw [getD_at _ _ hi, hi2] at h3
    exact ⟨by omega, by omega, i, hi, by rw [getD_at _ _ hi, hi2]⟩
  · rintro ⟨_, _, i, hi, e⟩
    have hm : x ∈ srt cs := by
      unfold srt
      rw [List.mem_mergeSort, ← e, getD_at _ _ hi]
      exact List.getElem_mem hi
    obtain ⟨j, hj, hj2⟩ := List.getElem_of_mem hm
    exact ⟨j, hj, by simp [hj, hj2]⟩
theorem srt_len (cs : List Int) : (srt cs).length = cs.length := List.length_mergeSort cs
open Go.Sort in
/-- From what the three contracts leave: the block is the call's own, its cells hold the sorted and compacted numbers. -/
theorem plates_left {w w1 : World} {g cap n nn q : Nat} {os : Array Obj} {cs : List Int} (hown : w1.ownsRow w.heap.size 3 1 (.slice (some ⟨g, 0, none⟩) n cap) n (cs.map (Value.int .i64))) (hbel : Below w.heap.size w w1) (hbg : w.heap.size ≤ g) (hlen : cs.length = n) :
    Own1 (putRow (Value.int .i64) (Sort.ahead (grow (putRow (Value.int .i64) (Sort.ahead w1 nn) g 0 (srt cs).toArray) os) q) g 0 (Lib.compact (srt cs) ++ List.replicate (n - (Lib.compact (srt cs)).length) 0).toArray) w.heap.size 3 g (Lib.compact (srt cs)).length cap ((Lib.compact (srt cs)).map (Value.int .i64)) ∧
      Below w.heap.size w (putRow (Value.int .i64) (Sort.ahead (grow (putRow (Value.int .i64) (Sort.ahead w1 nn) g 0 (srt cs).toArray) os) q) g 0 (Lib.compact (srt cs) ++ List.replicate (n - (Lib.compact (srt cs)).length) 0).toArray) := by
  have hl2 := srt_len cs
  have hle := Lib.compact_length_le (srt cs)
  subst hlen
  rcases hown.2 with ⟨h0, _⟩ | ⟨g', cap', cur, hv, hbase, hb, h1, h2, h3, h4⟩
  · cases h0
  cases hv
  have hs := ownsRow_sortedI (n := nn) (os := os) (ts := srt cs) hl2 hbase hb h1 h2 h3
  have hc := Lib.ownsRow_putRow (q := q) (k := (Lib.compact (srt cs)).length) (ys := Lib.compact (srt cs) ++ List.replicate (cs.length - (Lib.compact (srt cs)).length) 0) hs (by simp; omega) (by omega)
  rw [List.take_left] at hc
  exact ⟨hc, Lib.below_putRow (hbel.grown (grownBy_sortedI _) hbel.size (fun j hj => by cases hj; exact hbase)) hbg⟩
open Go.Sort in
theorem plates_left' {w w1 w3 w4 : World} {g cap n nn q : Nat} {os : Array Obj} {cs : List Int} (hown : w1.ownsRow w.heap.size 3 1 (.slice (some ⟨g, 0, none⟩) n cap) n (cs.map (Value.int .i64))) (hbel : Below w.heap.size w w1) (hbg : w.heap.size ≤ g) (hlen : cs.length = n)
    (h3 : w3 = grow (putRow (Value.int .i64) (Sort.ahead w1 nn) g 0 (srt cs).toArray) os) (h4 : w4 = putRow (Value.int .i64) (Sort.ahead w3 q) g 0 (Lib.compact (srt cs) ++ List.replicate (n - (Lib.compact (srt cs)).length) 0).toArray) :
    Own1 w4 w.heap.size 3 g (Lib.compact (srt cs)).length cap ((Lib.compact (srt cs)).map (Value.int .i64)) ∧ Below w.heap.size w w4 := by
  subst h3
  subst h4
  exact plates_left hown hbel hbg hlen
open Go.Sort in
set_option maxHeartbeats 2000000 in
theorem iPlatesOf_any (d f : Int) (a : Option Addr) (n c : Nat) (ss : List ByteArray) (F : Nat → Nat) (k : Nat) (e : Option Addr) (m cb : Nat) (cs : List Int) (w : World) (hF : FcO d f n ss F k) (hl : ss.length = n) (hm : (n : Int) + tot ss n ≤ 1048576) (hR : SlR w a n (sc ss)) (hcl : cs.length = m) (hcm : m ≤ 1048576) (hB : SlR w e m (ic cs)) :
    Calls Try.prog 17 #[.agg #[.int .i64 d, .int .i64 f, .slice a n c], .slice e m cb] w (GetL (platesR d f ss cs k) w) := by
  have HB0 := Lib.hid (Below.box w (.cells #[.int .i64 d, .int .i64 f, .slice a n c] 26 (0, 0)))
  have HR := Lib.hid (hR.below HB0.out)
  have HBC := Lib.hid (hB.below HB0.out)
  have HF := Lib.hid hF
  have HL := Lib.hid hl
  have HCL := Lib.hid hcl
  clear hR hF hl hB hcl
  go_enter Try.func17, Try.ntmps17
  cases ho : colB d f ss cs k
  · have HV : Hid (platesR d f ss cs k = []) := Lib.hid (by unfold platesR; rw [ho]; rfl)
    have HO := Lib.hid ho
    clear ho
    go_wp2_with (go_at_call 15; refine (iColorsOk_any d f _ n _ ss F k _ m _ cs _ HF.out HL.out hm HR.out HCL.out hcm HBC.out).mono ?_; rw [HO.out]; rintro e w1 ⟨rfl, hb1⟩; have HB1 := Lib.hid (HB0.out.trans (hb1.mono HB0.out.size)); clear hb1)
    go_ret
    exact GetL.nil HV.out HB1.out _ _
  · have HV : Hid (platesR d f ss cs k = plL cs 8) := Lib.hid (by unfold platesR; rw [if_pos ho])
    have HCB : Hid (colsB cs = true) := Lib.hid (colB_yes' ho)
    have HO := Lib.hid ho
    clear ho
    by_cases h0 : m = 0
    · subst h0
      have hcs : cs = [] := List.length_eq_zero_iff.1 HCL.out
      have HV0 : Hid (platesR d f ss cs k = []) := Lib.hid (by rw [HV.out, hcs]; rfl)
      clear hcs
      cases e with
      | none =>
        go_wp2_with (first | (go_at_call 15; refine (iColorsOk_any d f _ n _ ss F k _ 0 _ cs _ HF.out HL.out hm HR.out HCL.out hcm HBC.out).mono ?_; rw [HO.out]; rintro e w1 ⟨rfl, hb1⟩; have HB1 := Lib.hid (HB0.out.trans (hb1.mono HB0.out.size)); clear hb1) | (go_at_call 50; refine (sh_slices_Clone_int_nil 0 _ _).mono ?_; rintro e w2 ⟨rfl, rfl⟩) | (go_at_call 51; refine (sh_slices_Sort_int_none _ _ _).mono ?_; rintro e w2 ⟨rfl, rfl⟩) | (go_at_call 52; refine (sh_slices_Compact_int_empty _ _ _).mono ?_; rintro e w2 ⟨rfl, rfl⟩))
        go_ret
        exact GetL.nil HV0.out HB1.out _ _
      | some a0 =>
        go_wp2_with (first | (go_at_call 15; refine (iColorsOk_any d f _ n _ ss F k _ 0 _ cs _ HF.out HL.out hm HR.out HCL.out hcm HBC.out).mono ?_; rw [HO.out]; rintro e w1 ⟨rfl, hb1⟩; have HB1 := Lib.hid (HB0.out.trans (hb1.mono HB0.out.size)); clear hb1) | (go_at_call 50; refine (sh_slices_Clone_int_zero _ _ _).mono ?_; rintro e w2 ⟨v2, rfl, hown, hnn, hb2⟩; obtain ⟨g, cap, rfl, _⟩ := Lib.holds_of_ownsRow (enc := Value.int .i64) (zs := []) hown hnn; have HB2 := Lib.hid (HB1.out.trans (hb2.mono HB1.out.size)); clear hown hnn hb2) | (go_at_call 51; refine (sh_slices_Sort_int_none _ _ _).mono ?_; rintro e w3 ⟨rfl, rfl⟩) | (go_at_call 52; refine (sh_slices_Compact_int_empty _ _ _).mono ?_; rintro e w3 ⟨rfl, rfl⟩))
        go_ret
        exact GetL.nil HV0.out HB2.out _ _
    · obtain ⟨gb, rfl, hrow⟩ := HBC.out.row (by omega)
      have HROW := Lib.hid hrow
      have HTK : Hid (cs.take m = cs) := Lib.hid (by rw [← HCL.out]; exact List.take_length)
      clear hrow h0
      go_wp2_with (go_at_call 15; refine (iColorsOk_any d f _ n _ ss F k _ m _ cs _ HF.out HL.out hm HR.out HCL.out hcm HBC.out).mono ?_; rw [HO.out]; rintro e w1 ⟨rfl, hb1⟩; have HROW1 := Lib.hid (HROW.out.below hb1 HROW.out.lt); have HB1 := Lib.hid (HB0.out.trans (hb1.mono HB0.out.size)); clear hb1)
      have hclone := sh_slices_Clone_int gb 0 m cb cs w1 (by rw [HCL.out]; exact Nat.le_refl _) (by omega) (fun j hj => by rw [Nat.zero_add]; exact HROW1.out.cell (by rw [← HCL.out]; exact hj))
      rw [HTK.out] at hclone
      have HCLN := Lib.hid hclone
      clear hclone
      go_wp2_with (go_at_call 50; refine HCLN.out.mono ?_; rintro e w2 ⟨v2, rfl, hown, hnn, hb2⟩; obtain ⟨g, cap, rfl, hbg, hgl, hncap, hcap, hlen, hH⟩ := Lib.holds_of_ownsRow (enc := Value.int .i64) hown hnn; have HOW := Lib.hid hown; have HB2 := Lib.hid hb2; have HH := Lib.hid hH; clear hown hnn hb2 hH HCLN)
      have hsort := sh_slices_Sort_int g 0 cap cs w2 HH.out hgl (by rw [hlen]; omega)
      rw [hlen] at hsort
      have HSRT := Lib.hid hsort
      clear hsort
      go_wp2_with (go_at_call 51; refine HSRT.out.mono ?_; rintro e w3 ⟨rfl, nn, os, hw3⟩; have HW3 := Lib.hid hw3; clear hw3 HSRT)
      have hl2 : (srt cs).length = m := by rw [srt_len]; exact HCL.out
      have hH2 : Holds (Value.int .i64) w3 g 0 (srt cs).toArray := by
        rw [HW3.out]
        exact holds_grow (Value.int .i64) _ os g 0 _ (by simpa [putRow, mapBlock, Sort.ahead] using hgl) (holds_putRow (Value.int .i64) _ g 0 _ _ (holds_ahead (Value.int .i64) w2 nn g 0 _ HH.out) (by simp))
      have hcomp := sh_slices_Compact_int g 0 cap (srt cs) w3 hH2 (by omega) (by omega)
      rw [hl2] at hcomp
      have HCMP := Lib.hid hcomp
      clear hcomp hH2
      go_wp2_with (go_at_call 52; refine HCMP.out.mono ?_; rintro e w4 ⟨rfl, q, hw4⟩; have HW4 := Lib.hid hw4; clear hw4 HCMP)
      go_ret
      have hleft := plates_left' HOW.out HB2.out hbg HCL.out HW3.out HW4.out
      rw [plates_eq HCB.out] at hleft
      unfold GetL
      rw [HV.out, ← plates_eq HCB.out]
      refine ⟨some ⟨g, 0, none⟩, cap, rfl, ?_, Fresh.of ?_, HB1.out.trans (hleft.2.mono HB1.out.size)⟩
      · rw [plates_eq HCB.out]; exact hleft.1.sl
      · exact Nat.le_trans HB1.out.size hbg
end Go.Proofs.Yteojoifhmaoiaaa
