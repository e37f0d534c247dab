/-
  slices.SortFunc at a list of pairs that the call has built: the same pairs, sorted.
  By an AI agent.
-/
import Derived.Test.YteojoifhmaoiaaaSort2
import Derived.Test.YteojoifhmaoiaaaShelfS
import Derived.Lib.OwnBridge
namespace Go.Proofs.Yteojoifhmaoiaaa
open Go.ChangeShapes Go.WideShapes Go.ChangeAt Go.RowKit Go.Sort
set_option maxRecDepth 100000
set_option linter.unusedVariables false

theorem cmp2_lt {x0 x1 y0 y1 : Int} : cmp2 x0 x1 y0 y1 < 0 ↔ (x0 < y0 ∨ (x0 = y0 ∧ x1 < y1)) := by
  unfold cmp2 cmpI
  by_cases h : x0 = y0
  · rw [if_pos h]
    by_cases h1 : x1 < y1
    · rw [if_pos h1]; omega
    · rw [if_neg h1]
      by_cases h2 : y1 < x1
      · rw [if_pos h2]; omega
      · rw [if_neg h2]; omega
  · rw [if_neg h]
    by_cases h1 : x0 < y0
    · rw [if_pos h1]; omega
    · rw [if_neg h1, if_pos (by omega)]; omega
def cfP (r0 r1 : Nat → Int) {n : Nat} (i j : Fin n) : Int := cmp2 (r0 i.val) (r1 i.val) (r0 j.val) (r1 j.val)
theorem swoP (r0 r1 : Nat → Int) (n : Nat) : SWO (ltOf (cfP r0 r1 (n := n))) := by
  refine ⟨fun x => ?_, fun x y z h1 h2 => ?_, fun x y z h1 h2 => ?_⟩
  · unfold ltOf cfP
    exact decide_eq_false (by rw [cmp2_lt]; omega)
  · unfold ltOf cfP at *
    have a := of_decide_eq_true h1
    have b := of_decide_eq_true h2
    rw [cmp2_lt] at a b
    exact decide_eq_true (by rw [cmp2_lt]; omega)
  · unfold ltOf cfP at *
    have a := of_decide_eq_false h1
    have b := of_decide_eq_false h2
    rw [cmp2_lt] at a b
    exact decide_eq_false (by rw [cmp2_lt]; omega)
theorem sortWorld_other {α : Type} [Inhabited α] (enc : α → Value) (w : World) (blk m g : Nat) (dk : Array α) (os : Array Obj) (hg : g < w.heap.size) (hn : g ≠ blk) : (sortWorld enc w blk 0 m dk os).heap[g]? = w.heap[g]? := by
  unfold sortWorld
  rw [heap_grow_old _ _ (by simpa [putRow, mapBlock, Sort.ahead] using hg)]
  have : blk ≠ g := fun e => hn e.symm
  simp [putRow, mapBlock, Sort.ahead, Array.getElem?_modify, this]
theorem sortWorld_onlyB {α : Type} [Inhabited α] (enc : α → Value) (w : World) (blk m : Nat) (dk : Array α) (os : Array Obj) : OnlyB blk w (sortWorld enc w blk 0 m dk os) := by
  refine ⟨rfl, rfl, rfl, ?_, fun k hk hn => sortWorld_other enc w blk m k dk os hk hn⟩
  simp [sortWorld, grow, putRow, mapBlock, Sort.ahead]
theorem extract_all {α : Type} (a : Array α) (n : Nat) (h : a.size = n) : (a.extract 0 n).toList = a.toList := by
  subst h
  simp
/-- What the sort leaves. -/
def SortedP (lo go cp : Nat) (L : Rows) (w : World) (w' : World) : Prop :=
  ∃ (L' : Rows) (A' : Nat → Nat), L'.length = L.length ∧ Bld w' lo go cp L' A' ∧ OnlyB go w w' ∧ (∀ r, r ∈ L' ↔ r ∈ L) ∧
    (∀ i j, i < j → j < L'.length → ∃ x0 x1 y0 y1 : Int, rowN L' i = [x0, x1] ∧ rowN L' j = [y0, y1] ∧ ¬ (y0 < x0 ∨ (y0 = x0 ∧ y1 < x1)))
theorem sortPairs (lo go cp : Nat) (L : Rows) (A : Nat → Nat) (r0 r1 : Nat → Int) (w : World) (h : Bld w lo go cp L A) (hr : ∀ i, i < L.length → rowN L i = [r0 i, r1 i]) (h0 : 0 < L.length) (hn : L.length ≤ 100000) :
    Calls Try.prog 43 #[.slice (some ⟨go, 0, none⟩) L.length cp, .func (.func 44) #[] #[]] w fun e w' => e = .returned (.tuple #[]) ∧ SortedP lo go cp L w w' := by
  obtain ⟨n, hL⟩ : ∃ n, L.length = n + 1 := ⟨L.length - 1, by omega⟩
  let enc : Fin (n + 1) → Value := fun i => crow A L i.val
  let d : Array (Fin (n + 1)) := (List.finRange (n + 1)).toArray
  have hd : d.size = n + 1 := by simp [d]
  have hdl0 : d.toList = List.finRange (n + 1) := by simp [d]
  have hdj : ∀ j (hj : j < n + 1), d[j]! = ⟨j, hj⟩ := fun j hj => by simp [d, hj]
  have hrow : ∀ i, i < L.length → crow A L i = .slice (some ⟨A i, 0, none⟩) 2 2 := fun i hi => by unfold crow lenN; rw [hr i hi]; rfl
  have hgo := h.own.lt
  have eg : ∀ args w, (callFunc 44 args).run Try.prog w = .ok (.enter 44 args) w := enters_of Try.func44 (by kernel_rfl) rfl
  have hH : Holds enc w go 0 d := fun j hj => by
    rw [hd] at hj
    refine ⟨?_, h.own.frozen _⟩
    rw [Nat.zero_add, h.own.row.cell (i := j) (by omega), hdj j hj]
    unfold hdv
    simp [List.getD, show j < L.length by omega, enc]
  have hcmp : CmpLays1 Try.prog 44 #[] enc (cfP r0 r1) go 0 d.size w := fun m os dk hs x y => by
    have hx : x.val < L.length := by rw [hL]; exact x.isLt
    have hy : y.val < L.length := by rw [hL]; exact y.isLt
    have ex : enc x = .slice (some ⟨A x.val, 0, none⟩) 2 2 := hrow _ hx
    have ey : enc y = .slice (some ⟨A y.val, 0, none⟩) 2 2 := hrow _ hy
    have rx := (h.rows _ hx).2
    have ry := (h.rows _ hy).2
    unfold lenN at rx ry
    rw [hr _ hx] at rx
    rw [hr _ hy] at ry
    have bx := (h.rows _ hx).1
    have by' := (h.rows _ hy).1
    rw [ex, ey]
    refine (slCompare_any (A x.val) (A y.val) _ _ _ _ _ (rx.of_heap (sortWorld_other enc w go m _ dk os bx.2.1 bx.2.2.1)) (ry.of_heap (sortWorld_other enc w go m _ dk os by'.2.1 by'.2.2.1))).mono ?_
    rintro e w' ⟨he, hw⟩
    exact ⟨he, 0, #[], by rw [hw, grow_empty]; rfl⟩
  have hs := sh_slices_SortFunc enc (fun x => rfl) (cfP r0 r1) (swoP r0 r1 (n + 1)) 44 #[] go 0 cp d w eg hcmp hH hgo.2 (by omega)
  rw [hd] at hs
  rw [hL]
  refine hs.mono ?_
  rintro e w' ⟨he, d', m, os, hperm, hsort, hw⟩
  clear hs hcmp hH eg
  obtain ⟨hsz, _, hp⟩ := hperm
  rw [hd] at hsz
  have hp2 : d'.toList.Perm d.toList := by
    rw [extract_all d' _ hsz, extract_all d _ hd] at hp
    exact hp
  have hnd : d.toList.Nodup := by rw [hdl0]; exact List.nodup_finRange _
  have hnd' := hp2.nodup_iff.2 hnd
  have hlen' : d'.toList.length = n + 1 := by simpa using hsz
  have hget : ∀ i (hi : i < n + 1), d'[i]! = d'.toList[i]'(by omega) := fun i hi => by simp [hsz, hi]
  have hrw : ∀ i, i < n + 1 → rowN (d'.toList.map (fun i => rowN L i.val)) i = rowN L (d'[i]!).val := fun i hi => by
    rw [hget i hi]
    unfold rowN
    simp [List.getD, hsz, hi]
  have hval : ∀ i, i < n + 1 → (d'[i]!).val < L.length := fun i _ => by rw [hL]; exact (d'[i]!).isLt
  have hinj : ∀ i j, i < j → j < n + 1 → (d'[i]!).val ≠ (d'[j]!).val := fun i j hij hj e => by
    have e2 := Fin.ext e
    rw [hget i (by omega), hget j hj] at e2
    exact (List.pairwise_iff_getElem.1 hnd') i j (by omega) (by omega) hij e2
  have hdl : d.toList.map enc = hdv A L := by
    rw [hdl0]
    apply List.ext_getElem
    · simp [hdv, hL]
    · intro i h1 h2
      simp [hdv, enc]
  have hob := sortWorld_onlyB enc w go m d' os
  have hown : Own1 (sortWorld enc w go 0 m d' os) lo 28 go (n + 1) cp (d'.toList.map enc) := by
    have h1 : w.ownsRow lo 28 1 (.slice (some ⟨go, 0, none⟩) (n + 1) cp) (n + 1) (d.toList.map enc) := by
      rw [hdl, ← hL]; exact h.own
    have h2 := Lib.ownsRow_putRow (q := m) (k := n + 1) (ys := d'.toList) h1 hlen' (Nat.le_refl _)
    rw [List.take_of_length_le (by omega)] at h2
    have h3 : Own1 (putRow enc (Sort.ahead w m) go 0 d') lo 28 go (n + 1) cp (d'.toList.map enc) := h2
    exact h3.heap (heap_grow_old _ _ h3.lt.2)
  refine ⟨he, d'.toList.map (fun i => rowN L i.val), (fun i => A (d'[i]!).val), ?_, ⟨?_, fun i hi => ?_⟩, ?_, fun r => ?_, fun i j hij hj => ?_⟩
  · rw [List.length_map, hlen', hL]
  · rw [hw, List.length_map, hlen']
    have : hdv (fun i => A (d'[i]!).val) (d'.toList.map (fun i => rowN L i.val)) = d'.toList.map enc := by
      apply List.ext_getElem
      · simp [hdv]
      · intro i h1 h2
        have hi : i < n + 1 := by rw [List.length_map] at h2; omega
        have h3 := hrw i hi
        have h4 := hget i hi
        simp only [hdv, List.getElem_map, List.getElem_range, enc]
        unfold crow lenN
        dsimp only
        rw [h3, h4]
    rw [this]
    exact hown
  · rw [List.length_map, hlen'] at hi
    have hv := hval i hi
    obtain ⟨⟨b1, b2, b3, b4⟩, b5⟩ := h.rows _ hv
    refine ⟨⟨b1, by rw [hw]; exact Nat.lt_of_lt_of_le b2 hob.size, b3, fun j hj => ?_⟩, ?_⟩
    · rcases Nat.lt_or_gt_of_ne (hinj j i hj hi) with hlt | hlt
      · exact b4 _ hlt
      · have := (h.rows _ (hval j (by omega))).1.2.2.2 _ hlt
        exact fun e => this e.symm
    · unfold lenN at b5 ⊢
      rw [hrw i hi, hw]
      exact b5.of_heap (sortWorld_other enc w go m _ d' os b2 b3)
  · rw [hw]; exact hob
  · rw [List.mem_map]
    constructor
    · rintro ⟨i, _, rfl⟩
      have hi : i.val < L.length := by rw [hL]; exact i.isLt
      unfold rowN
      rw [getD_at _ _ hi]
      exact List.getElem_mem hi
    · intro hmem
      obtain ⟨i, hi, rfl⟩ := List.getElem_of_mem hmem
      refine ⟨⟨i, by omega⟩, hp2.mem_iff.2 (by rw [hdl0]; exact List.mem_finRange _), ?_⟩
      unfold rowN
      rw [getD_at _ _ hi]
  · rw [List.length_map, hlen'] at hj
    have h1 := hsort i j (Nat.zero_le _) hij hj
    have h2 := of_decide_eq_false h1
    unfold cfP at h2
    rw [cmp2_lt] at h2
    exact ⟨_, _, _, _, by rw [hrw i (by omega), hr _ (hval i (by omega))], by rw [hrw j hj, hr _ (hval j hj)], h2⟩
end Go.Proofs.Yteojoifhmaoiaaa
