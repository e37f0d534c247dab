/-
  Contracts of HeaviestKind in the program and in the reference.
  By an AI agent.
-/
import Derived.Test.YtoflcjgimkbgpaaPaperT
import Derived.WalkSmall
namespace Go.Proofs.Ytoflcjgimkbgpaa
open Go.ChangeShapes Go.WideShapes Go.ChangeAt Go.RowKit Go.Joins Go.Deep
set_option maxRecDepth 100000
set_option linter.unusedVariables false

/-- The place of the heaviest paper that is left, among the first k. -/
def hv (ps : List DPaper) : Nat → Option Nat
  | 0 => none
  | k + 1 => match hv ps k with
    | none => if 0 < (ps.getD k default).s then some k else none
    | some b => if 0 < (ps.getD k default).s ∧ (ps.getD b default).g < (ps.getD k default).g then some k else some b
def hvI : Option Nat → Int
  | none => -1
  | some b => b
def hvK (ps : List DPaper) : Option Nat → Int
  | none => -1
  | some b => (ps.getD b default).k
def hvG (ps : List DPaper) : Option Nat → Int
  | none => 0
  | some b => (ps.getD b default).g
theorem hv_lt {ps : List DPaper} {k b : Nat} (h : hv ps k = some b) : b < k := by
  induction k generalizing b with
  | zero => simp [hv] at h
  | succ k ih =>
    unfold hv at h
    split at h
    · split at h
      · simp at h; omega
      · simp at h
    · rename_i b' hb
      have := ih hb
      split at h
      · simp at h; omega
      · simp at h; omega
theorem hv_none_no {ps : List DPaper} {k : Nat} (h : hv ps k = none) (hs : ¬ 0 < (ps.getD k default).s) : hv ps (k + 1) = none := by simp only [hv, h, if_neg hs]
theorem hv_none_yes {ps : List DPaper} {k : Nat} (h : hv ps k = none) (hs : 0 < (ps.getD k default).s) : hv ps (k + 1) = some k := by simp only [hv, h, if_pos hs]
theorem hv_some_no {ps : List DPaper} {k b : Nat} (h : hv ps k = some b) (hs : ¬ (0 < (ps.getD k default).s ∧ (ps.getD b default).g < (ps.getD k default).g)) : hv ps (k + 1) = some b := by simp only [hv, h, if_neg hs]
theorem hv_some_yes {ps : List DPaper} {k b : Nat} (h : hv ps k = some b) (hs : 0 < (ps.getD k default).s) (hg : (ps.getD b default).g < (ps.getD k default).g) : hv ps (k + 1) = some k := by simp only [hv, h, if_pos (And.intro hs hg)]
def heavyOf (ps : List DPaper) : Int := if okAll ps = true then hvK ps (hv ps ps.length) else -1

theorem sHeaviestKind_no (g n c : Nat) (ps : List DPaper) (w : World) (hl : ps.length = n) (hm : n ≤ 1048576) (hR : Row w g (n * 3) (pc ps)) (ho : okAll ps = false) :
    Calls Try.prog 51 #[.slice (some ⟨g, 0, none⟩) n c] w fun e w' => e = .returned (.int .i64 (-1)) ∧ Below w.heap.size w w' := by
  have HR := Lib.hid hR
  have HL := Lib.hid hl
  have HO := Lib.hid ho
  clear hR hl ho
  go_enter Try.func51, Try.ntmps51
  go_wp2
  refine wp_loop_rounds 1 ?_
  rw [rounds_succ]
  by_cases hn : 0 < n
  · go_wp2_with (go_at_call 71; refine (l23Ok_any _ _ _ _ _ HL.out hm HR.out).mono ?_; rw [HO.out]; rintro e w2 ⟨rfl, hb2⟩)
    go_ret
    exact ⟨rfl, hb2⟩
  · have h0 : n = 0 := by omega
    subst h0
    go_wp2
    go_ret
    exact ⟨rfl, Below.refl _ _⟩

set_option maxHeartbeats 1000000 in
theorem sHeaviestKind_yes (g n c : Nat) (ps : List DPaper) (w : World) (hl : ps.length = n) (hm : n ≤ 1048576) (hR : Row w g (n * 3) (pc ps)) (ho : okAll ps = true) :
    Calls Try.prog 51 #[.slice (some ⟨g, 0, none⟩) n c] w fun e w' => e = .returned (.int .i64 (hvK ps (hv ps n))) ∧ Below w.heap.size w w' := by
  have HR := Lib.hid hR
  have HL := Lib.hid hl
  have HO := Lib.hid ho
  clear hR hl ho
  go_enter Try.func51, Try.ntmps51
  go_wp2
  go_loopw [3, 4] (fun s i wr => ∃ k : Nat, k ≤ n ∧ i = .int .i64 k ∧ s = .int .i64 (hvI (hv ps k)) ∧ Below w.heap.size w wr) (fun _ i _ => n - (intOf i).toNat)
  case atStart => exact ⟨0, Nat.zero_le _, rfl, rfl, Below.refl _ _⟩
  case round =>
    obtain ⟨k, hk, rfl, rfl, hB⟩ := hrel
    have HB := Lib.hid hB
    clear hB
    by_cases hlt : k < n
    · have HR2 := Lib.hid (HR.out.below HB.out HR.out.lt)
      obtain ⟨c0, c1, c2⟩ := HR2.out.paper hlt
      have i0 : (0 : Int) ≤ (k : Int) := Int.natCast_nonneg _
      have i1 : (k : Int) < (n : Int) := by omega
      cases hb : hv ps k with
      | none =>
        simp only [hvI]
        by_cases hs : 0 < (ps.getD k default).s
        · have HY := Lib.hid (hv_none_yes hb hs)
          have hs' : decide (0 < (ps.getD k default).s) = true := by simpa using hs
          clear hs hb
          generalize ps.getD k default = q at c0 c1 c2 hs'
          obtain ⟨qk, qg, qs⟩ := q
          simp only at c0 c1 c2 hs'
          go_wp2_with (go_at_call 71; refine (l23Ok_any _ _ _ _ _ HL.out hm HR2.out).mono ?_; rw [HO.out]; rintro e w2 ⟨rfl, hb2⟩; have d0 := (hb2.cell (p := ⟨g, k * 3, none⟩) HR2.out.lt).trans c0; have d1 := (hb2.cell (p := ⟨g, k * 3 + 1, none⟩) HR2.out.lt).trans c1; have d2 := (hb2.cell (p := ⟨g, k * 3 + 2, none⟩) HR2.out.lt).trans c2)
          have HX := Lib.hid (HB.out.trans (hb2.mono HB.out.size))
          clear c0 c1 c2 hb2
          go_quiet (fail)
          go_wp2
          go_roundw
          case rel => exact ⟨k + 1, by omega, by go_num, by rw [HY.out] <;> rfl, below_drewN HX.out _⟩
          case measure => simp [intOf]; omega
        · have HY := Lib.hid (hv_none_no hb hs)
          have hs' : decide (0 < (ps.getD k default).s) = false := by simpa using hs
          clear hs hb
          generalize ps.getD k default = q at c0 c1 c2 hs'
          obtain ⟨qk, qg, qs⟩ := q
          simp only at c0 c1 c2 hs'
          go_wp2_with (go_at_call 71; refine (l23Ok_any _ _ _ _ _ HL.out hm HR2.out).mono ?_; rw [HO.out]; rintro e w2 ⟨rfl, hb2⟩; have d0 := (hb2.cell (p := ⟨g, k * 3, none⟩) HR2.out.lt).trans c0; have d1 := (hb2.cell (p := ⟨g, k * 3 + 1, none⟩) HR2.out.lt).trans c1; have d2 := (hb2.cell (p := ⟨g, k * 3 + 2, none⟩) HR2.out.lt).trans c2)
          have HX := Lib.hid (HB.out.trans (hb2.mono HB.out.size))
          clear c0 c1 c2 hb2
          go_quiet (fail)
          go_wp2
          go_roundw
          case rel => exact ⟨k + 1, by omega, by go_num, by rw [HY.out] <;> rfl, below_drewN HX.out _⟩
          case measure => simp [intOf]; omega
      | some b =>
        simp only [hvI]
        have hbk := hv_lt hb
        obtain ⟨_, e1, _⟩ := HR2.out.paper (show b < n by omega)
        have j0 : (0 : Int) ≤ (b : Int) := Int.natCast_nonneg _
        have j1 : (b : Int) < (n : Int) := by omega
        have j2 : decide ((b : Int) < 0) = false := by simp
        by_cases hs : 0 < (ps.getD k default).s
        · by_cases hg : (ps.getD b default).g < (ps.getD k default).g
          · have HY := Lib.hid (hv_some_yes hb hs hg)
            have hs' : decide (0 < (ps.getD k default).s) = true := by simpa using hs
            have hg' : decide ((ps.getD b default).g < (ps.getD k default).g) = true := by simpa using hg
            clear hs hg hb
            generalize ps.getD k default = q at c0 c1 c2 hs' hg'
            generalize ps.getD b default = r at e1 hg'
            obtain ⟨qk, qg, qs⟩ := q
            obtain ⟨rk, rg, rs⟩ := r
            simp only at c0 c1 c2 e1 hs' hg'
            go_wp2_with (go_at_call 71; refine (l23Ok_any _ _ _ _ _ HL.out hm HR2.out).mono ?_; rw [HO.out]; rintro e w2 ⟨rfl, hb2⟩; have d0 := (hb2.cell (p := ⟨g, k * 3, none⟩) HR2.out.lt).trans c0; have d1 := (hb2.cell (p := ⟨g, k * 3 + 1, none⟩) HR2.out.lt).trans c1; have d2 := (hb2.cell (p := ⟨g, k * 3 + 2, none⟩) HR2.out.lt).trans c2; have e2 := (hb2.cell (p := ⟨g, b * 3 + 1, none⟩) HR2.out.lt).trans e1)
            have HX := Lib.hid (HB.out.trans (hb2.mono HB.out.size))
            clear c0 c1 c2 hb2
            go_quiet (fail)
            go_wp2
            go_roundw
            case rel => exact ⟨k + 1, by omega, by go_num, by rw [HY.out] <;> rfl, below_drewN HX.out _⟩
            case measure => simp [intOf]; omega
          · have HY := Lib.hid (hv_some_no hb (fun h => hg h.2))
            have hs' : decide (0 < (ps.getD k default).s) = true := by simpa using hs
            have hg' : decide ((ps.getD b default).g < (ps.getD k default).g) = false := by simpa using hg
            clear hs hg hb
            generalize ps.getD k default = q at c0 c1 c2 hs' hg'
            generalize ps.getD b default = r at e1 hg'
            obtain ⟨qk, qg, qs⟩ := q
            obtain ⟨rk, rg, rs⟩ := r
            simp only at c0 c1 c2 e1 hs' hg'
            go_wp2_with (go_at_call 71; refine (l23Ok_any _ _ _ _ _ HL.out hm HR2.out).mono ?_; rw [HO.out]; rintro e w2 ⟨rfl, hb2⟩; have d0 := (hb2.cell (p := ⟨g, k * 3, none⟩) HR2.out.lt).trans c0; have d1 := (hb2.cell (p := ⟨g, k * 3 + 1, none⟩) HR2.out.lt).trans c1; have d2 := (hb2.cell (p := ⟨g, k * 3 + 2, none⟩) HR2.out.lt).trans c2; have e2 := (hb2.cell (p := ⟨g, b * 3 + 1, none⟩) HR2.out.lt).trans e1)
            have HX := Lib.hid (HB.out.trans (hb2.mono HB.out.size))
            clear c0 c1 c2 hb2
            go_quiet (fail)
            go_wp2
            go_roundw
            case rel => exact ⟨k + 1, by omega, by go_num, by rw [HY.out] <;> rfl, below_drewN HX.out _⟩
            case measure => simp [intOf]; omega
        · have HY := Lib.hid (hv_some_no hb (fun h => hs h.1))
          have hs' : decide (0 < (ps.getD k default).s) = false := by simpa using hs
          clear hs hb
          generalize ps.getD k default = q at c0 c1 c2 hs'
          generalize ps.getD b default = r at e1
          obtain ⟨qk, qg, qs⟩ := q
          obtain ⟨rk, rg, rs⟩ := r
          simp only at c0 c1 c2 e1 hs'
          go_wp2_with (go_at_call 71; refine (l23Ok_any _ _ _ _ _ HL.out hm HR2.out).mono ?_; rw [HO.out]; rintro e w2 ⟨rfl, hb2⟩; have d0 := (hb2.cell (p := ⟨g, k * 3, none⟩) HR2.out.lt).trans c0; have d1 := (hb2.cell (p := ⟨g, k * 3 + 1, none⟩) HR2.out.lt).trans c1; have d2 := (hb2.cell (p := ⟨g, k * 3 + 2, none⟩) HR2.out.lt).trans c2; have e2 := (hb2.cell (p := ⟨g, b * 3 + 1, none⟩) HR2.out.lt).trans e1)
          have HX := Lib.hid (HB.out.trans (hb2.mono HB.out.size))
          clear c0 c1 c2 hb2
          go_quiet (fail)
          go_wp2
          go_roundw
          case rel => exact ⟨k + 1, by omega, by go_num, by rw [HY.out] <;> rfl, below_drewN HX.out _⟩
          case measure => simp [intOf]; omega
    · have hk' : k = n := by omega
      subst hk'
      cases hb : hv ps k with
      | none =>
        simp only [hvI]
        have HV := Lib.hid hb
        clear hb
        go_wp2
        go_ret
        exact ⟨ret_int (by rw [HV.out] <;> rfl), HB.out⟩
      | some b =>
        simp only [hvI]
        have hbk := hv_lt hb
        obtain ⟨e0, _, _⟩ := (HR.out.below HB.out HR.out.lt).paper (show b < k by omega)
        have j0 : (0 : Int) ≤ (b : Int) := Int.natCast_nonneg _
        have j1 : (b : Int) < (k : Int) := by omega
        have j2 : ¬ ((b : Int) < 0) := by omega
        have HV := Lib.hid hb
        clear hb
        go_wp2
        go_ret
        exact ⟨ret_int (by rw [HV.out] <;> rfl), HB.out⟩

theorem hv_yes {ps : List DPaper} {k : Nat} (hs : 0 < (ps.getD k default).s) (hg : hvG ps (hv ps k) < (ps.getD k default).g) : hv ps (k + 1) = some k := by
  cases h : hv ps k with
  | none => exact hv_none_yes h hs
  | some b => rw [h] at hg; exact hv_some_yes h hs hg
theorem hv_no {ps : List DPaper} {k : Nat} (hw : 40 ≤ (ps.getD k default).g) (hn : ¬ (0 < (ps.getD k default).s ∧ hvG ps (hv ps k) < (ps.getD k default).g)) : hv ps (k + 1) = hv ps k := by
  cases h : hv ps k with
  | none =>
    rw [h] at hn
    exact hv_none_no h (fun hs => hn ⟨hs, show (0 : Int) < _ by omega⟩)
  | some b => rw [h] at hn; exact hv_some_no h hn

theorem iHeaviestKind_no (g n c : Nat) (ps : List DPaper) (w : World) (hl : ps.length = n) (hm : n ≤ 1048576) (hR : Row w g (n * 3) (pc ps)) (ho : okAll ps = false) :
    Calls Try.prog 28 #[.slice (some ⟨g, 0, none⟩) n c] w fun e w' => e = .returned (.int .i64 (-1)) ∧ Below w.heap.size w w' := by
  have HR := Lib.hid hR
  have HL := Lib.hid hl
  have HO := Lib.hid ho
  clear hR hl ho
  go_enter Try.func28, Try.ntmps28
  go_wp2_with (go_at_call 63; refine (arePapers_any _ _ _ _ _ HL.out hm HR.out).mono ?_; rw [HO.out]; rintro e w2 ⟨rfl, hb2⟩)
  go_ret
  exact ⟨rfl, hb2⟩

set_option maxHeartbeats 1000000 in
theorem iHeaviestKind_yes (g n c : Nat) (ps : List DPaper) (w : World) (hl : ps.length = n) (hm : n ≤ 1048576) (hR : Row w g (n * 3) (pc ps)) (ho : okAll ps = true) :
    Calls Try.prog 28 #[.slice (some ⟨g, 0, none⟩) n c] w fun e w' => e = .returned (.int .i64 (hvK ps (hv ps n))) ∧ Below w.heap.size w w' := by
  have HR := Lib.hid hR
  have HL := Lib.hid hl
  have HO := Lib.hid ho
  clear hR hl ho
  go_enter Try.func28, Try.ntmps28
  go_wp2_with (go_at_call 63; refine (arePapers_any _ _ _ _ _ HL.out hm HR.out).mono ?_; rw [HO.out]; rintro e w2 ⟨rfl, hb2⟩)
  go_loopw [3, 4, 12] (fun s t i wr => ∃ k : Nat, k ≤ n ∧ i = .int .i64 k ∧ s = .int .i64 (hvK ps (hv ps k)) ∧ t = .int .i64 (hvG ps (hv ps k)) ∧ Below w.heap.size w wr) (fun _ _ i _ => n - (intOf i).toNat)
  case atStart => exact ⟨0, Nat.zero_le _, rfl, rfl, rfl, hb2⟩
  case round =>
    obtain ⟨k, hk, rfl, rfl, rfl, hB⟩ := hrel
    have HB := Lib.hid hB
    clear hB
    by_cases hlt : k < n
    · obtain ⟨c0, c1, c2⟩ := (HR.out.below HB.out HR.out.lt).paper hlt
      have i0 : (0 : Int) ≤ (k : Int) := Int.natCast_nonneg _
      have i1 : (k : Int) < (n : Int) := by omega
      have hp := okAll_at HO.out (k := k) (by rw [HL.out]; exact hlt)
      unfold pOk at hp
      obtain ⟨_, _, p3, _, _, _⟩ := paperOk_iff.1 hp
      clear hp
      by_cases hs : 0 < (ps.getD k default).s
      · by_cases hg : hvG ps (hv ps k) < (ps.getD k default).g
        · have HY := Lib.hid (hv_yes hs hg)
          have H1 : Hid (hvK ps (some k) = (ps.getD k default).k) := Lib.hid rfl
          have H2 : Hid (hvG ps (some k) = (ps.getD k default).g) := Lib.hid rfl
          have hs' : decide (0 < (ps.getD k default).s) = true := by simpa using hs
          have hg' : decide (hvG ps (hv ps k) < (ps.getD k default).g) = true := by simpa using hg
          clear hs hg
          generalize ps.getD k default = q at c0 c1 c2 hs' hg' H1 H2
          obtain ⟨qk, qg, qs⟩ := q
          simp only at c0 c1 c2 hs' hg' H1 H2
          go_wp2
          go_quiet (fail)
          go_wp2
          go_roundw
          case rel => exact ⟨k + 1, by omega, by go_num, by rw [HY.out, H1.out], by rw [HY.out, H2.out], below_drewN (HB.out.alloc HB.out.size _) _⟩
          case measure => simp [intOf]; omega
        · have HY := Lib.hid (hv_no p3 (fun h => hg h.2))
          have hs' : decide (0 < (ps.getD k default).s) = true := by simpa using hs
          have hg' : decide (hvG ps (hv ps k) < (ps.getD k default).g) = false := by simpa using hg
          clear hs hg
          generalize ps.getD k default = q at c0 c1 c2 hs' hg'
          obtain ⟨qk, qg, qs⟩ := q
          simp only at c0 c1 c2 hs' hg'
          go_wp2
          go_roundw
          case rel => exact ⟨k + 1, by omega, by go_num, by rw [HY.out] <;> rfl, by rw [HY.out] <;> rfl, HB.out.alloc HB.out.size _⟩
          case measure => simp [intOf]; omega
      · have HY := Lib.hid (hv_no p3 (fun h => hs h.1))
        have hs' : decide (0 < (ps.getD k default).s) = false := by simpa using hs
        clear hs
        generalize ps.getD k default = q at c0 c1 c2 hs'
        obtain ⟨qk, qg, qs⟩ := q
        simp only at c0 c1 c2 hs'
        go_wp2
        go_roundw
        case rel => exact ⟨k + 1, by omega, by go_num, by rw [HY.out] <;> rfl, by rw [HY.out] <;> rfl, HB.out.alloc HB.out.size _⟩
        case measure => simp [intOf]; omega
    · have hk' : k = n := by omega
      subst hk'
      go_wp2
      go_ret
      exact ⟨rfl, HB.out⟩
theorem iHeaviestKind_any (g n c : Nat) (ps : List DPaper) (w : World) (hl : ps.length = n) (hm : n ≤ 1048576) (hR : Row w g (n * 3) (pc ps)) :
    Calls Try.prog 28 #[.slice (some ⟨g, 0, none⟩) n c] w fun e w' => e = .returned (.int .i64 (heavyOf ps)) ∧ Below w.heap.size w w' := by
  unfold heavyOf
  cases ho : okAll ps
  · exact iHeaviestKind_no g n c ps w hl hm hR ho
  · rw [if_pos rfl, hl]; exact iHeaviestKind_yes g n c ps w hl hm hR ho
theorem sHeaviestKind_any (g n c : Nat) (ps : List DPaper) (w : World) (hl : ps.length = n) (hm : n ≤ 1048576) (hR : Row w g (n * 3) (pc ps)) :
    Calls Try.prog 51 #[.slice (some ⟨g, 0, none⟩) n c] w fun e w' => e = .returned (.int .i64 (heavyOf ps)) ∧ Below w.heap.size w w' := by
  unfold heavyOf
  cases ho : okAll ps
  · exact sHeaviestKind_no g n c ps w hl hm hR ho
  · rw [if_pos rfl, hl]; exact sHeaviestKind_yes g n c ps w hl hm hR ho
end Go.Proofs.Ytoflcjgimkbgpaa
