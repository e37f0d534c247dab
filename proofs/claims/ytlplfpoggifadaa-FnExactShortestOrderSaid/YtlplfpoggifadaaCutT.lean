/-
  Contracts of what the program and the reference do with a slice of cuts: whether all are valid, and their length in all.
  By an AI agent.
-/
import Derived.Test.YtlplfpoggifadaaCutS
import Derived.Deep.QuietTactic
import Derived.BigQuiet
import Derived.WalkSmall
import Derived.Deep.RegionHeld3
namespace Go.Proofs.Ytlplfpoggifadaa
open Go.ChangeShapes Go.WideShapes Go.ChangeAt Go.RowKit Go.Joins Go.Deep
set_option maxRecDepth 100000
set_option linter.unusedVariables false

def cOk (p : DCut) : Bool := decide (0 ≤ p.k ∧ p.k ≤ 100 ∧ 0 ≤ p.g ∧ p.g < p.s ∧ p.s ≤ 100)
theorem cOk_iff {p : DCut} : cOk p = true ↔ 0 ≤ p.k ∧ p.k ≤ 100 ∧ 0 ≤ p.g ∧ p.g < p.s ∧ p.s ≤ 100 := by unfold cOk; simp
def cAll (ps : List DCut) : Bool := ps.all cOk
theorem Row.cut {w : World} {g n k : Nat} {ps : List DCut} (h : Row w g (n * 3) (cc ps)) (hk : k < n) :
    w.cell? ⟨g, k * 3, none⟩ = some (.int .i64 (ps.getD k default).k) ∧ w.cell? ⟨g, k * 3 + 1, none⟩ = some (.int .i64 (ps.getD k default).g) ∧ w.cell? ⟨g, k * 3 + 2, none⟩ = some (.int .i64 (ps.getD k default).s) :=
  ⟨cc0 ps k ▸ h.cell (by omega), cc1 ps k ▸ h.cell (by omega), cc2 ps k ▸ h.cell (by omega)⟩
theorem cAll_at {ps : List DCut} (h : cAll ps = true) {k : Nat} (hk : k < ps.length) : cOk (ps.getD k default) = true := by
  unfold cAll at h
  rw [List.all_eq_true] at h
  exact h _ (by rw [getD_at _ _ hk]; exact List.getElem_mem hk)
theorem cAll_of {ps : List DCut} (h : ∀ k, k < ps.length → cOk (ps.getD k default) = true) : cAll ps = true := by
  unfold cAll
  rw [List.all_eq_true]
  intro p hp
  obtain ⟨k, hk, rfl⟩ := List.getElem_of_mem hp
  rw [← getD_at _ default hk]
  exact h k hk
theorem cAll_not {ps : List DCut} {k : Nat} (hk : k < ps.length) (h : cOk (ps.getD k default) = false) : cAll ps = false := by
  cases e : cAll ps
  · rfl
  · rw [cAll_at e hk] at h; exact absurd h (by simp)
theorem cOk_bad {p : DCut} (h : cOk p = false) : (p.k < 0 ∨ 100 < p.k) ∨ ((0 ≤ p.k ∧ p.k ≤ 100) ∧ p.g < 0) ∨ ((0 ≤ p.k ∧ p.k ≤ 100) ∧ 0 ≤ p.g ∧ 100 < p.g ∧ p.g < p.s) ∨ ((0 ≤ p.k ∧ p.k ≤ 100) ∧ 0 ≤ p.g ∧ 100 < p.g ∧ p.s ≤ p.g) ∨
    ((0 ≤ p.k ∧ p.k ≤ 100) ∧ 0 ≤ p.g ∧ p.g ≤ 100 ∧ p.s < 0) ∨ ((0 ≤ p.k ∧ p.k ≤ 100) ∧ 0 ≤ p.g ∧ p.g ≤ 100 ∧ 100 < p.s) ∨ ((0 ≤ p.k ∧ p.k ≤ 100) ∧ 0 ≤ p.g ∧ p.g ≤ 100 ∧ 0 ≤ p.s ∧ p.s ≤ 100 ∧ p.s ≤ p.g) := by
  have : ¬ cOk p = true := by rw [h]; simp
  rw [cOk_iff] at this
  omega

set_option maxHeartbeats 1000000 in
theorem l20Ok_any (g n c : Nat) (ps : List DCut) (w : World) (hl : ps.length = n) (hm : n ≤ 1048576) (hR : Row w g (n * 3) (cc ps)) :
    Calls Try.prog 45 #[.slice (some ⟨g, 0, none⟩) n c] w fun e w' => e = .returned (.bool (cAll ps)) ∧ Below w.heap.size w w' := by
  have HR := Lib.hid hR
  have HL := Lib.hid hl
  clear hR hl
  go_enter Try.func45, Try.ntmps45
  go_wp2
  go_loopw [3] (fun i wr => ∃ k : Nat, k ≤ n ∧ i = .int .i64 k ∧ (∀ j, j < k → cOk (ps.getD j default) = true) ∧ Below w.heap.size w wr) (fun i _ => n - (intOf i).toNat)
  case atStart => exact ⟨0, Nat.zero_le _, rfl, fun j h => absurd h (Nat.not_lt_zero j), Below.refl _ _⟩
  case round =>
    obtain ⟨k, hk, rfl, hok, hB⟩ := hrel
    have HO := Lib.hid hok
    have HB := Lib.hid hB
    clear hok hB
    by_cases hlt : k < n
    · obtain ⟨c0, c1, c2⟩ := (HR.out.below HB.out HR.out.lt).cut hlt
      by_cases hp : cOk (ps.getD k default) = true
      · have X : Hid (∀ j, j < k + 1 → cOk (ps.getD j default) = true) := Lib.hid (by
          intro j hj
          by_cases e : j = k
          · rw [e]; exact hp
          · exact HO.out j (by omega))
        clear HO
        generalize ps.getD k default = q at c0 c1 c2 hp
        obtain ⟨qk, qg, qs⟩ := q
        obtain ⟨p1, p2, p3, p4, p5⟩ := cOk_iff.1 hp
        clear hp
        simp only at c0 c1 c2 p1 p2 p3 p4 p5
        go_wp2_with (go_at_call 61; (first | refine (l01In_t _ _ _ _ (by omega) (by omega)).mono ?_ | refine (l01In_f _ _ _ _ (by omega)).mono ?_); rintro e w' ⟨rfl, rfl⟩)
        go_roundw
        case rel => exact ⟨k + 1, by omega, by go_num, X.out, HB.out.alloc HB.out.size _⟩
        case measure => simp [intOf]; omega
      · have hp' : cOk (ps.getD k default) = false := by simpa using hp
        have HA := Lib.hid (cAll_not (by rw [HL.out]; exact hlt) hp')
        clear HO hp
        generalize ps.getD k default = q at c0 c1 c2 hp'
        obtain ⟨qk, qg, qs⟩ := q
        have hp := cOk_bad hp'
        clear hp'
        simp only at c0 c1 c2 hp
        rcases hp with hp | ⟨⟨h1, h2⟩, hp⟩ | ⟨⟨h1, h2⟩, h3, h4, hp⟩ | ⟨⟨h1, h2⟩, h3, h4, hp⟩ | ⟨⟨h1, h2⟩, h3, h4, hp⟩ | ⟨⟨h1, h2⟩, h3, h4, hp⟩ | ⟨⟨h1, h2⟩, h3, h4, h5, h6, hp⟩
        all_goals go_wp2_with (go_at_call 61; (first | refine (l01In_t _ _ _ _ (by omega) (by omega)).mono ?_ | refine (l01In_f _ _ _ _ (by omega)).mono ?_); rintro e w' ⟨rfl, rfl⟩)
        all_goals go_ret
        all_goals exact ⟨ret_bool HA.out.symm, HB.out.alloc HB.out.size _⟩
    · have HA := Lib.hid (cAll_of (ps := ps) (fun j hj => HO.out j (by rw [HL.out] at hj; omega)))
      clear HO
      go_wp2
      go_ret
      exact ⟨ret_bool HA.out.symm, HB.out⟩

set_option maxHeartbeats 1000000 in
theorem areCuts_any (g n c : Nat) (most : Int) (ps : List DCut) (w : World) (hl : ps.length = n) (hm : n ≤ 1048576) (hR : Row w g (n * 3) (cc ps)) :
    Calls Try.prog 48 #[.slice (some ⟨g, 0, none⟩) n c, .int .i64 most] w fun e w' => e = .returned (.bool (cAll ps && decide ((n : Int) ≤ most))) ∧ Below w.heap.size w w' := by
  have HR := Lib.hid hR
  have HL := Lib.hid hl
  clear hR hl
  go_enter Try.func48, Try.ntmps48
  go_wp2
  go_loopw [9] (fun i wr => ∃ k : Nat, k ≤ n ∧ i = .int .i64 k ∧ (∀ j, j < k → cOk (ps.getD j default) = true) ∧ Below w.heap.size w wr) (fun i _ => n - (intOf i).toNat)
  case atStart => exact ⟨0, Nat.zero_le _, rfl, fun j h => absurd h (Nat.not_lt_zero j), Below.refl _ _⟩
  case round =>
    obtain ⟨k, hk, rfl, hok, hB⟩ := hrel
    have HO := Lib.hid hok
    have HB := Lib.hid hB
    clear hok hB
    by_cases hlt : k < n
    · obtain ⟨c0, c1, c2⟩ := (HR.out.below HB.out HR.out.lt).cut hlt
      by_cases hp : cOk (ps.getD k default) = true
      · have X : Hid (∀ j, j < k + 1 → cOk (ps.getD j default) = true) := Lib.hid (by
          intro j hj
          by_cases e : j = k
          · rw [e]; exact hp
          · exact HO.out j (by omega))
        clear HO
        generalize ps.getD k default = q at c0 c1 c2 hp
        obtain ⟨qk, qg, qs⟩ := q
        obtain ⟨p1, p2, p3, p4, p5⟩ := cOk_iff.1 hp
        clear hp
        simp only at c0 c1 c2 p1 p2 p3 p4 p5
        have p4' : decide (qs ≤ qg) = false := by simp; omega
        have p5' : decide (100 < qs) = false := by simp; omega
        go_wp2_with (go_at_call 58; (first | refine (within_t _ _ _ _ (by omega) (by omega)).mono ?_ | refine (within_f _ _ _ _ (by omega)).mono ?_); rintro e w' ⟨rfl, rfl⟩)
        go_roundw
        case rel => exact ⟨k + 1, by omega, by go_num, X.out, HB.out.alloc HB.out.size _⟩
        case measure => simp [intOf]; omega
      · have hp' : cOk (ps.getD k default) = false := by simpa using hp
        have HA := Lib.hid (cAll_not (by rw [HL.out]; exact hlt) hp')
        clear HO hp
        generalize ps.getD k default = q at c0 c1 c2 hp'
        obtain ⟨qk, qg, qs⟩ := q
        have hp := cOk_bad hp'
        clear hp'
        simp only at c0 c1 c2 hp
        rcases hp with hp | ⟨⟨h1, h2⟩, hp⟩ | ⟨⟨h1, h2⟩, h3, h4, hp⟩ | ⟨⟨h1, h2⟩, h3, h4, hp⟩ | ⟨⟨h1, h2⟩, h3, h4, hp⟩ | ⟨⟨h1, h2⟩, h3, h4, hp⟩ | ⟨⟨h1, h2⟩, h3, h4, h5, h6, hp⟩
        all_goals go_wp2_with (go_at_call 58; (first | refine (within_t _ _ _ _ (by omega) (by omega)).mono ?_ | refine (within_f _ _ _ _ (by omega)).mono ?_); rintro e w' ⟨rfl, rfl⟩)
        all_goals go_ret
        all_goals exact ⟨ret_bool (by rw [HA.out] <;> rfl), HB.out.alloc HB.out.size _⟩
    · have HA := Lib.hid (cAll_of (ps := ps) (fun j hj => HO.out j (by rw [HL.out] at hj; omega)))
      clear HO
      go_wp2
      go_ret
      exact ⟨ret_bool (by rw [HA.out] <;> simp), HB.out⟩

def cutN (ps : List DCut) : Nat → Int
  | 0 => 0
  | k + 1 => cutN ps k + ((ps.getD k default).s - (ps.getD k default).g)
def cutOf (ps : List DCut) : Int := if cAll ps = true then cutN ps ps.length else 0
theorem cutN_bd {ps : List DCut} (h : cAll ps = true) (k : Nat) (hk : k ≤ ps.length) : 0 ≤ cutN ps k ∧ cutN ps k ≤ 100 * k := by
  induction k with
  | zero => exact ⟨Int.le_refl _, Int.le_refl _⟩
  | succ k ih =>
    have := ih (by omega)
    have hp := cOk_iff.1 (cAll_at h (k := k) (by omega))
    unfold cutN
    omega
theorem iTotalCut_no (g n c : Nat) (ps : List DCut) (w : World) (hl : ps.length = n) (hm : n ≤ 1048576) (hR : Row w g (n * 3) (cc ps)) (ho : cAll ps = false) :
    Calls Try.prog 30 #[.slice (some ⟨g, 0, none⟩) n c] w fun e w' => e = .returned (.int .i64 0) ∧ Below w.heap.size w w' := by
  have HR := Lib.hid hR
  have HL := Lib.hid hl
  have HO := Lib.hid ho
  clear hR hl ho
  go_enter Try.func30, Try.ntmps30
  go_wp2_with (first | (go_at_call 45; refine (l20Ok_any _ _ _ _ _ HL.out hm HR.out).mono ?_; rw [HO.out]; rintro e w2 ⟨rfl, hb2⟩) | (go_at_call 48; refine (areCuts_any _ _ _ _ _ _ HL.out hm HR.out).mono ?_; rw [HO.out]; rintro e w2 ⟨rfl, hb2⟩))
  go_ret
  exact ⟨rfl, hb2⟩
theorem sTotalCut_no (g n c : Nat) (ps : List DCut) (w : World) (hl : ps.length = n) (hm : n ≤ 1048576) (hR : Row w g (n * 3) (cc ps)) (ho : cAll ps = false) :
    Calls Try.prog 35 #[.slice (some ⟨g, 0, none⟩) n c] w fun e w' => e = .returned (.int .i64 0) ∧ Below w.heap.size w w' := by
  have HR := Lib.hid hR
  have HL := Lib.hid hl
  have HO := Lib.hid ho
  clear hR hl ho
  go_enter Try.func35, Try.ntmps35
  go_wp2_with (first | (go_at_call 45; refine (l20Ok_any _ _ _ _ _ HL.out hm HR.out).mono ?_; rw [HO.out]; rintro e w2 ⟨rfl, hb2⟩) | (go_at_call 48; refine (areCuts_any _ _ _ _ _ _ HL.out hm HR.out).mono ?_; rw [HO.out]; rintro e w2 ⟨rfl, hb2⟩))
  go_ret
  exact ⟨rfl, hb2⟩
theorem sTotalCut_yes (g n c : Nat) (ps : List DCut) (w : World) (hl : ps.length = n) (hm : n ≤ 1048576) (hR : Row w g (n * 3) (cc ps)) (ho : cAll ps = true) :
    Calls Try.prog 35 #[.slice (some ⟨g, 0, none⟩) n c] w fun e w' => e = .returned (.int .i64 (cutN ps n)) ∧ Below w.heap.size w w' := by
  have HR := Lib.hid hR
  have HL := Lib.hid hl
  have HO := Lib.hid ho
  clear hR hl ho
  go_enter Try.func35, Try.ntmps35
  go_wp2_with (go_at_call 45; refine (l20Ok_any _ _ _ _ _ HL.out hm HR.out).mono ?_; rw [HO.out]; rintro e w2 ⟨rfl, hb2⟩)
  go_loopw [3, 4] (fun s i wr => ∃ k : Nat, k ≤ n ∧ i = .int .i64 k ∧ s = .int .i64 (cutN ps k) ∧ Below w.heap.size w wr) (fun _ i _ => n - (intOf i).toNat)
  case atStart => exact ⟨0, Nat.zero_le _, rfl, rfl, hb2⟩
  case round =>
    obtain ⟨k, hk, rfl, rfl, hB⟩ := hrel
    have HB := Lib.hid hB
    clear hB
    by_cases hlt : k < n
    · obtain ⟨c0, c1, c2⟩ := (HR.out.below HB.out HR.out.lt).cut hlt
      obtain ⟨p1, p2, p3, p4, p5⟩ := cOk_iff.1 (cAll_at HO.out (k := k) (by rw [HL.out]; exact hlt))
      obtain ⟨l0, l1⟩ := cutN_bd HO.out k (by rw [HL.out]; exact hk)
      have HY : Hid (cutN ps (k + 1) = cutN ps k + ((ps.getD k default).s - (ps.getD k default).g)) := Lib.hid rfl
      have i0 : (0 : Int) ≤ (k : Int) := Int.natCast_nonneg _
      have i1 : (k : Int) < (n : Int) := by omega
      generalize ps.getD k default = q at c0 c1 c2 p1 p2 p3 p4 p5 HY
      obtain ⟨qk, qg, qs⟩ := q
      simp only at c0 c1 c2 p1 p2 p3 p4 p5 HY
      have s1 : IntKind.i64.wrap (cutN ps k + qs) = cutN ps k + qs := IntWalk.i64_in _ (by omega)
      have s2 : IntKind.i64.wrap (cutN ps k + qs - qg) = cutN ps k + qs - qg := IntWalk.i64_in _ (by omega)
      go_wp2
      go_quiet (fail)
      clear s1 s2
      go_wp2
      go_roundw
      case rel => exact ⟨k + 1, by omega, by go_num, by rw [HY.out]; go_num, below_drewN HB.out _⟩
      case measure => simp [intOf]; omega
    · have hk' : k = n := by omega
      subst hk'
      go_wp2
      go_ret
      exact ⟨rfl, HB.out⟩
theorem iTotalCut_yes (g n c : Nat) (ps : List DCut) (w : World) (hl : ps.length = n) (hm : n ≤ 1048576) (hR : Row w g (n * 3) (cc ps)) (ho : cAll ps = true) :
    Calls Try.prog 30 #[.slice (some ⟨g, 0, none⟩) n c] w fun e w' => e = .returned (.int .i64 (cutN ps n)) ∧ Below w.heap.size w w' := by
  have HR := Lib.hid hR
  have HL := Lib.hid hl
  have HO := Lib.hid ho
  have HD : Hid ((true && decide ((n : Int) ≤ n)) = true) := Lib.hid (by simp)
  clear hR hl ho
  go_enter Try.func30, Try.ntmps30
  go_wp2_with (go_at_call 48; refine (areCuts_any _ _ _ _ _ _ HL.out hm HR.out).mono ?_; rw [HO.out, HD.out]; rintro e w2 ⟨rfl, hb2⟩)
  go_loopw [3, 13] (fun s i wr => ∃ k : Nat, k ≤ n ∧ i = .int .i64 k ∧ s = .int .i64 (cutN ps k) ∧ Below w.heap.size w wr) (fun _ i _ => n - (intOf i).toNat)
  case atStart => exact ⟨0, Nat.zero_le _, rfl, rfl, hb2⟩
  case round =>
    obtain ⟨k, hk, rfl, rfl, hB⟩ := hrel
    have HB := Lib.hid hB
    clear hB
    by_cases hlt : k < n
    · obtain ⟨c0, c1, c2⟩ := (HR.out.below HB.out HR.out.lt).cut hlt
      obtain ⟨p1, p2, p3, p4, p5⟩ := cOk_iff.1 (cAll_at HO.out (k := k) (by rw [HL.out]; exact hlt))
      obtain ⟨l0, l1⟩ := cutN_bd HO.out k (by rw [HL.out]; exact hk)
      have HY : Hid (cutN ps (k + 1) = cutN ps k + ((ps.getD k default).s - (ps.getD k default).g)) := Lib.hid rfl
      generalize ps.getD k default = q at c0 c1 c2 p1 p2 p3 p4 p5 HY
      obtain ⟨qk, qg, qs⟩ := q
      simp only at c0 c1 c2 p1 p2 p3 p4 p5 HY
      go_wp2
      go_roundw
      case rel => exact ⟨k + 1, by omega, by go_num, by rw [HY.out], HB.out.alloc HB.out.size _⟩
      case measure => simp [intOf]; omega
    · have hk' : k = n := by omega
      subst hk'
      go_wp2
      go_ret
      exact ⟨rfl, HB.out⟩
theorem iTotalCut_any (g n c : Nat) (ps : List DCut) (w : World) (hl : ps.length = n) (hm : n ≤ 1048576) (hR : Row w g (n * 3) (cc ps)) :
    Calls Try.prog 30 #[.slice (some ⟨g, 0, none⟩) n c] w fun e w' => e = .returned (.int .i64 (cutOf ps)) ∧ Below w.heap.size w w' := by
  unfold cutOf
  cases ho : cAll ps
  · exact iTotalCut_no g n c ps w hl hm hR ho
  · rw [if_pos rfl, hl]; exact iTotalCut_yes g n c ps w hl hm hR ho
theorem sTotalCut_any (g n c : Nat) (ps : List DCut) (w : World) (hl : ps.length = n) (hm : n ≤ 1048576) (hR : Row w g (n * 3) (cc ps)) :
    Calls Try.prog 35 #[.slice (some ⟨g, 0, none⟩) n c] w fun e w' => e = .returned (.int .i64 (cutOf ps)) ∧ Below w.heap.size w w' := by
  unfold cutOf
  cases ho : cAll ps
  · exact sTotalCut_no g n c ps w hl hm hR ho
  · rw [if_pos rfl, hl]; exact sTotalCut_yes g n c ps w hl hm hR ho
end Go.Proofs.Ytlplfpoggifadaa
