/-
  Contracts of what the program and the reference do with a slice of papers: whether all are valid, what is left of a kind, the heaviest kind, and whether two slices are equal.
  By an AI agent.
-/
import Derived.Test.YtoflcjgimkbgpaaPaperS
import Derived.Deep.QuietTactic
import Derived.BigQuiet
import Derived.Deep.RegionHeld3
namespace Go.Proofs.Ytoflcjgimkbgpaa
open Go.ChangeShapes Go.WideShapes Go.ChangeAt Go.RowKit Go.Joins Go.Deep
set_option maxRecDepth 100000
set_option linter.unusedVariables false

def pOk (p : DPaper) : Bool := paperOkB p.k p.g p.s
def okAll (ps : List DPaper) : Bool := ps.all pOk
theorem Row.paper {w : World} {g n k : Nat} {ps : List DPaper} (h : Row w g (n * 3) (pc ps)) (hk : k < n) :
    w.cell? ⟨g, k * 3, none⟩ = some (.int .i64 (ps.getD k default).k) ∧ w.cell? ⟨g, k * 3 + 1, none⟩ = some (.int .i64 (ps.getD k default).g) ∧ w.cell? ⟨g, k * 3 + 2, none⟩ = some (.int .i64 (ps.getD k default).s) :=
  ⟨pc0 ps k ▸ h.cell (by omega), pc1 ps k ▸ h.cell (by omega), pc2 ps k ▸ h.cell (by omega)⟩
theorem okAll_at {ps : List DPaper} (h : okAll ps = true) {k : Nat} (hk : k < ps.length) : pOk (ps.getD k default) = true := by
  unfold okAll at h
  rw [List.all_eq_true] at h
  exact h _ (by rw [getD_at _ _ hk]; exact List.getElem_mem hk)
theorem okAll_of {ps : List DPaper} (h : ∀ k, k < ps.length → pOk (ps.getD k default) = true) : okAll ps = true := by
  unfold okAll
  rw [List.all_eq_true]
  intro p hp
  obtain ⟨k, hk, rfl⟩ := List.getElem_of_mem hp
  rw [← getD_at _ default hk]
  exact h k hk
theorem okAll_not {ps : List DPaper} {k : Nat} (hk : k < ps.length) (h : pOk (ps.getD k default) = false) : okAll ps = false := by
  cases e : okAll ps
  · rfl
  · rw [okAll_at e hk] at h; exact absurd h (by simp)

theorem l23Ok_any (g n c : Nat) (ps : List DPaper) (w : World) (hl : ps.length = n) (hm : n ≤ 1048576) (hR : Row w g (n * 3) (pc ps)) :
    Calls Try.prog 71 #[.slice (some ⟨g, 0, none⟩) n c] w fun e w' => e = .returned (.bool (okAll ps)) ∧ Below w.heap.size w w' := by
  have HR := Lib.hid hR
  have HL := Lib.hid hl
  clear hR hl
  go_enter Try.func71, Try.ntmps71
  go_wp2
  go_loopw [3] (fun i wr => ∃ k : Nat, k ≤ n ∧ i = .int .i64 k ∧ (∀ j, j < k → pOk (ps.getD j default) = true) ∧ Below w.heap.size w wr) (fun i _ => n - (intOf i).toNat)
  case atStart => exact ⟨0, Nat.zero_le _, rfl, fun j h => absurd h (Nat.not_lt_zero j), Below.refl _ _⟩
  case round =>
    obtain ⟨k, hk, rfl, hok, hB⟩ := hrel
    have HO := Lib.hid hok
    have HB := Lib.hid hB
    clear hok hB
    by_cases hlt : k < n
    · obtain ⟨c0, c1, c2⟩ := (HR.out.below HB.out HR.out.lt).paper hlt
      by_cases hp : pOk (ps.getD k default) = true
      · have X : Hid (∀ j, j < k + 1 → pOk (ps.getD j default) = true) := Lib.hid (by
          intro j hj
          by_cases e : j = k
          · rw [e]; exact hp
          · exact HO.out j (by omega))
        clear HO
        unfold pOk at hp
        generalize ps.getD k default = q at c0 c1 c2 hp
        obtain ⟨qk, qg, qs⟩ := q
        have HP := Lib.hid hp
        clear hp
        simp only at c0 c1 c2
        go_wp2_with (go_at_call 73; refine (sPaperOk_t _ _ _ _ HP.out).mono ?_; rintro e w2 ⟨rfl, hb2⟩)
        go_roundw
        case rel => exact ⟨k + 1, by omega, by go_num, X.out, HB.out.trans (hb2.mono HB.out.size)⟩
        case measure => simp [intOf]; omega
      · have hp' : pOk (ps.getD k default) = false := by simpa using hp
        have HA := Lib.hid (okAll_not (by rw [HL.out]; exact hlt) hp')
        clear HO hp
        unfold pOk at hp'
        generalize ps.getD k default = q at c0 c1 c2 hp'
        obtain ⟨qk, qg, qs⟩ := q
        have HP := Lib.hid hp'
        clear hp'
        simp only at c0 c1 c2
        go_wp2_with (go_at_call 73; refine (sPaperOk_f _ _ _ _ HP.out).mono ?_; rintro e w2 ⟨rfl, hb2⟩)
        go_ret
        exact ⟨ret_bool HA.out.symm, HB.out.trans (hb2.mono HB.out.size)⟩
    · have HA := Lib.hid (okAll_of (ps := ps) (fun j hj => HO.out j (by rw [HL.out] at hj; omega)))
      clear HO
      go_wp2
      go_ret
      exact ⟨ret_bool HA.out.symm, HB.out⟩

theorem neg_of {z : Int} (h : z = -1) : decide (0 ≤ z) = false := by rw [h]; rfl
/-- What IndexFunc returns where it looks for a paper that is not valid. -/
def IdxP (ps : List DPaper) (w : World) (e : Ending) (w' : World) : Prop :=
  ∃ z : Int, e = .returned (.int .i64 z) ∧ (okAll ps = true → z = -1) ∧ (okAll ps = false → 0 ≤ z) ∧ Below w.heap.size w w'

theorem indexPaper_any (g n c : Nat) (ps : List DPaper) (w : World) (hl : ps.length = n) (hm : n ≤ 1048576) (hR : Row w g (n * 3) (pc ps)) :
    Calls Try.prog 90 #[.slice (some ⟨g, 0, none⟩) n c, .func (.func 82) #[] #[]] w (IdxP ps w) := by
  have HR := Lib.hid hR
  have HL := Lib.hid hl
  clear hR hl
  go_enter Try.func90, Try.ntmps90
  go_wp2
  go_loopw [8] (fun i wr => ∃ k : Nat, k ≤ n ∧ i = .int .i64 k ∧ (∀ j, j < k → pOk (ps.getD j default) = true) ∧ Below w.heap.size w wr) (fun i _ => n - (intOf i).toNat)
  case atStart => exact ⟨0, Nat.zero_le _, rfl, fun j h => absurd h (Nat.not_lt_zero j), Below.refl _ _⟩
  case round =>
    obtain ⟨k, hk, rfl, hok, hB⟩ := hrel
    have HO := Lib.hid hok
    have HB := Lib.hid hB
    clear hok hB
    by_cases hlt : k < n
    · obtain ⟨c0, c1, c2⟩ := (HR.out.below HB.out HR.out.lt).paper hlt
      by_cases hp : pOk (ps.getD k default) = true
      · have X : Hid (∀ j, j < k + 1 → pOk (ps.getD j default) = true) := Lib.hid (by
          intro j hj
          by_cases e : j = k
          · rw [e]; exact hp
          · exact HO.out j (by omega))
        clear HO
        unfold pOk at hp
        generalize ps.getD k default = q at c0 c1 c2 hp
        obtain ⟨qk, qg, qs⟩ := q
        have HP := Lib.hid hp
        clear hp
        simp only at c0 c1 c2
        go_wp2_with (first | (go_at_call 27; refine (iPaperOk_t _ _ _ _ HP.out).mono ?_; rintro e w2 ⟨rfl, hb2⟩) | go_in)
        go_roundw
        case rel => exact ⟨k + 1, by omega, by go_num, X.out, (HB.out.alloc HB.out.size _).trans (hb2.mono (by simp; have := HB.out.size; omega))⟩
        case measure => simp [intOf]; omega
      · have hp' : pOk (ps.getD k default) = false := by simpa using hp
        have HA := Lib.hid (okAll_not (by rw [HL.out]; exact hlt) hp')
        clear HO hp
        unfold pOk at hp'
        generalize ps.getD k default = q at c0 c1 c2 hp'
        obtain ⟨qk, qg, qs⟩ := q
        have HP := Lib.hid hp'
        clear hp'
        simp only at c0 c1 c2
        go_wp2_with (first | (go_at_call 27; refine (iPaperOk_f _ _ _ _ HP.out).mono ?_; rintro e w2 ⟨rfl, hb2⟩) | go_in)
        go_ret
        exact ⟨k, rfl, fun h => by rw [HA.out] at h; exact absurd h (by simp), fun _ => by omega, (HB.out.alloc HB.out.size _).trans (hb2.mono (by simp; have := HB.out.size; omega))⟩
    · have HA := Lib.hid (okAll_of (ps := ps) (fun j hj => HO.out j (by rw [HL.out] at hj; omega)))
      clear HO
      go_wp2
      go_ret
      exact ⟨-1, rfl, fun _ => rfl, fun h => by rw [HA.out] at h; exact absurd h (by simp), HB.out⟩

theorem arePapers_any (g n c : Nat) (ps : List DPaper) (w : World) (hl : ps.length = n) (hm : n ≤ 1048576) (hR : Row w g (n * 3) (pc ps)) :
    Calls Try.prog 63 #[.slice (some ⟨g, 0, none⟩) n c] w fun e w' => e = .returned (.bool (okAll ps)) ∧ Below w.heap.size w w' := by
  have HR := Lib.hid hR
  have HL := Lib.hid hl
  clear hR hl
  cases ho : okAll ps
  · have HO := Lib.hid ho
    clear ho
    go_enter Try.func63, Try.ntmps63
    go_wp2_with (first | (go_at_call 90; refine (indexPaper_any _ _ _ _ _ HL.out hm HR.out).mono ?_; rintro e w2 ⟨z, rfl, h1, h2, hb⟩; have hz := h2 HO.out; clear h1 h2) | go_in)
    go_ret
    exact ⟨rfl, hb⟩
  · have HO := Lib.hid ho
    clear ho
    go_enter Try.func63, Try.ntmps63
    go_wp2_with (first | (go_at_call 90; refine (indexPaper_any _ _ _ _ _ HL.out hm HR.out).mono ?_; rintro e w2 ⟨z, rfl, h1, h2, hb⟩; have hz := neg_of (h1 HO.out); clear h1 h2) | go_in)
    go_ret
    exact ⟨rfl, hb⟩

def leftN (ps : List DPaper) (kind : Int) : Nat → Int
  | 0 => 0
  | k + 1 => leftN ps kind k + if (ps.getD k default).k = kind then (ps.getD k default).s else 0
def leftOf (ps : List DPaper) (kind : Int) : Int := if okAll ps = true then leftN ps kind ps.length else 0
theorem leftN_bd {ps : List DPaper} (h : okAll ps = true) (kind : Int) (k : Nat) (hk : k ≤ ps.length) : 0 ≤ leftN ps kind k ∧ leftN ps kind k ≤ 100000 * k := by
  induction k with
  | zero => exact ⟨Int.le_refl _, Int.le_refl _⟩
  | succ k ih =>
    have := ih (by omega)
    have hp := okAll_at h (k := k) (by omega)
    unfold pOk at hp
    have := paperOk_iff.1 hp
    unfold leftN
    split <;> omega
theorem leftN_yes {ps : List DPaper} {kind : Int} {k : Nat} (h : (ps.getD k default).k = kind) : leftN ps kind (k + 1) = leftN ps kind k + (ps.getD k default).s := by
  show leftN ps kind k + _ = _; rw [if_pos h]
theorem leftN_no {ps : List DPaper} {kind : Int} {k : Nat} (h : ¬ (ps.getD k default).k = kind) : leftN ps kind (k + 1) = leftN ps kind k := by
  show leftN ps kind k + _ = _; rw [if_neg h]; omega

theorem sSheetsLeft_no (g n c : Nat) (ps : List DPaper) (kind : Int) (w : World) (hl : ps.length = n) (hm : n ≤ 1048576) (hR : Row w g (n * 3) (pc ps)) (ho : okAll ps = false) :
    Calls Try.prog 50 #[.slice (some ⟨g, 0, none⟩) n c, .int .i64 kind] w fun e w' => e = .returned (.int .i64 0) ∧ Below w.heap.size w w' := by
  have HR := Lib.hid hR
  have HL := Lib.hid hl
  have HO := Lib.hid ho
  clear hR hl ho
  go_enter Try.func50, Try.ntmps50
  go_wp2
  refine wp_loop_rounds 1 ?_
  rw [rounds_succ]
  by_cases hn : 0 < n
  · go_wp2_with (go_at_call 71; refine (l23Ok_any _ _ _ _ _ HL.out hm HR.out).mono ?_; rw [HO.out]; rintro e w2 ⟨rfl, hb2⟩)
    go_ret
    exact ⟨rfl, hb2⟩
  · have h0 : n = 0 := by omega
    subst h0
    go_wp2
    go_ret
    exact ⟨rfl, Below.refl _ _⟩

theorem sSheetsLeft_yes (g n c : Nat) (ps : List DPaper) (kind : Int) (w : World) (hl : ps.length = n) (hm : n ≤ 1048576) (hR : Row w g (n * 3) (pc ps)) (ho : okAll ps = true) :
    Calls Try.prog 50 #[.slice (some ⟨g, 0, none⟩) n c, .int .i64 kind] w fun e w' => e = .returned (.int .i64 (leftN ps kind n)) ∧ Below w.heap.size w w' := by
  have HR := Lib.hid hR
  have HL := Lib.hid hl
  have HO := Lib.hid ho
  clear hR hl ho
  go_enter Try.func50, Try.ntmps50
  go_wp2
  go_loopw [5, 6] (fun s i wr => ∃ k : Nat, k ≤ n ∧ i = .int .i64 k ∧ s = .int .i64 (leftN ps kind k) ∧ Below w.heap.size w wr) (fun _ i _ => n - (intOf i).toNat)
  case atStart => exact ⟨0, Nat.zero_le _, rfl, rfl, Below.refl _ _⟩
  case round =>
    obtain ⟨k, hk, rfl, rfl, hB⟩ := hrel
    have HB := Lib.hid hB
    clear hB
    obtain ⟨l0, l1⟩ := leftN_bd HO.out kind k (by rw [HL.out]; exact hk)
    by_cases hlt : k < n
    · have HR2 := Lib.hid (HR.out.below HB.out HR.out.lt)
      obtain ⟨c0, c1, c2⟩ := HR2.out.paper hlt
      have hp := okAll_at HO.out (k := k) (by rw [HL.out]; exact hlt)
      unfold pOk at hp
      obtain ⟨_, _, _, _, p5, p6⟩ := paperOk_iff.1 hp
      clear hp
      by_cases hkd : (ps.getD k default).k = kind
      · have HY := Lib.hid (leftN_yes hkd)
        have hkd' : ((ps.getD k default).k == kind) = true := by simpa using hkd
        clear hkd
        generalize ps.getD k default = q at c0 c1 c2 p5 p6 HY hkd'
        obtain ⟨qk, qg, qs⟩ := q
        simp only at c0 c1 c2 p5 p6 HY hkd'
        go_wp2_with (go_at_call 71; refine (l23Ok_any _ _ _ _ _ HL.out hm HR2.out).mono ?_; rw [HO.out]; rintro e w2 ⟨rfl, hb2⟩; have d0 := (hb2.cell (p := ⟨g, k * 3, none⟩) HR2.out.lt).trans c0; have d2 := (hb2.cell (p := ⟨g, k * 3 + 2, none⟩) HR2.out.lt).trans c2)
        go_roundw
        case rel => exact ⟨k + 1, by omega, by go_num, by rw [HY.out], HB.out.trans (hb2.mono HB.out.size)⟩
        case measure => simp [intOf]; omega
      · have HY := Lib.hid (leftN_no hkd)
        have hkd' : ((ps.getD k default).k == kind) = false := by simpa using hkd
        clear hkd
        generalize ps.getD k default = q at c0 c1 c2 p5 p6 HY hkd'
        obtain ⟨qk, qg, qs⟩ := q
        simp only at c0 c1 c2 p5 p6 HY hkd'
        go_wp2_with (go_at_call 71; refine (l23Ok_any _ _ _ _ _ HL.out hm HR2.out).mono ?_; rw [HO.out]; rintro e w2 ⟨rfl, hb2⟩; have d0 := (hb2.cell (p := ⟨g, k * 3, none⟩) HR2.out.lt).trans c0; have d2 := (hb2.cell (p := ⟨g, k * 3 + 2, none⟩) HR2.out.lt).trans c2)
        go_roundw
        case rel => exact ⟨k + 1, by omega, by go_num, by rw [HY.out], HB.out.trans (hb2.mono HB.out.size)⟩
        case measure => simp [intOf]; omega
    · have hk' : k = n := by omega
      subst hk'
      go_wp2
      go_ret
      exact ⟨rfl, HB.out⟩

theorem iSheetsLeft_yes (g n c : Nat) (ps : List DPaper) (kind : Int) (w : World) (hl : ps.length = n) (hm : n ≤ 1048576) (hR : Row w g (n * 3) (pc ps)) (ho : okAll ps = true) :
    Calls Try.prog 25 #[.slice (some ⟨g, 0, none⟩) n c, .int .i64 kind] w fun e w' => e = .returned (.int .i64 (leftN ps kind n)) ∧ Below w.heap.size w w' := by
  have HR := Lib.hid hR
  have HL := Lib.hid hl
  have HO := Lib.hid ho
  clear hR hl ho
  go_enter Try.func25, Try.ntmps25
  go_wp2_with (go_at_call 63; refine (arePapers_any _ _ _ _ _ HL.out hm HR.out).mono ?_; rw [HO.out]; rintro e w2 ⟨rfl, hb2⟩)
  go_loopw [5, 13] (fun s i wr => ∃ k : Nat, k ≤ n ∧ i = .int .i64 k ∧ s = .int .i64 (leftN ps kind k) ∧ Below w.heap.size w wr) (fun _ i _ => n - (intOf i).toNat)
  case atStart => exact ⟨0, Nat.zero_le _, rfl, rfl, hb2⟩
  case round =>
    obtain ⟨k, hk, rfl, rfl, hB⟩ := hrel
    have HB := Lib.hid hB
    clear hB
    obtain ⟨l0, l1⟩ := leftN_bd HO.out kind k (by rw [HL.out]; exact hk)
    by_cases hlt : k < n
    · have HR2 := Lib.hid (HR.out.below HB.out HR.out.lt)
      obtain ⟨c0, c1, c2⟩ := HR2.out.paper hlt
      have hp := okAll_at HO.out (k := k) (by rw [HL.out]; exact hlt)
      unfold pOk at hp
      obtain ⟨_, _, _, _, p5, p6⟩ := paperOk_iff.1 hp
      clear hp
      by_cases hkd : (ps.getD k default).k = kind
      · have HY := Lib.hid (leftN_yes hkd)
        have hkd' : ((ps.getD k default).k == kind) = true := by simpa using hkd
        clear hkd
        generalize ps.getD k default = q at c0 c1 c2 p5 p6 HY hkd'
        obtain ⟨qk, qg, qs⟩ := q
        simp only at c0 c1 c2 p5 p6 HY hkd'
        go_wp2
        go_roundw
        case rel => exact ⟨k + 1, by omega, by go_num, by rw [HY.out], HB.out.alloc HB.out.size _⟩
        case measure => simp [intOf]; omega
      · have HY := Lib.hid (leftN_no hkd)
        have hkd' : ((ps.getD k default).k == kind) = false := by simpa using hkd
        clear hkd
        generalize ps.getD k default = q at c0 c1 c2 p5 p6 HY hkd'
        obtain ⟨qk, qg, qs⟩ := q
        simp only at c0 c1 c2 p5 p6 HY hkd'
        go_wp2
        go_roundw
        case rel => exact ⟨k + 1, by omega, by go_num, by rw [HY.out], HB.out.alloc HB.out.size _⟩
        case measure => simp [intOf]; omega
    · have hk' : k = n := by omega
      subst hk'
      go_wp2
      go_ret
      exact ⟨rfl, HB.out⟩

theorem iSheetsLeft_no (g n c : Nat) (ps : List DPaper) (kind : Int) (w : World) (hl : ps.length = n) (hm : n ≤ 1048576) (hR : Row w g (n * 3) (pc ps)) (ho : okAll ps = false) :
    Calls Try.prog 25 #[.slice (some ⟨g, 0, none⟩) n c, .int .i64 kind] w fun e w' => e = .returned (.int .i64 0) ∧ Below w.heap.size w w' := by
  have HR := Lib.hid hR
  have HL := Lib.hid hl
  have HO := Lib.hid ho
  clear hR hl ho
  go_enter Try.func25, Try.ntmps25
  go_wp2_with (go_at_call 63; refine (arePapers_any _ _ _ _ _ HL.out hm HR.out).mono ?_; rw [HO.out]; rintro e w2 ⟨rfl, hb2⟩)
  go_ret
  exact ⟨rfl, hb2⟩
theorem iSheetsLeft_any (g n c : Nat) (ps : List DPaper) (kind : Int) (w : World) (hl : ps.length = n) (hm : n ≤ 1048576) (hR : Row w g (n * 3) (pc ps)) :
    Calls Try.prog 25 #[.slice (some ⟨g, 0, none⟩) n c, .int .i64 kind] w fun e w' => e = .returned (.int .i64 (leftOf ps kind)) ∧ Below w.heap.size w w' := by
  unfold leftOf
  cases ho : okAll ps
  · exact iSheetsLeft_no g n c ps kind w hl hm hR ho
  · rw [if_pos rfl, hl]; exact iSheetsLeft_yes g n c ps kind w hl hm hR ho
theorem sSheetsLeft_any (g n c : Nat) (ps : List DPaper) (kind : Int) (w : World) (hl : ps.length = n) (hm : n ≤ 1048576) (hR : Row w g (n * 3) (pc ps)) :
    Calls Try.prog 50 #[.slice (some ⟨g, 0, none⟩) n c, .int .i64 kind] w fun e w' => e = .returned (.int .i64 (leftOf ps kind)) ∧ Below w.heap.size w w' := by
  unfold leftOf
  cases ho : okAll ps
  · exact sSheetsLeft_no g n c ps kind w hl hm hR ho
  · rw [if_pos rfl, hl]; exact sSheetsLeft_yes g n c ps kind w hl hm hR ho
end Go.Proofs.Ytoflcjgimkbgpaa
