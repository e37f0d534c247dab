/-
  Contracts of UsePaper in the program and in the reference.
  By an AI agent.
-/
import Derived.Test.YtoflcjgimkbgpaaPaperT
import Derived.WalkSmall
import Derived.WalkSpells
namespace Go.Proofs.Ytoflcjgimkbgpaa
open Go.ChangeShapes Go.WideShapes Go.ChangeAt Go.RowKit Go.Joins Go.Deep
set_option maxRecDepth 100000
set_option linter.unusedVariables false

theorem pc_one (ps : List DPaper) (i : Nat) : (pc ps i).oneCell' = true := by
  unfold pc; split
  · rfl
  · split <;> rfl
/-- What an append of a row to an empty slice of the call's own leaves. -/
theorem app_facts {w w1 : World} {n N : Nat} {e : TypeId} {v1 : Value} {d : Nat → Value} (own1 : w1.ownsRow w.heap.size e 3 v1 (0 + n) ([] ++ rowL d (n * 3)))
    (gr1 : (w.alloc (.cells #[] e (0, 0))).grownBy w1 (Value.slice (some ⟨w.heap.size, 0, none⟩) 0 0).ownBlock) (nn1 : v1 = .slice none 0 0 ↔ Value.slice (some ⟨w.heap.size, 0, none⟩) 0 0 = .slice none 0 0 ∧ N = 0) :
    ∃ g' c', v1 = .slice (some ⟨g', 0, none⟩) n c' ∧ w.heap.size ≤ g' ∧ Hid (Row w1 g' (n * 3) d) ∧ Hid (Below w.heap.size w w1) := by
  have hv : v1 ≠ .slice none 0 0 := fun h => by have := nn1.1 h; simp at this
  rw [Nat.zero_add, List.nil_append] at own1
  obtain ⟨g', c', rfl, hb, _, R1⟩ := owns_row own1 hv
  have R2 := Lib.hid (R1.congr (d := d) fun i hi => rowL_getD _ _ _ hi)
  have B2 : Hid (Below w.heap.size w w1) := Lib.hid (((Below.refl _ _).alloc (Nat.le_refl _) _).grown gr1 (by simp) (by intro k hk; simp [Value.ownBlock] at hk; omega))
  exact ⟨g', c', rfl, hb, R2, B2⟩
theorem clone_any (g n c : Nat) (ps : List DPaper) (w : World) (hl : ps.length = n) (hm : n ≤ 1048576) (hR : Row w g (n * 3) (pc ps)) :
    Calls Try.prog 64 #[.slice (some ⟨g, 0, none⟩) n c] w fun e w' => ∃ g' c', e = .returned (.slice (some ⟨g', 0, none⟩) n c') ∧ w.heap.size ≤ g' ∧ Row w' g' (n * 3) (pc ps) ∧ Below w.heap.size w w' := by
  have hnn := Lib.run_eql_slice_nil (P := Try.prog) w 37 43 (some ⟨g, 0, none⟩) n c 0 0 Try.underlying37
  simp at hnn
  go_enter Try.func64, Try.ntmps64
  obtain ⟨i0, hi0, hz0, hz1, hz2⟩ := info_parts infoPaper
  have HR := Lib.hid hR
  clear hR hl
  go_wp2_with (at_builtin; refine wpList_append_own _ rfl _ _ 37 rfl w.heap.size 43 i0 _ 3 24 Try.underlying37 hi0 hz0 hz1 hz2 rfl (by decide) (.slice (some ⟨w.heap.size, 0, none⟩) 0 0) 0 [] rfl (owns_empty w _ 3) ⟨g, 0, none⟩ n c (rowL (pc ps) (n * 3)) rfl (rowL_length _ _) (rowL_news (HR.out.alloc _)) (rowL_one fun i _ => pc_one ps i) (by unfold maxLen; omega) (by omega) (by simp) ?_; intro v1 w1 own1 gr1 nn1; obtain ⟨g', c', rfl, hb, R2, B2⟩ := app_facts own1 gr1 nn1; clear own1 gr1 nn1)
  go_ret
  exact ⟨g', c', rfl, hb, R2.out, B2.out⟩

/-- Go's min, as the walk spells it. -/
def mn (a b : Int) : Int := if b < a then b else a
theorem mn_comm (a b : Int) : (if a < b then a else b) = mn b a := rfl
theorem mn_swap (a b : Int) : mn a b = if a < b then a else b := by unfold mn; split <;> split <;> omega
/-- The sheets still wanted behind the first k papers. -/
def rem (ps : List DPaper) (kind sheets : Int) : Nat → Int
  | 0 => sheets
  | k + 1 => if (ps.getD k default).k = kind then rem ps kind sheets k - mn (rem ps kind sheets k) (ps.getD k default).s else rem ps kind sheets k
def usedP (ps : List DPaper) (kind sheets : Int) (j : Nat) : DPaper :=
  if (ps.getD j default).k = kind then ⟨(ps.getD j default).k, (ps.getD j default).g, (ps.getD j default).s - mn (rem ps kind sheets j) (ps.getD j default).s⟩ else ps.getD j default
def used (ps : List DPaper) (kind sheets : Int) : List DPaper := (List.range ps.length).map (usedP ps kind sheets)
theorem used_length (ps : List DPaper) (kind sheets : Int) : (used ps kind sheets).length = ps.length := by simp [used]
theorem used_at (ps : List DPaper) (kind sheets : Int) {j : Nat} (h : j < ps.length) : (used ps kind sheets).getD j default = usedP ps kind sheets j := by simp [used, List.getD, h]
theorem rem_bd {ps : List DPaper} (h : okAll ps = true) {kind sheets : Int} (hs : 0 ≤ sheets) (k : Nat) (hk : k ≤ ps.length) : 0 ≤ rem ps kind sheets k ∧ rem ps kind sheets k ≤ sheets := by
  induction k with
  | zero => exact ⟨hs, Int.le_refl _⟩
  | succ k ih =>
    have := ih (by omega)
    have hp := okAll_at h (k := k) (by omega)
    unfold pOk at hp
    have := paperOk_iff.1 hp
    unfold rem mn
    split
    · split <;> omega
    · omega
theorem pc_keep {ps : List DPaper} {kind sheets : Int} {k i : Nat} (hk : k < ps.length) (h : ¬ (ps.getD k default).k = kind) :
    (if i < (k + 1) * 3 then pc (used ps kind sheets) i else pc ps i) = (if i < k * 3 then pc (used ps kind sheets) i else pc ps i) := by
  by_cases h1 : i < k * 3
  · rw [if_pos h1, if_pos (by omega)]
  · rw [if_neg h1]
    by_cases h2 : i < (k + 1) * 3
    · rw [if_pos h2]
      have : i / 3 = k := by omega
      unfold pc
      rw [this, used_at ps kind sheets hk]
      unfold usedP
      rw [if_neg h]
    · rw [if_neg h2]
theorem pc_use {ps : List DPaper} {kind sheets : Int} {k i : Nat} (hk : k < ps.length) (h : (ps.getD k default).k = kind) :
    (if i < (k + 1) * 3 then pc (used ps kind sheets) i else pc ps i) = (if i = k * 3 + 2 then .int .i64 ((ps.getD k default).s - mn (rem ps kind sheets k) (ps.getD k default).s) else if i < k * 3 then pc (used ps kind sheets) i else pc ps i) := by
  by_cases h3 : i = k * 3 + 2
  · subst h3
    rw [if_pos (by omega), if_pos rfl, pc2, used_at ps kind sheets hk]
    unfold usedP
    rw [if_pos h]
  · rw [if_neg h3]
    by_cases h1 : i < k * 3
    · rw [if_pos h1, if_pos (by omega)]
    · rw [if_neg h1]
      by_cases h2 : i < (k + 1) * 3
      · rw [if_pos h2]
        have e : i / 3 = k := by omega
        unfold pc
        rw [e, used_at ps kind sheets hk]
        unfold usedP
        rw [if_pos h]
        split
        · rfl
        · rw [if_pos (by omega), if_pos (by omega)]
      · rw [if_neg h2]
def useB (ps : List DPaper) (kind sheets : Int) : Bool := okAll ps && decide (ps.length ≤ 20) && decide (0 ≤ sheets) && decide (sheets ≤ leftOf ps kind)
def useP (ps : List DPaper) (kind sheets : Int) : List DPaper := if useB ps kind sheets = true then used ps kind sheets else ps
theorem useP_length (ps : List DPaper) (kind sheets : Int) : (useP ps kind sheets).length = ps.length := by unfold useP; split <;> simp [used_length]
theorem useB_iff {ps : List DPaper} {kind sheets : Int} : useB ps kind sheets = true ↔ okAll ps = true ∧ ps.length ≤ 20 ∧ 0 ≤ sheets ∧ sheets ≤ leftOf ps kind := by
  unfold useB; simp [and_assoc]

theorem useB_no {ps : List DPaper} {kind sheets : Int} (h : useB ps kind sheets = false) :
    okAll ps = false ∨ (okAll ps = true ∧ 20 < ps.length) ∨ (okAll ps = true ∧ ps.length ≤ 20 ∧ sheets < 0) ∨ (okAll ps = true ∧ ps.length ≤ 20 ∧ 0 ≤ sheets ∧ leftOf ps kind < sheets) := by
  cases ho : okAll ps
  · exact .inl rfl
  · have : ¬ useB ps kind sheets = true := by rw [h]; simp
    rw [useB_iff, ho] at this
    simp only [true_and] at this ⊢
    right
    omega
def UseP (w : World) (n : Nat) (ps : List DPaper) (kind sheets : Int) (e : Ending) (w' : World) : Prop :=
  ∃ g' c', e = .returned (.tuple #[.slice (some ⟨g', 0, none⟩) n c', .bool (useB ps kind sheets)]) ∧ w.heap.size ≤ g' ∧ Row w' g' (n * 3) (pc (useP ps kind sheets)) ∧ Below w.heap.size w w'

set_option maxHeartbeats 1000000 in
theorem sUsePaper_yes (g n c : Nat) (ps : List DPaper) (kind sheets : Int) (w : World) (hl : ps.length = n) (hm : n ≤ 1048576) (hR : Row w g (n * 3) (pc ps)) (hu : useB ps kind sheets = true) :
    Calls Try.prog 45 #[.slice (some ⟨g, 0, none⟩) n c, .int .i64 kind, .int .i64 sheets] w (UseP w n ps kind sheets) := by
  obtain ⟨ho, h20, hs0, hsl⟩ := useB_iff.1 hu
  have HU : Hid (useP ps kind sheets = used ps kind sheets) := Lib.hid (by unfold useP; rw [hu]; rfl)
  have HUB := Lib.hid hu
  have HR := Lib.hid hR
  have HL := Lib.hid hl
  have HO := Lib.hid ho
  have hlf : leftOf ps kind ≤ 100000 * 1048576 := by
    have e : leftOf ps kind = leftN ps kind ps.length := by unfold leftOf; rw [ho]; rfl
    have := (leftN_bd ho kind ps.length (Nat.le_refl _)).2
    rw [e]; omega
  rw [hl] at h20
  clear hR hl ho hu
  have t1 : decide ((20 : Int) < (n : Int)) = false := by simp; omega
  have t2 : decide (sheets < 0) = false := by simp; omega
  have t3 : decide (leftOf ps kind < sheets) = false := by simp; omega
  obtain ⟨i0, hi0, hz0, hz1, hz2⟩ := info_parts infoPaper
  go_enter Try.func45, Try.ntmps45
  go_wp2_with (first | (at_builtin; refine wpList_append_own _ rfl _ _ 37 rfl w.heap.size 43 i0 _ 3 24 Try.underlying37 hi0 hz0 hz1 hz2 rfl (by decide) (.slice (some ⟨w.heap.size, 0, none⟩) 0 0) 0 [] rfl (owns_empty w _ 3) ⟨g, 0, none⟩ n c (rowL (pc ps) (n * 3)) rfl (rowL_length _ _) (rowL_news (HR.out.alloc _)) (rowL_one fun i _ => pc_one ps i) (by unfold maxLen; omega) (by omega) (by simp) ?_; intro v1 w1 own1 gr1 nn1; obtain ⟨g', c', rfl, hb, R2, B2⟩ := app_facts own1 gr1 nn1; clear own1 gr1 nn1) | (go_at_call 71; refine (l23Ok_any _ _ _ _ _ HL.out hm (HR.out.below B2.out HR.out.lt)).mono ?_; rw [HO.out]; rintro e w2 ⟨rfl, hb2⟩) | (go_at_call 50; refine (sSheetsLeft_any _ _ _ _ _ _ HL.out hm ((HR.out.below B2.out HR.out.lt).below hb2 (HR.out.below B2.out HR.out.lt).lt)).mono ?_; rintro e w3 ⟨rfl, hb3⟩))
  have hB3 := Lib.hid (B2.out.trans ((hb2.trans (hb3.mono hb2.size)).mono B2.out.size))
  have hR3 := Lib.hid ((R2.out.below hb2 R2.out.lt).below hb3 (R2.out.below hb2 R2.out.lt).lt)
  have hR4 := Lib.hid (hR3.out.congr (d := fun i => if i < 0 * 3 then pc (used ps kind sheets) i else pc ps i) (fun i _ => by rw [if_neg (by omega)]))
  clear hb2 hb3 R2 B2 t1 t2 t3
  go_loopw [2, 9] (fun s i wr => ∃ k : Nat, k ≤ n ∧ i = .int .i64 k ∧ s = .int .i64 (rem ps kind sheets k) ∧ Row wr g' (n * 3) (fun i => if i < k * 3 then pc (used ps kind sheets) i else pc ps i) ∧ Below w.heap.size w wr) (fun _ i _ => n - (intOf i).toNat)
  case atStart => exact ⟨0, Nat.zero_le _, rfl, rfl, hR4.out, hB3.out⟩
  case round =>
    obtain ⟨k, hk, rfl, rfl, hR, hB⟩ := hrel
    have HB := Lib.hid hB
    have HW := Lib.hid hR
    clear hB hR
    by_cases hlt : k < n
    · obtain ⟨c0, c1, c2⟩ := (HR.out.below HB.out HR.out.lt).paper hlt
      have hp := okAll_at HO.out (k := k) (by rw [HL.out]; exact hlt)
      unfold pOk at hp
      obtain ⟨_, _, _, _, p5, p6⟩ := paperOk_iff.1 hp
      obtain ⟨r1, r2⟩ := rem_bd HO.out (kind := kind) hs0 k (by rw [HL.out]; exact hk)
      clear hp
      by_cases hkd : (ps.getD k default).k = kind
      · have HY : Hid (rem ps kind sheets (k + 1) = rem ps kind sheets k - mn (rem ps kind sheets k) (ps.getD k default).s) := Lib.hid (by show (if _ then _ else _) = _; rw [if_pos hkd])
        have HN : Hid (Row (wr.setCell ⟨g', k * 3 + 2, none⟩ (.int .i64 ((ps.getD k default).s - mn (rem ps kind sheets k) (ps.getD k default).s))) g' (n * 3) (fun i => if i < (k + 1) * 3 then pc (used ps kind sheets) i else pc ps i)) :=
          Lib.hid ((HW.out.set _ _).congr fun i _ => (pc_use (by rw [HL.out]; exact hlt) hkd).symm)
        have hkd' : ((ps.getD k default).k == kind) = true := by simpa using hkd
        have f2 := HW.out.frozen (k * 3 + 2)
        have d2 := (HW.out.cell (i := k * 3 + 2) (by omega)).trans (congrArg some ((if_neg (by omega)).trans (pc2 ps k)))
        clear hkd
        generalize ps.getD k default = q at c0 c1 c2 p5 p6 HY hkd' HN d2
        obtain ⟨qk, qg, qs⟩ := q
        simp only at c0 c1 c2 p5 p6 HY hkd' HN d2
        unfold mn at HY HN
        go_wp2
        go_roundw
        case rel => exact ⟨k + 1, by omega, by go_num, by rw [HY.out], HN.out, HB.out.setCell (by simpa using hb) _⟩
        case measure => simp [intOf]; omega
      · have HY : Hid (rem ps kind sheets (k + 1) = rem ps kind sheets k) := Lib.hid (by show (if _ then _ else _) = _; rw [if_neg hkd])
        have HN : Hid (Row wr g' (n * 3) (fun i => if i < (k + 1) * 3 then pc (used ps kind sheets) i else pc ps i)) :=
          Lib.hid (HW.out.congr fun i _ => (pc_keep (by rw [HL.out]; exact hlt) hkd).symm)
        have hkd' : ((ps.getD k default).k == kind) = false := by simpa using hkd
        clear hkd
        generalize ps.getD k default = q at c0 c1 c2 p5 p6 hkd'
        obtain ⟨qk, qg, qs⟩ := q
        simp only at c0 c1 c2 p5 p6 hkd'
        go_wp2
        go_roundw
        case rel => exact ⟨k + 1, by omega, by go_num, by rw [HY.out], HN.out, HB.out⟩
        case measure => simp [intOf]; omega
    · have hk' : k = n := by omega
      subst hk'
      have HF := Lib.hid (HW.out.congr (d := pc (used ps kind sheets)) (fun j hj => if_pos hj))
      clear HW
      go_wp2
      go_ret2
      exact ⟨g', c', ret_vb HUB.out.symm, hb, by rw [HU.out]; exact HF.out, HB.out⟩

set_option maxHeartbeats 1000000 in
theorem sUsePaper_no (g n c : Nat) (ps : List DPaper) (kind sheets : Int) (w : World) (hl : ps.length = n) (hm : n ≤ 1048576) (hR : Row w g (n * 3) (pc ps)) (hu : useB ps kind sheets = false) :
    Calls Try.prog 45 #[.slice (some ⟨g, 0, none⟩) n c, .int .i64 kind, .int .i64 sheets] w (UseP w n ps kind sheets) := by
  have HU : Hid (useP ps kind sheets = ps) := Lib.hid (by unfold useP; rw [hu]; rfl)
  have HUB := Lib.hid hu
  have hno := useB_no hu
  have HR := Lib.hid hR
  have HL := Lib.hid hl
  rw [hl] at hno
  clear hR hl hu
  obtain ⟨i0, hi0, hz0, hz1, hz2⟩ := info_parts infoPaper
  rcases hno with ho | ⟨ho, h20⟩ | ⟨ho, h20, hs⟩ | ⟨ho, h20, hs, hls⟩
  · have HO := Lib.hid ho
    clear ho
    go_enter Try.func45, Try.ntmps45
    go_wp2_with (first | (at_builtin; refine wpList_append_own _ rfl _ _ 37 rfl w.heap.size 43 i0 _ 3 24 Try.underlying37 hi0 hz0 hz1 hz2 rfl (by decide) (.slice (some ⟨w.heap.size, 0, none⟩) 0 0) 0 [] rfl (owns_empty w _ 3) ⟨g, 0, none⟩ n c (rowL (pc ps) (n * 3)) rfl (rowL_length _ _) (rowL_news (HR.out.alloc _)) (rowL_one fun i _ => pc_one ps i) (by unfold maxLen; omega) (by omega) (by simp) ?_; intro v1 w1 own1 gr1 nn1; obtain ⟨g', c', rfl, hb, R2, B2⟩ := app_facts own1 gr1 nn1; clear own1 gr1 nn1) | (go_at_call 71; refine (l23Ok_any _ _ _ _ _ HL.out hm (HR.out.below B2.out HR.out.lt)).mono ?_; rw [HO.out]; rintro e w2 ⟨rfl, hb2⟩) | (go_at_call 50; refine (sSheetsLeft_any _ _ _ _ _ _ HL.out hm ((HR.out.below B2.out HR.out.lt).below hb2 (HR.out.below B2.out HR.out.lt).lt)).mono ?_; rintro e w3 ⟨rfl, hb3⟩))
    go_ret2
    exact ⟨g', c', ret_vb HUB.out.symm, hb, by rw [HU.out]; exact R2.out.below hb2 R2.out.lt, B2.out.trans (hb2.mono B2.out.size)⟩
  · have HO := Lib.hid ho
    clear ho
    have t1 : decide ((20 : Int) < (n : Int)) = true := by simp; omega
    go_enter Try.func45, Try.ntmps45
    go_wp2_with (first | (at_builtin; refine wpList_append_own _ rfl _ _ 37 rfl w.heap.size 43 i0 _ 3 24 Try.underlying37 hi0 hz0 hz1 hz2 rfl (by decide) (.slice (some ⟨w.heap.size, 0, none⟩) 0 0) 0 [] rfl (owns_empty w _ 3) ⟨g, 0, none⟩ n c (rowL (pc ps) (n * 3)) rfl (rowL_length _ _) (rowL_news (HR.out.alloc _)) (rowL_one fun i _ => pc_one ps i) (by unfold maxLen; omega) (by omega) (by simp) ?_; intro v1 w1 own1 gr1 nn1; obtain ⟨g', c', rfl, hb, R2, B2⟩ := app_facts own1 gr1 nn1; clear own1 gr1 nn1) | (go_at_call 71; refine (l23Ok_any _ _ _ _ _ HL.out hm (HR.out.below B2.out HR.out.lt)).mono ?_; rw [HO.out]; rintro e w2 ⟨rfl, hb2⟩) | (go_at_call 50; refine (sSheetsLeft_any _ _ _ _ _ _ HL.out hm ((HR.out.below B2.out HR.out.lt).below hb2 (HR.out.below B2.out HR.out.lt).lt)).mono ?_; rintro e w3 ⟨rfl, hb3⟩))
    go_ret2
    exact ⟨g', c', ret_vb HUB.out.symm, hb, by rw [HU.out]; exact R2.out.below hb2 R2.out.lt, B2.out.trans (hb2.mono B2.out.size)⟩
  · have HO := Lib.hid ho
    clear ho
    have t1 : decide ((20 : Int) < (n : Int)) = false := by simp; omega
    have t2 : decide (sheets < 0) = true := by simp; omega
    go_enter Try.func45, Try.ntmps45
    go_wp2_with (first | (at_builtin; refine wpList_append_own _ rfl _ _ 37 rfl w.heap.size 43 i0 _ 3 24 Try.underlying37 hi0 hz0 hz1 hz2 rfl (by decide) (.slice (some ⟨w.heap.size, 0, none⟩) 0 0) 0 [] rfl (owns_empty w _ 3) ⟨g, 0, none⟩ n c (rowL (pc ps) (n * 3)) rfl (rowL_length _ _) (rowL_news (HR.out.alloc _)) (rowL_one fun i _ => pc_one ps i) (by unfold maxLen; omega) (by omega) (by simp) ?_; intro v1 w1 own1 gr1 nn1; obtain ⟨g', c', rfl, hb, R2, B2⟩ := app_facts own1 gr1 nn1; clear own1 gr1 nn1) | (go_at_call 71; refine (l23Ok_any _ _ _ _ _ HL.out hm (HR.out.below B2.out HR.out.lt)).mono ?_; rw [HO.out]; rintro e w2 ⟨rfl, hb2⟩) | (go_at_call 50; refine (sSheetsLeft_any _ _ _ _ _ _ HL.out hm ((HR.out.below B2.out HR.out.lt).below hb2 (HR.out.below B2.out HR.out.lt).lt)).mono ?_; rintro e w3 ⟨rfl, hb3⟩))
    go_ret2
    exact ⟨g', c', ret_vb HUB.out.symm, hb, by rw [HU.out]; exact R2.out.below hb2 R2.out.lt, B2.out.trans (hb2.mono B2.out.size)⟩
  · have HO := Lib.hid ho
    clear ho
    have t1 : decide ((20 : Int) < (n : Int)) = false := by simp; omega
    have t2 : decide (sheets < 0) = false := by simp; omega
    have t3 : decide (leftOf ps kind < sheets) = true := by simp; omega
    go_enter Try.func45, Try.ntmps45
    go_wp2_with (first | (at_builtin; refine wpList_append_own _ rfl _ _ 37 rfl w.heap.size 43 i0 _ 3 24 Try.underlying37 hi0 hz0 hz1 hz2 rfl (by decide) (.slice (some ⟨w.heap.size, 0, none⟩) 0 0) 0 [] rfl (owns_empty w _ 3) ⟨g, 0, none⟩ n c (rowL (pc ps) (n * 3)) rfl (rowL_length _ _) (rowL_news (HR.out.alloc _)) (rowL_one fun i _ => pc_one ps i) (by unfold maxLen; omega) (by omega) (by simp) ?_; intro v1 w1 own1 gr1 nn1; obtain ⟨g', c', rfl, hb, R2, B2⟩ := app_facts own1 gr1 nn1; clear own1 gr1 nn1) | (go_at_call 71; refine (l23Ok_any _ _ _ _ _ HL.out hm (HR.out.below B2.out HR.out.lt)).mono ?_; rw [HO.out]; rintro e w2 ⟨rfl, hb2⟩) | (go_at_call 50; refine (sSheetsLeft_any _ _ _ _ _ _ HL.out hm ((HR.out.below B2.out HR.out.lt).below hb2 (HR.out.below B2.out HR.out.lt).lt)).mono ?_; rintro e w3 ⟨rfl, hb3⟩))
    go_ret2
    exact ⟨g', c', ret_vb HUB.out.symm, hb, by rw [HU.out]; exact (R2.out.below hb2 R2.out.lt).below hb3 (R2.out.below hb2 R2.out.lt).lt, B2.out.trans ((hb2.trans (hb3.mono hb2.size)).mono B2.out.size)⟩

set_option maxHeartbeats 1000000 in
theorem iUsePaper_no (g n c : Nat) (ps : List DPaper) (kind sheets : Int) (w : World) (hl : ps.length = n) (hm : n ≤ 1048576) (hR : Row w g (n * 3) (pc ps)) (hu : useB ps kind sheets = false) :
    Calls Try.prog 26 #[.slice (some ⟨g, 0, none⟩) n c, .int .i64 kind, .int .i64 sheets] w (UseP w n ps kind sheets) := by
  have HU : Hid (useP ps kind sheets = ps) := Lib.hid (by unfold useP; rw [hu]; rfl)
  have HUB := Lib.hid hu
  have hno := useB_no hu
  have HR := Lib.hid hR
  have HL := Lib.hid hl
  rw [hl] at hno
  clear hR hl hu
  obtain ⟨i0, hi0, hz0, hz1, hz2⟩ := info_parts infoPaper
  have hno' : (20 < n) ∨ (n ≤ 20 ∧ okAll ps = false) ∨ (n ≤ 20 ∧ okAll ps = true ∧ sheets < 0) ∨ (n ≤ 20 ∧ okAll ps = true ∧ 0 ≤ sheets ∧ leftOf ps kind < sheets) := by
    rcases hno with ho | ⟨ho, h⟩ | ⟨ho, h, h'⟩ | ⟨ho, h, h', h''⟩
    · by_cases h : 20 < n
      · exact .inl h
      · exact .inr (.inl ⟨by omega, ho⟩)
    · exact .inl h
    · exact .inr (.inr (.inl ⟨h, ho, h'⟩))
    · exact .inr (.inr (.inr ⟨h, ho, h', h''⟩))
  clear hno
  rcases hno' with h20 | ⟨h20, ho⟩ | ⟨h20, ho, hs⟩ | ⟨h20, ho, hs, hls⟩
  · have t1 : decide ((20 : Int) < (n : Int)) = true := by simp; omega
    go_enter Try.func26, Try.ntmps26
    go_wp2_with (first | (go_at_call 64; refine (clone_any _ _ _ _ _ HL.out hm HR.out).mono ?_; rintro e w1 ⟨g', c', rfl, hb, hR2, hB2⟩; have R2 := Lib.hid hR2; have B2 := Lib.hid hB2; clear hR2 hB2) | (go_at_call 63; refine (arePapers_any _ _ _ _ _ HL.out hm (HR.out.below B2.out HR.out.lt)).mono ?_; rw [HO.out]; rintro e w2 ⟨rfl, hb2⟩) | (go_at_call 25; refine (iSheetsLeft_any _ _ _ _ _ _ HL.out hm ((HR.out.below B2.out HR.out.lt).below hb2 (HR.out.below B2.out HR.out.lt).lt)).mono ?_; rintro e w3 ⟨rfl, hb3⟩))
    go_ret2
    exact ⟨g', c', ret_vb HUB.out.symm, hb, by rw [HU.out]; exact R2.out, B2.out⟩
  · have HO := Lib.hid ho
    clear ho
    have t1 : decide ((20 : Int) < (n : Int)) = false := by simp; omega
    go_enter Try.func26, Try.ntmps26
    go_wp2_with (first | (go_at_call 64; refine (clone_any _ _ _ _ _ HL.out hm HR.out).mono ?_; rintro e w1 ⟨g', c', rfl, hb, hR2, hB2⟩; have R2 := Lib.hid hR2; have B2 := Lib.hid hB2; clear hR2 hB2) | (go_at_call 63; refine (arePapers_any _ _ _ _ _ HL.out hm (HR.out.below B2.out HR.out.lt)).mono ?_; rw [HO.out]; rintro e w2 ⟨rfl, hb2⟩) | (go_at_call 25; refine (iSheetsLeft_any _ _ _ _ _ _ HL.out hm ((HR.out.below B2.out HR.out.lt).below hb2 (HR.out.below B2.out HR.out.lt).lt)).mono ?_; rintro e w3 ⟨rfl, hb3⟩))
    go_ret2
    exact ⟨g', c', ret_vb HUB.out.symm, hb, by rw [HU.out]; exact R2.out.below hb2 R2.out.lt, B2.out.trans (hb2.mono B2.out.size)⟩
  · have HO := Lib.hid ho
    clear ho
    have t1 : decide ((20 : Int) < (n : Int)) = false := by simp; omega
    have t2 : decide (sheets < 0) = true := by simp; omega
    go_enter Try.func26, Try.ntmps26
    go_wp2_with (first | (go_at_call 64; refine (clone_any _ _ _ _ _ HL.out hm HR.out).mono ?_; rintro e w1 ⟨g', c', rfl, hb, hR2, hB2⟩; have R2 := Lib.hid hR2; have B2 := Lib.hid hB2; clear hR2 hB2) | (go_at_call 63; refine (arePapers_any _ _ _ _ _ HL.out hm (HR.out.below B2.out HR.out.lt)).mono ?_; rw [HO.out]; rintro e w2 ⟨rfl, hb2⟩) | (go_at_call 25; refine (iSheetsLeft_any _ _ _ _ _ _ HL.out hm ((HR.out.below B2.out HR.out.lt).below hb2 (HR.out.below B2.out HR.out.lt).lt)).mono ?_; rintro e w3 ⟨rfl, hb3⟩))
    go_ret2
    exact ⟨g', c', ret_vb HUB.out.symm, hb, by rw [HU.out]; exact R2.out.below hb2 R2.out.lt, B2.out.trans (hb2.mono B2.out.size)⟩
  · have HO := Lib.hid ho
    clear ho
    have t1 : decide ((20 : Int) < (n : Int)) = false := by simp; omega
    have t2 : decide (sheets < 0) = false := by simp; omega
    have t3 : decide (leftOf ps kind < sheets) = true := by simp; omega
    go_enter Try.func26, Try.ntmps26
    go_wp2_with (first | (go_at_call 64; refine (clone_any _ _ _ _ _ HL.out hm HR.out).mono ?_; rintro e w1 ⟨g', c', rfl, hb, hR2, hB2⟩; have R2 := Lib.hid hR2; have B2 := Lib.hid hB2; clear hR2 hB2) | (go_at_call 63; refine (arePapers_any _ _ _ _ _ HL.out hm (HR.out.below B2.out HR.out.lt)).mono ?_; rw [HO.out]; rintro e w2 ⟨rfl, hb2⟩) | (go_at_call 25; refine (iSheetsLeft_any _ _ _ _ _ _ HL.out hm ((HR.out.below B2.out HR.out.lt).below hb2 (HR.out.below B2.out HR.out.lt).lt)).mono ?_; rintro e w3 ⟨rfl, hb3⟩))
    go_ret2
    exact ⟨g', c', ret_vb HUB.out.symm, hb, by rw [HU.out]; exact (R2.out.below hb2 R2.out.lt).below hb3 (R2.out.below hb2 R2.out.lt).lt, B2.out.trans ((hb2.trans (hb3.mono hb2.size)).mono B2.out.size)⟩

set_option maxHeartbeats 1000000 in
theorem iUsePaper_yes (g n c : Nat) (ps : List DPaper) (kind sheets : Int) (w : World) (hl : ps.length = n) (hm : n ≤ 1048576) (hR : Row w g (n * 3) (pc ps)) (hu : useB ps kind sheets = true) :
    Calls Try.prog 26 #[.slice (some ⟨g, 0, none⟩) n c, .int .i64 kind, .int .i64 sheets] w (UseP w n ps kind sheets) := by
  obtain ⟨ho, h20, hs0, hsl⟩ := useB_iff.1 hu
  have HU : Hid (useP ps kind sheets = used ps kind sheets) := Lib.hid (by unfold useP; rw [hu]; rfl)
  have HUB := Lib.hid hu
  have HR := Lib.hid hR
  have HL := Lib.hid hl
  have HO := Lib.hid ho
  have hlf : leftOf ps kind ≤ 100000 * 1048576 := by
    have e : leftOf ps kind = leftN ps kind ps.length := by unfold leftOf; rw [ho]; rfl
    have := (leftN_bd ho kind ps.length (Nat.le_refl _)).2
    rw [e]; omega
  rw [hl] at h20
  clear hR hl ho hu
  have t1 : decide ((20 : Int) < (n : Int)) = false := by simp; omega
  have t2 : decide (sheets < 0) = false := by simp; omega
  have t3 : decide (leftOf ps kind < sheets) = false := by simp; omega
  go_enter Try.func26, Try.ntmps26
  go_wp2_with (first | (go_at_call 64; refine (clone_any _ _ _ _ _ HL.out hm HR.out).mono ?_; rintro e w1 ⟨g', c', rfl, hb, hR2, hB2⟩; have R2 := Lib.hid hR2; have B2 := Lib.hid hB2; clear hR2 hB2) | (go_at_call 63; refine (arePapers_any _ _ _ _ _ HL.out hm (HR.out.below B2.out HR.out.lt)).mono ?_; rw [HO.out]; rintro e w2 ⟨rfl, hb2⟩) | (go_at_call 25; refine (iSheetsLeft_any _ _ _ _ _ _ HL.out hm ((HR.out.below B2.out HR.out.lt).below hb2 (HR.out.below B2.out HR.out.lt).lt)).mono ?_; rintro e w3 ⟨rfl, hb3⟩))
  have hB3 := Lib.hid (B2.out.trans ((hb2.trans (hb3.mono hb2.size)).mono B2.out.size))
  have hR3 := Lib.hid ((R2.out.below hb2 R2.out.lt).below hb3 (R2.out.below hb2 R2.out.lt).lt)
  have hR4 := Lib.hid (hR3.out.congr (d := fun i => if i < 0 * 3 then pc (used ps kind sheets) i else pc ps i) (fun i _ => by rw [if_neg (by omega)]))
  clear hb2 hb3 R2 B2 t1 t2 t3
  go_loopw [2, 36] (fun s i wr => ∃ k : Nat, k ≤ n ∧ i = .int .i64 k ∧ s = .int .i64 (rem ps kind sheets k) ∧ Row wr g' (n * 3) (fun i => if i < k * 3 then pc (used ps kind sheets) i else pc ps i) ∧ Below w.heap.size w wr) (fun _ i _ => n - (intOf i).toNat)
  case atStart => exact ⟨0, Nat.zero_le _, rfl, rfl, hR4.out, hB3.out⟩
  case round =>
    obtain ⟨k, hk, rfl, rfl, hR, hB⟩ := hrel
    have HB := Lib.hid hB
    have HW := Lib.hid hR
    clear hB hR
    by_cases hlt : k < n
    · have d0 := (HW.out.cell (i := k * 3) (by omega)).trans (congrArg some ((if_neg (by omega)).trans (pc0 ps k)))
      have d1 := (HW.out.cell (i := k * 3 + 1) (by omega)).trans (congrArg some ((if_neg (by omega)).trans (pc1 ps k)))
      have d2 := (HW.out.cell (i := k * 3 + 2) (by omega)).trans (congrArg some ((if_neg (by omega)).trans (pc2 ps k)))
      have hp := okAll_at HO.out (k := k) (by rw [HL.out]; exact hlt)
      unfold pOk at hp
      obtain ⟨_, _, _, _, p5, p6⟩ := paperOk_iff.1 hp
      obtain ⟨r1, r2⟩ := rem_bd HO.out (kind := kind) hs0 k (by rw [HL.out]; exact hk)
      clear hp
      by_cases hkd : (ps.getD k default).k = kind
      · have HY : Hid (rem ps kind sheets (k + 1) = rem ps kind sheets k - mn (rem ps kind sheets k) (ps.getD k default).s) := Lib.hid (by show (if _ then _ else _) = _; rw [if_pos hkd])
        have HC : Hid (∀ i, (if i = k * 3 + 2 then Value.int .i64 ((ps.getD k default).s - mn (rem ps kind sheets k) (ps.getD k default).s) else if i < k * 3 then pc (used ps kind sheets) i else pc ps i) = (if i < (k + 1) * 3 then pc (used ps kind sheets) i else pc ps i)) :=
          Lib.hid (fun i => (pc_use (by rw [HL.out]; exact hlt) hkd).symm)
        have hkd' : ((ps.getD k default).k == kind) = true := by simpa using hkd
        have f2 := HW.out.frozen (k * 3 + 2)
        have hg : g' < wr.heap.size := HW.out.lt
        clear hkd
        generalize ps.getD k default = q at d0 d1 d2 p5 p6 HY hkd' HC
        obtain ⟨qk, qg, qs⟩ := q
        simp only at d0 d1 d2 p5 p6 HY hkd' HC
        rw [mn_swap] at HY HC
        go_wp2
        go_roundw
        case rel => exact ⟨k + 1, by omega, by go_num, by rw [HY.out], ((HW.out.set _ _).congr fun i _ => HC.out i).alloc _, (HB.out.setCell hb _).alloc (by simpa using HB.out.size) _⟩
        case measure => simp [intOf]; omega
      · have HY : Hid (rem ps kind sheets (k + 1) = rem ps kind sheets k) := Lib.hid (by show (if _ then _ else _) = _; rw [if_neg hkd])
        have HN : Hid (Row wr g' (n * 3) (fun i => if i < (k + 1) * 3 then pc (used ps kind sheets) i else pc ps i)) :=
          Lib.hid (HW.out.congr fun i _ => (pc_keep (by rw [HL.out]; exact hlt) hkd).symm)
        have hkd' : ((ps.getD k default).k == kind) = false := by simpa using hkd
        clear hkd
        generalize ps.getD k default = q at d0 d1 d2 p5 p6 hkd'
        obtain ⟨qk, qg, qs⟩ := q
        simp only at d0 d1 d2 p5 p6 hkd'
        go_wp2
        go_roundw
        case rel => exact ⟨k + 1, by omega, by go_num, by rw [HY.out], HN.out.alloc _, HB.out.alloc HB.out.size _⟩
        case measure => simp [intOf]; omega
    · have hk' : k = n := by omega
      subst hk'
      have HF := Lib.hid (HW.out.congr (d := pc (used ps kind sheets)) (fun j hj => if_pos hj))
      clear HW
      go_wp2
      go_ret2
      exact ⟨g', c', ret_vb HUB.out.symm, hb, by rw [HU.out]; exact HF.out, HB.out⟩
theorem iUsePaper_any (g n c : Nat) (ps : List DPaper) (kind sheets : Int) (w : World) (hl : ps.length = n) (hm : n ≤ 1048576) (hR : Row w g (n * 3) (pc ps)) :
    Calls Try.prog 26 #[.slice (some ⟨g, 0, none⟩) n c, .int .i64 kind, .int .i64 sheets] w (UseP w n ps kind sheets) := by
  cases hu : useB ps kind sheets
  · exact iUsePaper_no g n c ps kind sheets w hl hm hR hu
  · exact iUsePaper_yes g n c ps kind sheets w hl hm hR hu
theorem sUsePaper_any (g n c : Nat) (ps : List DPaper) (kind sheets : Int) (w : World) (hl : ps.length = n) (hm : n ≤ 1048576) (hR : Row w g (n * 3) (pc ps)) :
    Calls Try.prog 45 #[.slice (some ⟨g, 0, none⟩) n c, .int .i64 kind, .int .i64 sheets] w (UseP w n ps kind sheets) := by
  cases hu : useB ps kind sheets
  · exact sUsePaper_no g n c ps kind sheets w hl hm hR hu
  · exact sUsePaper_yes g n c ps kind sheets w hl hm hR hu
end Go.Proofs.Ytoflcjgimkbgpaa
