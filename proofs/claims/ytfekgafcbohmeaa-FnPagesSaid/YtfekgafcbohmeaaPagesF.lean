/-
  A book's pages: how often each is printed, and contracts of OpensWith, BlankPages, big and at.
  By an AI agent.
-/
import Derived.Test.YtfekgafcbohmeaaPageN
import Derived.Test.YtfekgafcbohmeaaMem
namespace Go.Proofs.Ytfekgafcbohmeaa
open Go.ChangeShapes Go.WideShapes Go.ChangeAt Go.RowKit
set_option maxRecDepth 100000
set_option linter.unusedVariables false

def ind (a q : Int) : Int := if a = q then 1 else 0
/-- How often page q came in the first t sides (0: a blank one). -/
def cN (P : Int) : Nat → Int → Int
  | 0, _ => 0
  | t + 1, q => cN P t q + ind (sideL P (t / 2 : Nat) (t % 2 : Nat)) q + ind (sideR P (t / 2 : Nat) (t % 2 : Nat)) q
def sm (f : Int → Int) : Nat → Int
  | 0 => 0
  | k + 1 => sm f k + f k
theorem sm_add (f g : Int → Int) (k : Nat) : sm (fun q => f q + g q) k = sm f k + sm g k := by
  induction k with
  | zero => rfl
  | succ k ih => show sm _ k + (f k + g k) = (sm f k + f k) + (sm g k + g k); rw [ih]; omega
theorem sm_ind (a : Int) (k : Nat) : sm (ind a) k = if 0 ≤ a ∧ a < k then 1 else 0 := by
  induction k with
  | zero => rw [if_neg (by omega)]; rfl
  | succ k ih =>
    show sm (ind a) k + ind a k = _
    rw [ih]; unfold ind
    push_cast
    by_cases h : a = (k : Int)
    · rw [if_neg (by omega), if_pos h, if_pos (by omega)]; rfl
    · rw [if_neg h]
      by_cases h2 : 0 ≤ a ∧ a < (k : Int)
      · rw [if_pos h2, if_pos (by omega)]; rfl
      · rw [if_neg h2, if_neg (by omega)]; rfl
theorem sm_cN {P : Int} (h1 : 1 ≤ P) (h2 : P ≤ 400) (t : Nat) (ht : (t : Int) ≤ 2 * shq P) : sm (cN P t) (P.toNat + 1) = 2 * t := by
  induction t with
  | zero =>
    have : ∀ k, sm (cN P 0) k = 0 := by
      intro k
      induction k with
      | zero => rfl
      | succ k ih => show sm _ k + 0 = 0; rw [ih]; rfl
    rw [this]; rfl
  | succ t ih =>
    have e : cN P (t + 1) = fun q => (cN P t q + ind (sideL P (t / 2 : Nat) (t % 2 : Nat)) q) + ind (sideR P (t / 2 : Nat) (t % 2 : Nat)) q := rfl
    have hb := side_bd (s := ((t / 2 : Nat) : Int)) (d := ((t % 2 : Nat) : Int)) h1 (by omega) (by omega)
    rw [e, sm_add, sm_add, ih (by omega), sm_ind, sm_ind, if_pos (by omega), if_pos (by omega)]
    push_cast; omega
theorem ind_side {P p s d : Int} (h1 : 1 ≤ P) (h3 : 1 ≤ p) (h4 : p ≤ P) (h5 : 0 ≤ s) (h6 : s < shq P) (h7 : d = 0 ∨ d = 1) :
    ind (sideL P s d) p + ind (sideR P s d) p = if s = shOf P p ∧ d = sdOf P p then 1 else 0 := by
  have hm := side_match h1 h3 h4 h5 h6 h7
  have hne : ¬ (sideL P s d = p ∧ sideR P s d = p) := by
    rintro ⟨a, b⟩
    unfold sideL real at a
    unfold sideR real at b
    rcases h7 with rfl | rfl
    · simp only [if_true] at a b
      split at a <;> split at b <;> omega
    · rw [if_neg (by omega)] at a b
      split at a <;> split at b <;> omega
  unfold ind
  by_cases hl : sideL P s d = p
  · rw [if_pos hl, if_neg (fun h => hne ⟨hl, h⟩), if_pos (hm.1 (.inl hl))]; rfl
  · by_cases hr : sideR P s d = p
    · rw [if_neg hl, if_pos hr, if_pos (hm.1 (.inr hr))]; rfl
    · rw [if_neg hl, if_neg hr, if_neg (fun h => (hm.2 h).elim hl hr)]; rfl
theorem cN_page {P p : Int} (h1 : 1 ≤ P) (h2 : P ≤ 400) (h3 : 1 ≤ p) (h4 : p ≤ P) (t : Nat) (ht : (t : Int) ≤ 2 * shq P) : cN P t p = if 2 * shOf P p + sdOf P p < t then 1 else 0 := by
  obtain ⟨b1, b2, b3⟩ := sh_bd h3 h4
  induction t with
  | zero => rw [if_neg (by omega)]; rfl
  | succ t ih =>
    show cN P t p + ind _ p + ind _ p = _
    have := ind_side (s := ((t / 2 : Nat) : Int)) (d := ((t % 2 : Nat) : Int)) h1 h3 h4 (by omega) (by omega) (by omega)
    rw [Int.add_assoc, this, ih (by omega)]
    push_cast
    by_cases e : ((t : Int) / 2 = shOf P p ∧ (t : Int) % 2 = sdOf P p)
    · rw [if_pos e, if_neg (by omega), if_pos (by omega)]; rfl
    · rw [if_neg e]
      by_cases h : 2 * shOf P p + sdOf P p < t
      · rw [if_pos h, if_pos (by omega)]; rfl
      · rw [if_neg h, if_neg (by omega)]; rfl
theorem cN_one {P p : Int} (h1 : 1 ≤ P) (h2 : P ≤ 400) (h3 : 1 ≤ p) (h4 : p ≤ P) (t : Nat) (ht : (t : Int) = 2 * shq P) : cN P t p = 1 := by
  obtain ⟨b1, b2, b3⟩ := sh_bd h3 h4
  rw [cN_page h1 h2 h3 h4 t (by omega), if_pos (by omega)]
theorem cN_blank {P : Int} (h1 : 1 ≤ P) (h2 : P ≤ 400) (t : Nat) (ht : (t : Int) = 2 * shq P) : cN P t 0 = 4 * shq P - P := by
  have hs := sm_cN h1 h2 t (by omega)
  have : ∀ k : Nat, (k : Int) ≤ P → sm (cN P t) (k + 1) = cN P t 0 + k := by
    intro k
    induction k with
    | zero => intro _; show sm _ 0 + cN P t ((0 : Nat) : Int) = _; show 0 + cN P t 0 = _; simp
    | succ k ih =>
      intro hk
      show sm _ (k + 1) + cN P t ((k + 1 : Nat) : Int) = _
      push_cast at hk
      rw [ih (by omega), cN_one (p := ((k + 1 : Nat) : Int)) h1 h2 (by omega) (by omega) t ht]
      push_cast; omega
  rw [this P.toNat (by omega)] at hs
  omega
theorem cN_bd (P : Int) (t : Nat) (q : Int) : 0 ≤ cN P t q ∧ cN P t q ≤ 2 * t := by
  induction t with
  | zero => exact ⟨Int.le_refl _, Int.le_refl _⟩
  | succ t ih =>
    show 0 ≤ cN P t q + ind _ q + ind _ q ∧ cN P t q + ind _ q + ind _ q ≤ _
    unfold ind
    push_cast
    split <;> split <;> omega
/-- The cells of the count. -/
def kc (f : Int → Int) (i : Nat) : Value := .int .i64 (f i)
theorem kc_set {w : World} {g n : Nat} {f : Int → Int} {a v : Int} (h : Row w g n (kc f)) (ha : 0 ≤ a) (hv : v = f a + 1) : Row (w.setCell ⟨g, a.toNat, none⟩ (.int .i64 v)) g n (kc (fun q => f q + ind a q)) := by
  refine (h.set _ _).congr fun i _ => ?_
  unfold kc ind
  by_cases e : i = a.toNat
  · subst e
    have : ((a.toNat : Nat) : Int) = a := by omega
    rw [if_pos rfl]
    show Value.int .i64 v = .int .i64 (f ((a.toNat : Nat) : Int) + if a = ((a.toNat : Nat) : Int) then 1 else 0)
    rw [this, if_pos rfl, hv]
  · rw [if_neg e]
    show Value.int .i64 (f i) = .int .i64 (f i + if a = (i : Int) then 1 else 0)
    rw [if_neg (by omega)]; simp
def opP (P p : Int) : Int := if p % 2 = 1 then p - 1 else if p = P then 0 else p + 1
theorem opP_bd {P p : Int} (h3 : 1 ≤ p) (h4 : p ≤ P) : 0 ≤ opP P p ∧ opP P p ≤ P := by unfold opP; split <;> first | omega | (split <;> omega)
theorem opP_back {P p : Int} (h3 : 1 ≤ p) (h4 : p ≤ P) (h : 0 < opP P p) : opP P (opP P p) = p := by
  unfold opP at *
  split at h
  · rename_i e; rw [if_pos e, if_neg (by omega), if_neg (by omega)]; omega
  · rename_i e
    split at h
    · omega
    · rename_i e2; rw [if_neg e, if_neg e2, if_pos (by omega)]; omega
theorem iOpensWith_any (P p : Int) (w : World) (h1 : 1 ≤ P) (h2 : P ≤ 400) (h3 : 1 ≤ p) (h4 : p ≤ P) :
    Calls Try.prog 20 #[.int .i64 P, .int .i64 p] w fun e w' => e = .returned (.int .i64 (opP P p)) ∧ w = w' := by
  have A : (p % 2 = 1 ∧ p = 1) ∨ (p % 2 = 1 ∧ 1 < p) ∨ (p % 2 = 0 ∧ p = P) ∨ (p % 2 = 0 ∧ p < P) := by omega
  have E2 : p % 2 = 1 → (p % 2 == 0) = false := fun h => by rw [h]; rfl
  have E4 : p % 2 = 0 → (p % 2 == 0) = true := fun h => by rw [h]; rfl
  rcases A with ⟨h, rfl⟩ | ⟨h, h5⟩ | ⟨h, rfl⟩ | ⟨h, h5⟩
  · have HV : opP P 1 = 0 := by unfold opP; rw [if_pos h]; rfl
    rw [HV]
    clear E4 E2 h HV
    go_enter Try.func20, Try.ntmps20
    go_wp2_with (go_at_call 49; (first | refine (within_t _ _ _ _ (by omega) (by omega)).mono ?_ | refine (within_f _ _ _ _ (by omega)).mono ?_); rintro e w' ⟨rfl, rfl⟩)
    go_ret
    exact ⟨rfl, rfl⟩
  · have HV : opP P p = p - 1 := by unfold opP; rw [if_pos h]
    rw [HV]
    have e := E2 h
    clear E4 E2 h HV
    go_enter Try.func20, Try.ntmps20
    go_wp2_with (go_at_call 49; (first | refine (within_t _ _ _ _ (by omega) (by omega)).mono ?_ | refine (within_f _ _ _ _ (by omega)).mono ?_); rintro e w' ⟨rfl, rfl⟩)
    go_ret
    exact ⟨rfl, rfl⟩
  · have HV : opP p p = 0 := by unfold opP; rw [if_neg (by omega), if_pos rfl]
    rw [HV]
    have e := E4 h
    clear E4 E2 h HV
    go_enter Try.func20, Try.ntmps20
    go_wp2_with (go_at_call 49; (first | refine (within_t _ _ _ _ (by omega) (by omega)).mono ?_ | refine (within_f _ _ _ _ (by omega)).mono ?_); rintro e w' ⟨rfl, rfl⟩)
    go_ret
    exact ⟨rfl, rfl⟩
  · have HV : opP P p = p + 1 := by unfold opP; rw [if_neg (by omega), if_neg (by omega)]
    rw [HV]
    have e := E4 h
    clear E4 E2 h HV
    go_enter Try.func20, Try.ntmps20
    go_wp2_with (go_at_call 49; (first | refine (within_t _ _ _ _ (by omega) (by omega)).mono ?_ | refine (within_f _ _ _ _ (by omega)).mono ?_); rintro e w' ⟨rfl, rfl⟩)
    go_ret
    exact ⟨rfl, rfl⟩
theorem iBlankPages_any (P : Int) (w : World) (h1 : 1 ≤ P) (h2 : P ≤ 400) :
    Calls Try.prog 18 #[.int .i64 P] w fun e w' => e = .returned (.int .i64 (4 * shq P - P)) ∧ w = w' := by
  obtain ⟨q1, q2, q3, q4⟩ := shq_bd h1 h2
  have e1 : (shq P == 0) = false := by simp; omega
  go_enter Try.func18, Try.ntmps18
  go_wp2_with (go_at_call 16; refine (iSheetsOfBook_any _ _ h1 h2).mono ?_; rintro e w' ⟨rfl, rfl⟩)
  go_ret
  exact ⟨rfl, rfl⟩
theorem at_any (a : Option Addr) (len cap : Nat) (zs : List Int) (i : Nat) (w : World) (hi : i ≤ 10) (h : IsRow .u8 w a len cap zs) :
    Calls Try.prog 26 #[.slice a len cap, .int .i64 i] w fun e w' => (∃ v : Int, e = .returned (.int .i64 v) ∧ 0 ≤ v ∧ v ≤ 255) ∧ w = w' := by
  obtain ⟨hm, hc⟩ := h.cells
  unfold maxLen at hm
  by_cases h0 : len = 0
  · subst h0
    clear hc
    go_enter Try.func26, Try.ntmps26
    go_wp2
    go_ret
    exact ⟨⟨0, rfl, by omega, by omega⟩, rfl⟩
  · obtain ⟨b, off, rfl, hcc⟩ := hc (by omega)
    have hj : (i * 5 + 1) % len < len := Nat.mod_lt _ (by omega)
    have c0 := hcc _ hj
    have hv : 0 ≤ zs.getD ((i * 5 + 1) % len) 0 ∧ zs.getD ((i * 5 + 1) % len) 0 ≤ 255 := by
      rcases h with ⟨ha, _⟩ | ⟨x, ha, hl, hm', hz, _, hw⟩
      · cases ha
      · have := hw (zs.getD ((i * 5 + 1) % len) 0) (by rw [getD_at _ _ (by omega)]; exact List.getElem_mem (by omega))
        unfold Lit.wf at this
        simp only [Bool.and_eq_true, decide_eq_true_eq] at this
        have h1 := this.1
        have h2 := this.2
        rw [show IntKind.u8.min = 0 from rfl] at h1
        rw [show IntKind.u8.max = 255 from rfl] at h2
        exact ⟨h1, h2⟩
    clear hc hcc h
    have e1 : ((i : Int) * 5 + 1) % (len : Int) = (((i * 5 + 1) % len : Nat) : Int) := by push_cast; rfl
    have e2 : (((i : Int) * 5 + 1) % (len : Int)).toNat = (i * 5 + 1) % len := by rw [e1]; exact Int.toNat_natCast _
    have e0 : ((len : Int) == 0) = false := by simp; omega
    generalize (i * 5 + 1) % len = j at *
    generalize zs.getD j 0 = v at *
    obtain ⟨v0, v1⟩ := hv
    have j0 : (0 : Int) ≤ (j : Int) := Int.natCast_nonneg _
    have j1 : (j : Int) < (len : Int) := by omega
    go_enter Try.func26, Try.ntmps26
    go_wp2
    go_ret
    exact ⟨⟨v, rfl, v0, v1⟩, rfl⟩
theorem big_any (a : Option Addr) (len cap : Nat) (w : World) (hm : len ≤ maxLen) :
    Calls Try.prog 25 #[.slice a len cap] w fun e w' => e = .returned (.bool (decide (1048576 < (len : Int)))) ∧ w = w' := by
  unfold maxLen at hm
  go_enter Try.func25, Try.ntmps25
  go_wp2
  go_ret
  exact ⟨rfl, rfl⟩
end Go.Proofs.Ytfekgafcbohmeaa
