/-
  Plain facts of a drawn book: its cards are thicker than two sheets; the guards that are needed are enough and none too many; the order is one of all cards, the thickest ahead.
  By an AI agent.
-/
import Derived.Test.YtjkcmjnejbobeaaTOrdJ
import Derived.Test.YtjkcmjnejbobeaaBookB
import Derived.Test.YtjkcmjnejbobeaaBookC
import Derived.Test.YtjkcmjnejbobeaaDrawB
namespace Go.Proofs.Ytjkcmjnejbobeaa
open Go.ChangeShapes Go.WideShapes Go.ChangeAt Go.RowKit Go.Joins Go.Deep
set_option maxRecDepth 100000
set_option linter.unusedVariables false

theorem lay_ge {s : ByteArray} {i j : Nat} (h : li s j = i) : ∀ k, j < k → 1 ≤ lay s k i := by
  intro k
  induction k with
  | zero => intro h; omega
  | succ k ih =>
    intro hj
    show 1 ≤ lay s k i + (if i = li s k then 1 else 0)
    have h0 := (lay_bd s k i).1
    by_cases e : j = k
    · subst e; rw [if_pos h.symm]; omega
    · have := ih (by omega)
      by_cases e2 : i = li s k
      · rw [if_pos e2]; omega
      · rw [if_neg e2]; omega
theorem mx_ge {f : Nat → Int} {i : Nat} : ∀ k, i < k → f i ≤ mx f k := by
  intro k
  induction k with
  | zero => intro h; omega
  | succ k ih =>
    intro hi
    by_cases e : mx f k < f k
    · rw [mx_yes e]
      by_cases e2 : i = k
      · rw [e2]; exact Int.le_refl _
      · have := ih (by omega); omega
    · rw [mx_no e]
      by_cases e2 : i = k
      · rw [e2]; omega
      · exact ih (by omega)
theorem thick_pos {s : ByteArray} (h : isStripB s = true) : 1 ≤ thick s := by
  obtain ⟨h2, _⟩ := strip_size h
  have hl : li s 0 < s.size := by
    rcases letters h (show 0 < s.size by omega) with a | a
    · exact (li_d h (by omega) a).2
    · exact (li_f h (by omega) a).2
  unfold thick
  rw [if_pos h]
  have h3 := lay_ge (s := s) (i := li s 0) (j := 0) rfl s.size (by omega)
  have h4 := mx_ge (f := lay s s.size) s.size hl
  omega
theorem tks_ge {ss : List ByteArray} {i : Nat} : ∀ k, i < k → thick (ss.getD i ByteArray.empty) ≤ tks ss k := by
  intro k
  induction k with
  | zero => intro h; omega
  | succ k ih =>
    intro hi
    by_cases e : tks ss k < thick (ss.getD k ByteArray.empty)
    · rw [tks_yes e]
      by_cases e2 : i = k
      · rw [e2]; exact Int.le_refl _
      · have := ih (by omega); omega
    · rw [tks_no e]
      by_cases e2 : i = k
      · rw [e2]; omega
      · exact ih (by omega)
/-- A drawn card. -/
def Drn (B : Nat) (x : DCard) : Prop := ∃ (d f : Nat) (w1 : World), x.d = (d : Int) ∧ x.f = (f : Int) ∧ DCd B d f x.n x.a x.ss w1
theorem Drn.modest {B : Nat} {x : DCard} (h : Drn B x) : x.modest := by
  obtain ⟨d, f, w1, h1, h2, h3⟩ := h
  exact ⟨h3.len, h3.room⟩
theorem Drn.ok {B : Nat} {x : DCard} (h : Drn B x) : cardOkB x.d x.f x.ss = true := by
  obtain ⟨d, f, w1, h1, h2, h3⟩ := h
  rw [h1, h2]
  exact h3.ok
theorem Drn.tks {B : Nat} {x : DCard} (h : Drn B x) : 1 ≤ tks x.ss x.ss.length ∧ tks x.ss x.ss.length ≤ 16 := by
  refine ⟨?_, (tks_bd _ _).2⟩
  have hok := cardOk_iff.1 h.ok
  have h1 := stripIn_iff.1 (allIn_at hok.2 (k := 0) (by omega))
  have hs : isStripB (x.ss.getD 0 ByteArray.empty) = true := by
    cases e : isStripB (x.ss.getD 0 ByteArray.empty)
    · have h2 := h1.1
      rw [downOf_f e] at h2
      omega
    · rfl
  have h2 := thick_pos hs
  have h3 := tks_ge (ss := x.ss) (i := 0) x.ss.length (by omega)
  omega
theorem mul_le160 {a b : Int} (h0 : 1 ≤ a) (h1 : a ≤ 16) (h2 : 1 ≤ b) (h3 : b ≤ 10) : 1 ≤ a * b ∧ a * b ≤ 160 := by
  have h4 := Int.mul_le_mul h1 h3 (by omega) (by omega)
  have h5 := Int.mul_le_mul h0 h2 (by omega) (by omega)
  omega
theorem Drn.tc {B : Nat} {x : DCard} (h : Drn B x) {sh : Int} (h1 : 1 ≤ sh) (h2 : sh ≤ 10) : 1 ≤ tc sh x - 2 * sh ∧ tc sh x - 2 * sh ≤ 160 := by
  obtain ⟨q0, q1⟩ := h.tks
  unfold Go.Proofs.Ytjkcmjnejbobeaa.tc
  rw [thk_yes h.ok h1 (by omega)]
  have := mul_le160 q0 q1 h1 h2
  rw [Int.add_mul]
  omega
/-- The guards of a card. -/
theorem guard_law {Q gd : Int} (h1 : 1 ≤ Q) (h2 : Q ≤ 160) (h3 : 1 ≤ gd) (h4 : gd ≤ 10) : 1 ≤ (Q + gd - 1).tdiv gd ∧ (Q + gd - 1).tdiv gd ≤ 170 ∧ Q ≤ (Q + gd - 1).tdiv gd * gd ∧ (Q + gd - 1).tdiv gd * gd ≤ 170 ∧ ((Q + gd - 1).tdiv gd - 1) * gd < Q ∧ 0 ≤ ((Q + gd - 1).tdiv gd - 1) * gd := by
  rw [Int.tdiv_eq_ediv_of_nonneg (by omega)]
  have a := Int.mul_ediv_self_le (x := Q + gd - 1) (k := gd) (by omega)
  have b := Int.lt_mul_ediv_self_add (x := Q + gd - 1) (k := gd) (by omega)
  have c : 1 ≤ (Q + gd - 1) / gd := by
    rw [Int.le_ediv_iff_mul_le (by omega)]
    omega
  have d : (Q + gd - 1) / gd ≤ Q + gd - 1 := Int.ediv_le_self _ (by omega)
  rw [Int.mul_comm gd] at a b
  have e := Int.mul_nonneg (show 0 ≤ (Q + gd - 1) / gd - 1 by omega) (show 0 ≤ gd by omega)
  rw [Int.sub_mul] at e ⊢
  omega
section
variable {B : Nat} {xs : List DCard} {sh gd : Int}
theorem drn_at (hd : ∀ x ∈ xs, Drn B x) {i : Nat} (hi : i < xs.length) : Drn B (xs.getD i default) := hd _ (by rw [getD_at _ _ hi]; exact List.getElem_mem hi)
theorem drn_tc (hd : ∀ x ∈ xs, Drn B x) (h1 : 1 ≤ sh) (h2 : sh ≤ 10) {i : Nat} (hi : i < xs.length) : 1 ≤ tcN xs sh i - 2 * sh ∧ tcN xs sh i - 2 * sh ≤ 160 := (drn_at hd hi).tc h1 h2
theorem drn_book (hd : ∀ x ∈ xs, Drn B x) (h1 : 1 ≤ sh) (h2 : sh ≤ 10) (hn : xs.length ≤ 20) : bookB xs sh = true := bookB_iff.2 ⟨hn, fun i hi => by have := drn_tc hd h1 h2 hi; omega⟩
theorem drn_gn (hd : ∀ x ∈ xs, Drn B x) (h1 : 1 ≤ sh) (h2 : sh ≤ 10) (h3 : 1 ≤ gd) (h4 : gd ≤ 10) {i : Nat} (hi : i < xs.length) : 1 ≤ gnN xs sh gd i ∧ gnN xs sh gd i ≤ 170 ∧ tcN xs sh i - 2 * sh ≤ gnN xs sh gd i * gd ∧ gnN xs sh gd i * gd ≤ 170 ∧ (gnN xs sh gd i - 1) * gd < tcN xs sh i - 2 * sh ∧ 0 ≤ (gnN xs sh gd i - 1) * gd := by
  obtain ⟨q0, q1⟩ := drn_tc hd h1 h2 hi
  exact guard_law q0 q1 h3 h4
theorem one_swell (hd : ∀ x ∈ xs, Drn B x) (h1 : 1 ≤ sh) (h2 : sh ≤ 10) (h3 : 1 ≤ gd) (h4 : gd ≤ 10) {i : Nat} (hi : i < xs.length) {z : Int} (hz0 : 0 ≤ z) (hz1 : z ≤ 170) : swellB [xs.getD i default] sh gd [z] = decide (2 * sh + gd * z < tcN xs sh i) := by
  have hx := drn_at hd hi
  rw [swell_yes (drn_book (B := B) (fun x hx' => by rw [List.mem_singleton.1 hx']; exact hx) h1 h2 (by simp)) h3 (by omega) rfl (gok_iff.2 fun j hj => by
    have : j = 0 := by simp at hj; exact hj
    subst this
    show 0 ≤ z ∧ z ≤ 1000
    omega)]
  refine decide_eq_decide.2 ?_
  show (0 + (2 * sh + gd * z) < 0 + tc sh (xs.getD i default)) ↔ _
  unfold tcN
  omega
theorem one_yes (hd : ∀ x ∈ xs, Drn B x) (h1 : 1 ≤ sh) (h2 : sh ≤ 10) (h3 : 1 ≤ gd) (h4 : gd ≤ 10) {i : Nat} (hi : i < xs.length) : swellB [xs.getD i default] sh gd [gnN xs sh gd i - 1] = true := by
  obtain ⟨a, b, c, d, e, f⟩ := drn_gn hd h1 h2 h3 h4 hi
  rw [one_swell hd h1 h2 h3 h4 hi (by omega) (by omega), Int.mul_comm gd]
  exact decide_eq_true (by omega)
theorem one_no (hd : ∀ x ∈ xs, Drn B x) (h1 : 1 ≤ sh) (h2 : sh ≤ 10) (h3 : 1 ≤ gd) (h4 : gd ≤ 10) {i : Nat} (hi : i < xs.length) : swellB [xs.getD i default] sh gd [gnN xs sh gd i] = false := by
  obtain ⟨a, b, c, d, e, f⟩ := drn_gn hd h1 h2 h3 h4 hi
  rw [one_swell hd h1 h2 h3 h4 hi (by omega) (by omega), Int.mul_comm gd]
  exact decide_eq_false (by omega)
theorem gl_at {n i : Nat} (h : i < n) : (gl xs sh gd n).getD i 0 = gnN xs sh gd i := by unfold gl; simp [List.getD, h]
theorem all_no (hd : ∀ x ∈ xs, Drn B x) (h1 : 1 ≤ sh) (h2 : sh ≤ 10) (h3 : 1 ≤ gd) (h4 : gd ≤ 10) (hn : xs.length ≤ 20) : swellB xs sh gd (gl xs sh gd xs.length) = false := by
  have hl := gl_len xs sh gd xs.length
  rw [swell_yes (drn_book hd h1 h2 hn) h3 (by omega) hl (gok_iff.2 fun j hj => by
    rw [hl] at hj
    rw [gl_at hj]
    have := drn_gn hd h1 h2 h3 h4 hj
    omega)]
  refine decide_eq_false ?_
  have H : ∀ k, k ≤ xs.length → sumT xs sh k ≤ sumG sh gd (gl xs sh gd xs.length) k := by
    intro k
    induction k with
    | zero => intro _; exact Int.le_refl _
    | succ k ih =>
      intro hk
      have h5 := ih (by omega)
      show sumT xs sh k + tcN xs sh k ≤ sumG sh gd _ k + (2 * sh + gd * (gl xs sh gd xs.length).getD k 0)
      rw [gl_at (by omega), Int.mul_comm gd]
      have := drn_gn hd h1 h2 h3 h4 (i := k) (by omega)
      omega
  have := H xs.length (Nat.le_refl _)
  omega
theorem sumT_up (hd : ∀ x ∈ xs, Drn B x) (h1 : 1 ≤ sh) (h2 : sh ≤ 10) : ∀ k j, j ≤ k → k ≤ xs.length → sumT xs sh j + (k - j : Nat) ≤ sumT xs sh k := by
  intro k j
  induction k with
  | zero => intro h _; rw [show j = 0 by omega]; simp
  | succ k ih =>
    intro h hk
    by_cases e : j = k + 1
    · subst e; simp
    · have := ih (by omega) (by omega)
      have h3 := drn_tc hd h1 h2 (i := k) (by omega)
      show _ ≤ sumT xs sh k + tcN xs sh k
      omega
theorem cif_all (hd : ∀ x ∈ xs, Drn B x) (h1 : 1 ≤ sh) (h2 : sh ≤ 10) {W : Int} (hW : sumT xs sh xs.length ≤ W) : ∀ m k, m + k = xs.length → cif W xs sh m k = xs.length := by
  intro m
  induction m with
  | zero => intro k hk; rw [cif_zero]; omega
  | succ m ih =>
    intro k hk
    have h3 := sumT_up hd h1 h2 xs.length (k + 1) (by omega) (Nat.le_refl _)
    have h4 := cif_go (W := W) (xs := xs) (sh := sh) (n := xs.length) (k := k) (by omega) (by omega)
    rw [show xs.length - k = m + 1 by omega, show xs.length - (k + 1) = m by omega] at h4
    rw [h4]
    exact ih (k + 1) (by omega)
theorem cif_less (hd : ∀ x ∈ xs, Drn B x) (h1 : 1 ≤ sh) (h2 : sh ≤ 10) {W : Int} (hW : W = sumT xs sh xs.length - 1) : ∀ m k, m + k = xs.length → 0 < m → cif W xs sh m k = xs.length - 1 := by
  intro m
  induction m with
  | zero => intro k _ h; omega
  | succ m ih =>
    intro k hk _
    by_cases e : m = 0
    · subst e
      rw [cif_stop (by rw [show k + 1 = xs.length by omega]; omega) (by omega)]
      omega
    · have h3 := sumT_up hd h1 h2 xs.length (k + 1) (by omega) (Nat.le_refl _)
      have h4 := cif_go (W := W) (xs := xs) (sh := sh) (n := xs.length) (k := k) (by omega) (by omega)
      rw [show xs.length - k = m + 1 by omega, show xs.length - (k + 1) = m by omega] at h4
      rw [h4]
      exact ih (k + 1) (by omega) (by omega)
theorem ci_all (hd : ∀ x ∈ xs, Drn B x) (h1 : 1 ≤ sh) (h2 : sh ≤ 10) (hn : xs.length ≤ 20) : ciR (sumT xs sh xs.length) xs sh = (xs.length : Nat) := by
  have h3 := sumT_up hd h1 h2 xs.length 0 (Nat.zero_le _) (Nat.le_refl _)
  have h0 : sumT xs sh 0 = 0 := rfl
  rw [ciR_yes (drn_book hd h1 h2 hn) (by omega), cif_all hd h1 h2 (Int.le_refl _) _ _ (Nat.add_zero _)]
theorem ci_less (hd : ∀ x ∈ xs, Drn B x) (h1 : 1 ≤ sh) (h2 : sh ≤ 10) (hn : xs.length ≤ 20) (h0 : 0 < xs.length) : ciR (sumT xs sh xs.length - 1) xs sh = ((xs.length - 1 : Nat) : Int) := by
  have h3 := sumT_up hd h1 h2 xs.length 0 (Nat.zero_le _) (Nat.le_refl _)
  have h4 : sumT xs sh 0 = 0 := rfl
  rw [ciR_yes (drn_book hd h1 h2 hn) (by omega), cif_less hd h1 h2 rfl _ _ (Nat.add_zero _) h0]
end
/-! ### The bits of the order -/
def snF (o : Nat → Nat) : Nat → Int
  | 0 => 0
  | j + 1 => bits .or .i64 (snF o j) (2 ^ (o j))
def s4 (a b c d : Nat) (n : Nat) : Int := snF (fun i => if i = 0 then a else if i = 1 then b else if i = 2 then c else d) n
theorem snF_congr {o p : Nat → Nat} : ∀ n, (∀ i, i < n → o i = p i) → snF o n = snF p n := by
  intro n
  induction n with
  | zero => intro _; rfl
  | succ n ih => intro h; show bits _ _ _ _ = bits _ _ _ _; rw [ih (fun i hi => h i (by omega)), h n (by omega)]
theorem s4_all : (∀ a : Fin 1, s4 a.val 0 0 0 1 = 1) ∧ (∀ a b : Fin 2, a ≠ b → s4 a.val b.val 0 0 2 = 3) ∧ (∀ a b c : Fin 3, a ≠ b → a ≠ c → b ≠ c → s4 a.val b.val c.val 0 3 = 7) ∧ (∀ a b c d : Fin 4, (a ≠ b ∧ a ≠ c ∧ a ≠ d ∧ b ≠ c ∧ b ≠ d ∧ c ≠ d) → s4 a.val b.val c.val d.val 4 = 15) := by
  refine ⟨by decide +kernel, by decide +kernel, by decide +kernel, by decide +kernel⟩
theorem snF_all {o : Nat → Nat} {n : Nat} (hn : n ≤ 4) (hlt : ∀ i, i < n → o i < n) (hinj : ∀ a b, a < b → b < n → o a ≠ o b) : snF o n = 2 ^ n - 1 := by
  obtain ⟨h1, h2, h3, h4⟩ := s4_all
  have hc : n = 0 ∨ n = 1 ∨ n = 2 ∨ n = 3 ∨ n = 4 := by omega
  have key : ∀ a b c d, (∀ i, i < n → o i = if i = 0 then a else if i = 1 then b else if i = 2 then c else d) → snF o n = s4 a b c d n := fun a b c d h => snF_congr n h
  rcases hc with rfl | rfl | rfl | rfl | rfl
  · rfl
  · rw [key (o 0) 0 0 0 (fun i hi => by rw [show i = 0 by omega]; rfl)]
    exact h1 ⟨o 0, hlt 0 (by omega)⟩
  · rw [key (o 0) (o 1) 0 0 (fun i hi => by
      have : i = 0 ∨ i = 1 := by omega
      rcases this with rfl | rfl <;> rfl)]
    exact h2 ⟨o 0, hlt 0 (by omega)⟩ ⟨o 1, hlt 1 (by omega)⟩ (fun e => hinj 0 1 (by omega) (by omega) (Fin.mk.inj_iff.1 e))
  · rw [key (o 0) (o 1) (o 2) 0 (fun i hi => by
      have : i = 0 ∨ i = 1 ∨ i = 2 := by omega
      rcases this with rfl | rfl | rfl <;> rfl)]
    exact h3 ⟨o 0, hlt 0 (by omega)⟩ ⟨o 1, hlt 1 (by omega)⟩ ⟨o 2, hlt 2 (by omega)⟩ (fun e => hinj 0 1 (by omega) (by omega) (Fin.mk.inj_iff.1 e)) (fun e => hinj 0 2 (by omega) (by omega) (Fin.mk.inj_iff.1 e)) (fun e => hinj 1 2 (by omega) (by omega) (Fin.mk.inj_iff.1 e))
  · rw [key (o 0) (o 1) (o 2) (o 3) (fun i hi => by
      have : i = 0 ∨ i = 1 ∨ i = 2 ∨ i = 3 := by omega
      rcases this with rfl | rfl | rfl | rfl <;> rfl)]
    exact h4 ⟨o 0, hlt 0 (by omega)⟩ ⟨o 1, hlt 1 (by omega)⟩ ⟨o 2, hlt 2 (by omega)⟩ ⟨o 3, hlt 3 (by omega)⟩ ⟨fun e => hinj 0 1 (by omega) (by omega) (Fin.mk.inj_iff.1 e), fun e => hinj 0 2 (by omega) (by omega) (Fin.mk.inj_iff.1 e), fun e => hinj 0 3 (by omega) (by omega) (Fin.mk.inj_iff.1 e), fun e => hinj 1 2 (by omega) (by omega) (Fin.mk.inj_iff.1 e), fun e => hinj 1 3 (by omega) (by omega) (Fin.mk.inj_iff.1 e), fun e => hinj 2 3 (by omega) (by omega) (Fin.mk.inj_iff.1 e)⟩
/-- From both ends in turn: each once. -/
theorem zg_lt {f : Nat → Nat} {n t : Nat} (hf : ∀ i, i < n → f i < n) (ht : t < n) : zgF f n t < n := by
  unfold zgF
  by_cases h : t % 2 = 0
  · rw [if_pos h]; exact hf _ (by omega)
  · rw [if_neg h]; exact hf _ (by omega)
theorem zg_inj {f : Nat → Nat} {n : Nat} (hf : ∀ a b, a < b → b < n → f a ≠ f b) {s t : Nat} (hst : s < t) (ht : t < n) : zgF f n s ≠ zgF f n t := by
  have hf' : ∀ a b, a < n → b < n → a ≠ b → f a ≠ f b := fun a b ha hb hne e => by
    rcases Nat.lt_trichotomy a b with h | h | h
    · exact hf a b h hb e
    · exact hne h
    · exact hf b a h ha e.symm
  unfold zgF
  by_cases h : s % 2 = 0 <;> by_cases h' : t % 2 = 0
  · rw [if_pos h, if_pos h']; exact hf' _ _ (by omega) (by omega) (by omega)
  · rw [if_pos h, if_neg h']; exact hf' _ _ (by omega) (by omega) (by omega)
  · rw [if_neg h, if_pos h']; exact hf' _ _ (by omega) (by omega) (by omega)
  · rw [if_neg h, if_neg h']; exact hf' _ _ (by omega) (by omega) (by omega)
end Go.Proofs.Ytjkcmjnejbobeaa
