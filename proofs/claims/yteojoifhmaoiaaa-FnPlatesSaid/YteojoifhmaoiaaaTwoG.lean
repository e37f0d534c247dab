/-
  The plain law of two colors: where a letter parts all pairs, the colors part them too, and all are colored. No program in sight.
  By an AI agent.
-/
import Derived.Test.YteojoifhmaoiaaaTwoL
namespace Go.Proofs.Yteojoifhmaoiaaa
open Go.ChangeShapes Go.WideShapes Go.ChangeAt Go.RowKit
set_option linter.unusedVariables false

section
variable {p q : Nat → Nat}
theorem chg_no {o : List Int} : ∀ n, chg p q o n = false → ∀ j, j ≤ n → swp p q o j = o := by
  intro n
  induction n with
  | zero => intro _ j hj; rw [show j = 0 by omega]; rfl
  | succ n ih =>
    intro h j hj
    have h1 : chg p q o n = false ∧ tns (swp p q o n) (p n) (q n) = false := by
      have : (chg p q o n || tns (swp p q o n) (p n) (q n)) = false := h
      exact Bool.or_eq_false_iff.1 this
    by_cases e : j = n + 1
    · subst e
      show stp (swp p q o n) (p n) (q n) = o
      rw [stp_no h1.2]; exact ih h1.1 n (Nat.le_refl _)
    · exact ih h1.1 j (by omega)
theorem chg_each {o : List Int} : ∀ n, chg p q o n = false → ∀ j, j < n → tns o (p j) (q j) = false := by
  intro n h j hj
  have hs := chg_no n h
  have h2 : chg p q o (j + 1) = false := by
    clear hs
    induction n with
    | zero => omega
    | succ n ih =>
      by_cases e : j = n
      · subst e; exact h
      · have : (chg p q o n || tns (swp p q o n) (p n) (q n)) = false := h
        exact ih (Bool.or_eq_false_iff.1 this).1 (by omega)
  have h3 : (chg p q o j || tns (swp p q o j) (p j) (q j)) = false := h2
  have h4 := (Bool.or_eq_false_iff.1 h3).2
  rw [hs j (by omega)] at h4
  exact h4
/-- Where a sweep turns nothing, no pair is half colored. -/
theorem fix_each {o : List Int} (h : okc o) {n : Nat} (hpq : ∀ j, j < n → p j < o.length ∧ q j < o.length) (hf : swp p q o n = o) : ∀ j, j < n → (0 ≤ o.getD (p j) 0 ↔ 0 ≤ o.getD (q j) 0) := by
  obtain ⟨_, h2, _⟩ := swp_chg h hpq n (Nat.le_refl _)
  have hc : chg p q o n = false := by
    cases e : chg p q o n
    · rfl
    · have := h2 e; rw [hf] at this; omega
  intro j hj
  have := of_decide_eq_false (chg_each n hc j hj)
  omega
theorem itr_fixed {n m : Nat} {o : List Int} (h : okc o) (hpq : ∀ j, j < n → p j < o.length ∧ q j < o.length) (hm : o.length ≤ m) : swp p q (itr p q n o m) n = itr p q n o m := by
  obtain ⟨s, hs, he⟩ : ∃ s, s ≤ m ∧ swp p q (itr p q n o s) n = itr p q n o s := by
    rcases itr_ex h hpq m with h1 | h1
    · exact h1
    · have := unc_le o
      omega
  have := itr_fix he (m - s)
  rw [show s + (m - s) = m by omega] at this
  rw [this, he]
/-- What a phase keeps: the old colors stay; a new one is that of its letter. -/
structure Ph (lam : Nat → Bool) (k m : Nat) (o x : List Int) : Prop where
  len : x.length = m
  old : ∀ i, i < m → 0 ≤ o.getD i 0 → x.getD i 0 = o.getD i 0
  new : ∀ i, i < m → o.getD i 0 < 0 → x.getD i 0 < 0 ∨ x.getD i 0 = if lam i = lam k then 0 else 1
  own : 0 ≤ x.getD k 0
variable {lam : Nat → Bool} {k m n : Nat} {o : List Int}
theorem Ph.put {x : List Int} (h : Ph lam k m o x) {a b : Nat} (ha : a < m) (hb : b < m) (hl : lam a ≠ lam b) (hg : 0 ≤ o.getD a 0 → 0 ≤ o.getD b 0) (h1 : 0 ≤ x.getD a 0) (h2 : x.getD b 0 < 0) : Ph lam k m o (x.set b (1 - x.getD a 0)) := by
  have hb' : b < x.length := by rw [h.len]; exact hb
  have ob : o.getD b 0 < 0 := by
    rcases Int.lt_or_le (o.getD b 0) 0 with e | e
    · exact e
    · have := h.old b hb e; omega
  have oa : o.getD a 0 < 0 := by
    rcases Int.lt_or_le (o.getD a 0) 0 with e | e
    · exact e
    · have := hg e; omega
  have hxa : x.getD a 0 = if lam a = lam k then 0 else 1 := by
    rcases h.new a ha oa with e | e
    · omega
    · exact e
  have hv : 1 - x.getD a 0 = if lam b = lam k then 0 else 1 := by
    rw [hxa]
    cases ea : lam a <;> cases eb : lam b <;> cases ek : lam k <;> simp_all
  refine ⟨by rw [set_len, h.len], fun i hi h0 => ?_, fun i hi h0 => ?_, ?_⟩
  · rw [set_getD hb']
    by_cases e : i = b
    · subst e; omega
    · rw [if_neg e]; exact h.old i hi h0
  · rw [set_getD hb']
    by_cases e : i = b
    · subst e; rw [if_pos rfl]; exact .inr hv
    · rw [if_neg e]; exact h.new i hi h0
  · rw [set_getD hb']
    by_cases e : k = b
    · rw [if_pos e, hv]
      by_cases e2 : lam b = lam k
      · rw [if_pos e2]; exact Int.le_refl _
      · rw [if_neg e2]; decide
    · rw [if_neg e]; exact h.own
theorem Ph.stp {x : List Int} (h : Ph lam k m o x) {a b : Nat} (ha : a < m) (hb : b < m) (hl : lam a ≠ lam b) (hg : 0 ≤ o.getD a 0 ↔ 0 ≤ o.getD b 0) : Ph lam k m o (stp x a b) := by
  unfold Go.Proofs.Yteojoifhmaoiaaa.stp
  by_cases h1 : 0 ≤ x.getD a 0 ∧ x.getD b 0 < 0
  · rw [if_pos h1]; exact h.put ha hb hl hg.1 h1.1 h1.2
  · rw [if_neg h1]
    by_cases h2 : 0 ≤ x.getD b 0 ∧ x.getD a 0 < 0
    · rw [if_pos h2]; exact h.put hb ha (fun e => hl e.symm) hg.2 h2.1 h2.2
    · rw [if_neg h2]; exact h
theorem Ph.swp {x : List Int} (h : Ph lam k m o x) (hpq : ∀ j, j < n → p j < m ∧ q j < m) (hl : ∀ j, j < n → lam (p j) ≠ lam (q j)) (hg : ∀ j, j < n → (0 ≤ o.getD (p j) 0 ↔ 0 ≤ o.getD (q j) 0)) : ∀ j, j ≤ n → Ph lam k m o (swp p q x j) := by
  intro j
  induction j with
  | zero => intro _; exact h
  | succ j ih => intro hj; exact (ih (by omega)).stp (hpq j (by omega)).1 (hpq j (by omega)).2 (hl j (by omega)) (hg j (by omega))
theorem Ph.itr {x : List Int} (h : Ph lam k m o x) (hpq : ∀ j, j < n → p j < m ∧ q j < m) (hl : ∀ j, j < n → lam (p j) ≠ lam (q j)) (hg : ∀ j, j < n → (0 ≤ o.getD (p j) 0 ↔ 0 ≤ o.getD (q j) 0)) : ∀ r, Ph lam k m o (itr p q n x r) := by
  intro r
  induction r with
  | zero => exact h
  | succ r ih => exact ih.swp hpq hl hg n (Nat.le_refl _)
/-- What holds when k faces have been looked at. -/
structure Tg (p q : Nat → Nat) (n m k : Nat) (x : List Int) : Prop where
  len : x.length = m
  ok : okc x
  done : ∀ i, i < k → 0 ≤ x.getD i 0
  both : ∀ j, j < n → (0 ≤ x.getD (p j) 0 ↔ 0 ≤ x.getD (q j) 0)
  part : ∀ j, j < n → 0 ≤ x.getD (p j) 0 → x.getD (p j) 0 ≠ x.getD (q j) 0
  zero : 0 < k → x.getD 0 0 = 0
theorem two_good (hpq : ∀ j, j < n → p j < m ∧ q j < m) (hl : ∀ j, j < n → lam (p j) ≠ lam (q j)) : ∀ k, k ≤ m → Tg p q n m k (two p q n m k) := by
  intro k
  induction k with
  | zero =>
    intro _
    have hrep : ∀ i, i < m → (List.replicate m (-1 : Int)).getD i 0 = -1 := fun i hi => by simp [List.getD, hi]
    refine ⟨two_len p q n m 0, two_ok hpq 0 (Nat.zero_le _), fun i h => by omega, fun j hj => ?_, fun j hj h0 => ?_, fun h => by omega⟩
    · show 0 ≤ (List.replicate m (-1 : Int)).getD _ _ ↔ 0 ≤ (List.replicate m (-1 : Int)).getD _ _
      rw [hrep _ (hpq j hj).1, hrep _ (hpq j hj).2]
    · have h0' : 0 ≤ (List.replicate m (-1 : Int)).getD (p j) 0 := h0
      rw [hrep _ (hpq j hj).1] at h0'
      omega
  | succ k ih =>
    intro hk
    have hT := ih (by omega)
    have hok := two_ok hpq (k + 1) hk
    have hlen := two_len p q n m (k + 1)
    by_cases h : 0 ≤ (two p q n m k).getD k 0
    · have e : two p q n m (k + 1) = two p q n m k := by show (if _ then _ else _) = _; rw [if_pos h]
      rw [e]
      refine ⟨hT.len, hT.ok, fun i hi => ?_, hT.both, hT.part, fun _ => ?_⟩
      · by_cases e2 : i = k
        · subst e2; exact h
        · exact hT.done i (by omega)
      · by_cases e2 : k = 0
        · subst e2
          have h' : 0 ≤ (List.replicate m (-1 : Int)).getD 0 0 := h
          have : (List.replicate m (-1 : Int)).getD 0 0 = -1 := by simp [List.getD, show 0 < m by omega]
          omega
        · exact hT.zero (by omega)
    · have hn : (two p q n m k).getD k 0 < 0 := by omega
      have e : two p q n m (k + 1) = itr p q n ((two p q n m k).set k 0) m := by show (if _ then _ else _) = _; rw [if_neg h]
      rw [e] at hok hlen ⊢
      generalize two p q n m k = o at *
      have hkl : k < o.length := by rw [hT.len]; omega
      have h0 : Ph lam k m o (o.set k 0) := by
        refine ⟨by rw [set_len, hT.len], fun i hi hi0 => ?_, fun i hi hi0 => ?_, ?_⟩
        · rw [set_getD hkl, if_neg (fun e => by subst e; omega)]
        · rw [set_getD hkl]
          by_cases e2 : i = k
          · rw [if_pos e2, e2, if_pos rfl]; exact .inr rfl
          · rw [if_neg e2]; exact .inl hi0
        · rw [set_getD hkl, if_pos rfl]; exact Int.le_refl _
      have hP := h0.itr hpq hl hT.both m
      have hokS : okc (o.set k 0) := okc_set hT.ok hkl (by decide) (by decide)
      have hpqS : ∀ j, j < n → p j < (o.set k 0).length ∧ q j < (o.set k 0).length := fun j hj => by rw [set_len, hT.len]; exact hpq j hj
      have hfix := itr_fixed hokS hpqS (m := m) (by rw [set_len, hT.len]; exact Nat.le_refl _)
      have hboth := fix_each hok (fun j hj => by rw [hlen]; exact hpq j hj) hfix
      generalize itr p q n (o.set k 0) m = x at *
      refine ⟨hlen, hok, fun i hi => ?_, hboth, fun j hj hp => ?_, fun _ => ?_⟩
      · by_cases e2 : i = k
        · subst e2; exact hP.own
        · have := hT.done i (by omega)
          rw [hP.old i (by omega) this]; exact this
      · obtain ⟨hpm, hqm⟩ := hpq j hj
        have hq := (hboth j hj).1 hp
        by_cases e2 : 0 ≤ o.getD (p j) 0
        · have e3 := (hT.both j hj).1 e2
          rw [hP.old _ hpm e2, hP.old _ hqm e3]
          exact hT.part j hj e2
        · have e3 : o.getD (q j) 0 < 0 := by
            rcases Int.lt_or_le (o.getD (q j) 0) 0 with e | e
            · exact e
            · exact absurd ((hT.both j hj).2 e) e2
          have a1 := (hP.new _ hpm (by omega)).resolve_left (by omega)
          have a2 := (hP.new _ hqm e3).resolve_left (by omega)
          have := hl j hj
          rw [a1, a2]
          cases ea : lam (p j) <;> cases eb : lam (q j) <;> cases ek : lam k <;> simp_all
      · by_cases e2 : k = 0
        · subst e2
          have := (hP.new 0 (by omega) hn).resolve_left (by have := hP.own; omega)
          rw [this, if_pos rfl]
        · have h1 := hT.zero (by omega)
          rw [hP.old 0 (by omega) (by omega), h1]
end
end Go.Proofs.Yteojoifhmaoiaaa
