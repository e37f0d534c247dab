/-
  Discs: plain law of turns and periods.
  By an AI agent.
-/
import Derived.Test.YtpafclfonclcdaaPeriod
namespace Go.Proofs.Ytpafclfonclcdaa
open Go.ChangeShapes Go.WideShapes Go.ChangeAt Go.RowKit Go.Joins Go.Deep
set_option maxRecDepth 100000

/-- What stands in a window. -/
def shownP (zs : List Int) (n f k : Nat) : Int := zs.getD ((f + k) % n) 0
/-- The first k windows show alike on a disc at f and at g. -/
def alikeP (zs : List Int) (n f g : Nat) : Nat → Bool
  | 0 => true
  | k + 1 => alikeP zs n f g k && decide (shownP zs n g k = shownP zs n f k)
theorem alike_iff {zs : List Int} {n f g m : Nat} : alikeP zs n f g m = true ↔ ∀ k, k < m → shownP zs n g k = shownP zs n f k := by
  induction m with
  | zero => simp [alikeP]
  | succ m ih =>
      unfold alikeP
      rw [Bool.and_eq_true, ih, decide_eq_true_iff]
      constructor
      · rintro ⟨h1, h2⟩ k hk
        by_cases e : k = m
        · rw [e]; exact h2
        · exact h1 k (by omega)
      · intro h
        exact ⟨fun k hk => h k (by omega), h m (by omega)⟩
theorem upto_iff {zs : List Int} {n p m : Nat} : perUpto zs n p m = true ↔ n % p = 0 ∧ ∀ k, k < m → zs.getD k 0 = zs.getD ((k + p) % n) 0 := by
  induction m with
  | zero => simp [perUpto]
  | succ m ih =>
      unfold perUpto
      rw [Bool.and_eq_true, ih, decide_eq_true_iff]
      constructor
      · rintro ⟨⟨h0, h1⟩, h2⟩
        refine ⟨h0, fun k hk => ?_⟩
        by_cases e : k = m
        · rw [e]; exact h2
        · exact h1 k (by omega)
      · rintro ⟨h0, h⟩
        exact ⟨⟨h0, fun k hk => h k (by omega)⟩, h m (by omega)⟩
theorem turn_at {n f q k : Nat} : ((f + q) % n + k) % n = ((f + k) % n + q) % n := by
  rw [Nat.mod_add_mod, Nat.mod_add_mod]; congr 1; omega
theorem per_alike {zs : List Int} {n p f : Nat} (hn : 0 < n) (h : isPer zs n p = true) (k : Nat) : shownP zs n ((f + p) % n) k = shownP zs n f k := by
  have := (upto_iff.1 h).2 ((f + k) % n) (Nat.mod_lt _ hn)
  unfold shownP
  rw [turn_at, ← this]
theorem alike_per {zs : List Int} {n q f : Nat} (hf : f < n) (h : alikeP zs n f ((f + q) % n) n = true) (hq : n % q = 0) : isPer zs n q = true := by
  refine upto_iff.2 ⟨hq, fun j hj => ?_⟩
  have hh := alike_iff.1 h ((j + (n - f)) % n) (Nat.mod_lt _ (by omega))
  unfold shownP at hh
  have e : (f + (j + (n - f)) % n) % n = j := by
    rw [Nat.add_mod_mod]
    have : f + (j + (n - f)) = j + n := by omega
    rw [this, Nat.add_mod_right, Nat.mod_eq_of_lt hj]
  rw [turn_at, e] at hh
  exact hh.symm
/-- Some turn brings the picture of the first sector to a window. -/
theorem first_shown {n f k : Nat} (hn : 0 < n) : ∃ t, t < n ∧ (f + t + k) % n = 0 := by
  refine ⟨(n - (f + k) % n) % n, Nat.mod_lt _ hn, ?_⟩
  have h1 : f + (n - (f + k) % n) % n + k = (n - (f + k) % n) % n + (f + k) := by omega
  rw [h1, Nat.mod_add_mod]
  have h2 := Nat.mod_add_div (f + k) n
  have h3 := Nat.mod_lt (f + k) hn
  have h4 : n - (f + k) % n + (f + k) = n * ((f + k) / n) + n := by omega
  rw [h4, Nat.add_mod_right, Nat.mul_mod_right]
theorem back_turn (f by' n : Int) (h0 : 0 ≤ f) (h1 : f < n) : ((f + by') % n + -by') % n = f := by
  rw [Int.emod_add_emod]
  have : f + by' + -by' = f := by omega
  rw [this, Int.emod_eq_of_lt h0 h1]
theorem meet_law {a b : Nat} (ha : 0 < a) (hb : 0 < b) : 0 < a / Nat.gcd a b * b ∧ (a / Nat.gcd a b * b) % a = 0 ∧ (a / Nat.gcd a b * b) % b = 0 ∧ a / Nat.gcd a b * b ≤ a * b := by
  have hg : 0 < Nat.gcd a b := Nat.gcd_pos_of_pos_left _ ha
  obtain ⟨u, hu⟩ := Nat.gcd_dvd_left a b
  obtain ⟨v, hv⟩ := Nat.gcd_dvd_right a b
  generalize Nat.gcd a b = g at *
  have e1 : a / g = u := by rw [hu]; exact Nat.mul_div_cancel_left _ hg
  have hu0 : 0 < u := by
    rcases Nat.eq_zero_or_pos u with h | h
    · subst h; simp at hu; omega
    · exact h
  rw [e1]
  refine ⟨Nat.mul_pos hu0 hb, ?_, Nat.mul_mod_left _ _, Nat.mul_le_mul_right _ ?_⟩
  · have : u * b = a * v := by rw [hv, hu]; rw [Nat.mul_comm g u, Nat.mul_assoc]
    rw [this, Nat.mul_mod_right]
  · rw [hu]; exact Nat.le_mul_of_pos_left _ hg
end Go.Proofs.Ytpafclfonclcdaa
