/-
  Tiles of a valid card as a graph; the four neighbours of a tile; the grid of numbers in memory.
  By an AI agent.
-/
import Derived.Test.YteojoifhmaoiaaaFace
import Derived.Test.YteojoifhmaoiaaaReg
namespace Go.Proofs.Yteojoifhmaoiaaa
open Go.ChangeShapes Go.WideShapes Go.ChangeAt Go.RowKit Go.Joins Go.Deep
set_option maxRecDepth 100000
set_option linter.unusedVariables false

theorem OnlyB.newer {W x y : World} {g q : Nat} (h : OnlyB g W x) (h2 : OnlyB q x y) (hq : W.heap.size ≤ q) : OnlyB g W y :=
  ⟨h2.os.trans h.os, h2.tape.trans h.tape, h2.output.trans h.output, Nat.le_trans h.size h2.size, fun i hi hn => (h2.block i (Nat.lt_of_lt_of_le hi h.size) (by omega)).trans (h.block i hi hn)⟩
def hJ (ss : List ByteArray) (N t u : Nat) : Prop := u + 1 = t ∧ t % N ≠ 0 ∧ bt (rowS ss (t / N)) (t % N) = bt (rowS ss (t / N)) (t % N - 1)
def vJ (ss : List ByteArray) (N t u : Nat) : Prop := u + N = t ∧ sameSt (rowS ss (t / N)) (rowS ss (t / N - 1)) (t % N) = true
def TE (ss : List ByteArray) (N m t u : Nat) : Prop := t < m ∧ u < m ∧ (hJ ss N t u ∨ vJ ss N t u ∨ hJ ss N u t ∨ vJ ss N u t)
section
variable {ss : List ByteArray} {N n k i m j t u : Nat}
theorem TE.symm (h : TE ss N m t u) : TE ss N m u t := by
  obtain ⟨h1, h2, h3⟩ := h
  refine ⟨h2, h1, ?_⟩
  rcases h3 with h | h | h | h
  · exact .inr (.inr (.inl h))
  · exact .inr (.inr (.inr h))
  · exact .inl h
  · exact .inr (.inl h)
theorem sameSt_comm (s t : ByteArray) (i : Nat) : sameSt s t i = sameSt t s i := by
  unfold sameSt
  have h1 : decide (bt s i = bt t i) = decide (bt t i = bt s i) := decide_eq_decide.2 ⟨fun h => h.symm, fun h => h.symm⟩
  have h2 : decide (cnt s 102 i = cnt t 102 i) = decide (cnt t 102 i = cnt s 102 i) := decide_eq_decide.2 ⟨fun h => h.symm, fun h => h.symm⟩
  rw [h1, h2]
theorem tile_div (hi : i < N) : (k * N + i) / N = k := by
  rw [Nat.mul_comm, Nat.mul_add_div (by omega), Nat.div_eq_of_lt hi]; omega
theorem tile_mod (hi : i < N) : (k * N + i) % N = i := by
  rw [Nat.mul_comm, Nat.mul_add_mod, Nat.mod_eq_of_lt hi]
theorem tile_lt (hk : k < n) (hi : i < N) : k * N + i < n * N := by
  have := Nat.mul_le_mul_right N (show k + 1 ≤ n by omega)
  rw [Nat.succ_mul] at this
  omega
theorem tile_inj (hi : i < N) (hj : j < N) (h : k * N + i = m * N + j) : k = m ∧ i = j := by
  have h1 := tile_div (k := k) hi
  have h2 := tile_div (k := m) hj
  rw [h] at h1
  have hk : k = m := by omega
  subst hk
  exact ⟨rfl, by omega⟩
theorem tile_of (h : t < n * N) : t / N < n ∧ t % N < N ∧ t = (t / N) * N + t % N := by
  have hN : 0 < N := by
    rcases Nat.eq_zero_or_pos N with e | e
    · subst e; omega
    · exact e
  exact ⟨Nat.div_lt_of_lt_mul (by rw [Nat.mul_comm]; exact h), Nat.mod_lt _ hN, by have := Nat.div_add_mod t N; rw [Nat.mul_comm] at this; omega⟩
/-- The neighbours of a tile, in the program's order. -/
def nbR (k q : Nat) : Int := if q = 0 then k else if q = 1 then k else if q = 2 then (k : Int) - 1 else (k : Int) + 1
def nbC (i q : Nat) : Int := if q = 0 then (i : Int) - 1 else if q = 1 then (i : Int) + 1 else i
/-- The program's test of two tiles beside each other. -/
def joinB (ss : List ByteArray) (k i m j : Nat) : Bool := if m = k then decide (bt (rowS ss k) j = bt (rowS ss k) i) else sameSt (rowS ss k) (rowS ss m) i
def isNb (n N k i q y : Nat) : Prop := ∃ m j : Nat, m < n ∧ j < N ∧ nbR k q = m ∧ nbC i q = j ∧ y = m * N + j
theorem nb_joined {q : Nat} (hN : 2 ≤ N) (hk : k < n) (hi : i < N) (hm : m < n) (hj : j < N) (hq : q < 4) (h1 : nbR k q = m) (h2 : nbC i q = j) : TE ss N (n * N) (k * N + i) (m * N + j) ↔ joinB ss k i m j = true := by
  have l1 := tile_lt hk hi
  have l2 := tile_lt hm hj
  have d1 := tile_div (k := k) hi
  have d2 := tile_div (k := m) hj
  have e1 := tile_mod (k := k) hi
  have e2 := tile_mod (k := m) hj
  unfold nbR at h1
  unfold nbC at h2
  have hq' : q = 0 ∨ q = 1 ∨ q = 2 ∨ q = 3 := by omega
  rcases hq' with rfl | rfl | rfl | rfl <;> simp only [reduceIte, Nat.reduceEqDiff, Nat.one_ne_zero] at h1 h2
  · have hmk : m = k := by omega
    subst hmk
    unfold joinB
    rw [if_pos rfl, decide_eq_true_eq]
    unfold TE hJ vJ
    rw [d1, e1]
    have hj' : j = i - 1 := by omega
    constructor
    · rintro ⟨_, _, ⟨_, _, h⟩ | ⟨h, _⟩ | ⟨h, _⟩ | ⟨h, _⟩⟩
      · rw [hj']; exact h.symm
      all_goals omega
    · intro h
      exact ⟨l1, l2, .inl ⟨by omega, by omega, by rw [← hj']; exact h.symm⟩⟩
  · have hmk : m = k := by omega
    subst hmk
    unfold joinB
    rw [if_pos rfl, decide_eq_true_eq]
    unfold TE hJ vJ
    rw [d2, e2]
    have hj' : i = j - 1 := by omega
    constructor
    · rintro ⟨_, _, ⟨h, _⟩ | ⟨h, _⟩ | ⟨_, _, h⟩ | ⟨h, _⟩⟩
      · omega
      · omega
      · rw [hj']; exact h
      · omega
    · intro h
      exact ⟨l1, l2, .inr (.inr (.inl ⟨by omega, by omega, by rw [← hj']; exact h⟩))⟩
  · have hmk : k = m + 1 := by omega
    have hj' : j = i := by omega
    subst hj'
    subst hmk
    have e3 : (m + 1) * N = m * N + N := Nat.succ_mul m N
    unfold joinB
    rw [if_neg (by omega)]
    unfold TE hJ vJ
    rw [d1, e1]
    constructor
    · rintro ⟨_, _, ⟨h, _⟩ | ⟨_, h⟩ | ⟨h, _⟩ | ⟨h, _⟩⟩
      · omega
      · exact h
      · omega
      · omega
    · intro h
      exact ⟨l1, l2, .inr (.inl ⟨by omega, h⟩)⟩
  · have hmk : m = k + 1 := by omega
    have hj' : j = i := by omega
    subst hj'
    subst hmk
    have e3 : (k + 1) * N = k * N + N := Nat.succ_mul k N
    unfold joinB
    rw [if_neg (by omega)]
    unfold TE hJ vJ
    rw [d2, e2, sameSt_comm (rowS ss (k + 1)), Nat.add_sub_cancel]
    constructor
    · rintro ⟨_, _, ⟨h, _⟩ | ⟨h, _⟩ | ⟨h, _⟩ | ⟨_, h⟩⟩
      · omega
      · omega
      · omega
      · exact h
    · intro h
      exact ⟨l1, l2, .inr (.inr (.inr ⟨by omega, h⟩))⟩
theorem nb_all (hN : 2 ≤ N) (hk : k < n) (hi : i < N) (h : TE ss N (n * N) (k * N + i) t) : ∃ q, q < 4 ∧ isNb n N k i q t := by
  obtain ⟨_, l2, h⟩ := h
  have d1 := tile_div (k := k) hi
  have e1 := tile_mod (k := k) hi
  rcases h with ⟨h, h2, _⟩ | ⟨h, _⟩ | ⟨h, h2, _⟩ | ⟨h, _⟩
  · rw [e1] at h2
    exact ⟨0, by omega, k, i - 1, hk, by omega, by simp [nbR], by simp only [nbC, reduceIte]; omega, by omega⟩
  · have hk1 : k ≠ 0 := by
      intro e
      subst e
      omega
    obtain ⟨p, rfl⟩ : ∃ p, k = p + 1 := ⟨k - 1, by omega⟩
    have e3 : (p + 1) * N = p * N + N := Nat.succ_mul p N
    exact ⟨2, by omega, p, i, by omega, hi, by simp only [nbR, reduceIte, Nat.reduceEqDiff]; omega, by simp [nbC], by omega⟩
  · have hi1 : i + 1 < N := by
      rcases Nat.lt_or_ge (i + 1) N with e | e
      · exact e
      · exfalso
        have e3 : (k + 1) * N = k * N + N := Nat.succ_mul k N
        have : t = (k + 1) * N := by omega
        rw [this, Nat.mul_mod_left] at h2
        exact h2 rfl
    exact ⟨1, by omega, k, i + 1, hk, hi1, by simp [nbR], by simp [nbC], by omega⟩
  · have e3 : (k + 1) * N = k * N + N := Nat.succ_mul k N
    have hk1 : k + 1 < n := by
      rcases Nat.lt_or_ge (k + 1) n with e | e
      · exact e
      · exfalso
        have := Nat.mul_le_mul_right N e
        omega
    exact ⟨3, by omega, k + 1, i, hk1, hi, by simp [nbR], by simp [nbC], by omega⟩
end
def nbQ (n N k i q y : Nat) : Prop := ∃ q', q' < q ∧ isNb n N k i q' y
theorem nbQ_zero {n N k i y : Nat} : ¬ nbQ n N k i 0 y := fun ⟨q, h, _⟩ => absurd h (Nat.not_lt_zero q)
theorem nbQ_out {n N k i q y : Nat} (h : ¬ ((0 ≤ nbR k q ∧ nbR k q < (n : Int)) ∧ (0 ≤ nbC i q ∧ nbC i q < (N : Int)))) (hy : nbQ n N k i (q + 1) y) : nbQ n N k i q y := by
  obtain ⟨q', hq, m, j, hm, hj, h1, h2, h3⟩ := hy
  by_cases e : q' = q
  · subst e; exfalso; rw [h1, h2] at h; omega
  · exact ⟨q', by omega, m, j, hm, hj, h1, h2, h3⟩
theorem nbQ_in {n N k i q m j y : Nat} (h1 : nbR k q = m) (h2 : nbC i q = j) (hy : nbQ n N k i (q + 1) y) : nbQ n N k i q y ∨ y = m * N + j := by
  obtain ⟨q', hq, m', j', hm, hj, k1, k2, k3⟩ := hy
  by_cases e : q' = q
  · subst e
    have : m' = m := by omega
    have : j' = j := by omega
    subst_vars
    exact .inr rfl
  · exact .inl ⟨q', by omega, m', j', hm, hj, k1, k2, k3⟩
/-! ### The grid in memory -/
def gcell (N : Nat) (F : Nat → Int) (k i : Nat) : Value := .int .i64 (F (k * N + i))
def ghead (N : Nat) (A : Nat → Nat) (k : Nat) : Value := .slice (some ⟨A k, 0, none⟩) N N
structure Grid (w : World) (lo hi go n N : Nat) (A : Nat → Nat) (F : Nat → Int) : Prop where
  head : Row w go n (ghead N A)
  own : ∀ k, k < n → lo ≤ A k ∧ A k < hi ∧ A k ≠ go ∧ ∀ j, j < k → A j ≠ A k
  row : ∀ k, k < n → Row w (A k) N (gcell N F k)
section
variable {w w' : World} {lo hi go n N k i : Nat} {A : Nat → Nat} {F : Nat → Int}
theorem Grid.below (h : Grid w lo hi go n N A F) (hb : Below w.heap.size w w') : Grid w' lo hi go n N A F :=
  ⟨h.head.below hb h.head.lt, h.own, fun k hk => (h.row k hk).below hb (h.row k hk).lt⟩
theorem Grid.ne (h : Grid w lo hi go n N A F) {k j : Nat} (hk : k < n) (hj : j < n) (hn : k ≠ j) : A k ≠ A j := by
  rcases Nat.lt_or_ge k j with e | e
  · exact (h.own j hj).2.2.2 k e
  · exact fun h2 => (h.own k hk).2.2.2 j (by omega) h2.symm
theorem Grid.set (h : Grid w lo hi go n N A F) (hk : k < n) (hi' : i < N) (v : Int) : Grid (w.setCell ⟨A k, i, none⟩ (.int .i64 v)) lo hi go n N A (fun x => if x = k * N + i then v else F x) := by
  refine ⟨h.head.set_other (show go ≠ A k from (h.own k hk).2.2.1.symm) _, h.own, fun j hj => ?_⟩
  by_cases e : j = k
  · subst e
    refine ((h.row j hj).set i _).congr fun x hx => ?_
    unfold gcell
    by_cases e2 : x = i
    · subst e2; simp
    · show (if x = i then _ else _) = Value.int .i64 (if j * N + x = j * N + i then v else F (j * N + x))
      rw [if_neg e2, if_neg (fun h3 => e2 (tile_inj hx hi' h3).2)]
  · refine ((h.row j hj).set_other (show A j ≠ A k from h.ne hj hk e) _).congr fun x hx => ?_
    show Value.int .i64 (F (j * N + x)) = Value.int .i64 (if j * N + x = k * N + i then v else F (j * N + x))
    rw [if_neg (fun h3 => e (tile_inj hx hi' h3).1)]
theorem Grid.reg (h : Grid w lo hi go n N A F) (hk : k < n) (i : Nat) (v : Value) : Reg lo hi w (w.setCell ⟨A k, i, none⟩ v) := (Reg.refl lo hi w).set i v (h.own k hk).1 (h.own k hk).2.1
end
end Go.Proofs.Yteojoifhmaoiaaa
