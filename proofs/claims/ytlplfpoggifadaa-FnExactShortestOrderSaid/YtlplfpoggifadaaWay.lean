/-
  The way of a knife: contracts of distance, away, cut (program) and l20Go (reference), for cuts that are valid.
  By an AI agent.
-/
import Derived.Test.YtlplfpoggifadaaCutT
import Derived.Test.YtlplfpoggifadaaSl
import Derived.WalkSmall
namespace Go.Proofs.Ytlplfpoggifadaa
open Go.ChangeShapes Go.WideShapes Go.ChangeAt Go.RowKit Go.Joins Go.Deep
set_option maxRecDepth 100000
set_option linter.unusedVariables false

/-- The distance of two numbers, as Go's max spells it. -/
def ab (a b : Int) : Int := if a - b < b - a then b - a else a - b
theorem ab_bd {a b : Int} (h1 : 0 ≤ a) (h2 : a ≤ 100) (h3 : 0 ≤ b) (h4 : b ≤ 100) : 0 ≤ ab a b ∧ ab a b ≤ 100 := by unfold ab; split <;> omega
theorem ab_two (a b : Int) : (a - b < b - a ∧ ab a b = b - a) ∨ (b - a ≤ a - b ∧ ab a b = a - b) := by unfold ab; split <;> omega
def goA (r p : Int) (x : DCut) : Int := ab r x.k + ab p x.g
def goB (r p : Int) (x : DCut) : Int := ab r x.k + ab p x.s
def goM (r p : Int) (x : DCut) : Int := if goB r p x < goA r p x then goB r p x else goA r p x
def goW (r p : Int) (x : DCut) : Int := goM r p x + x.s - x.g
def goP (r p : Int) (x : DCut) : Int := if goB r p x < goA r p x then x.g else x.s
/-- A knife at a place that is there. -/
def At (r p : Int) : Prop := 0 ≤ r ∧ r ≤ 100 ∧ 0 ≤ p ∧ p ≤ 100
theorem goM_bd {r p : Int} {x : DCut} (h : At r p) (hx : cOk x = true) : 0 ≤ goA r p x ∧ goA r p x ≤ 200 ∧ 0 ≤ goB r p x ∧ goB r p x ≤ 200 ∧ 0 ≤ goM r p x ∧ goM r p x ≤ 200 := by
  obtain ⟨a, b, c, d⟩ := h
  obtain ⟨e, f, g, i, j⟩ := cOk_iff.1 hx
  have h1 := ab_bd a b e f
  have h2 := ab_bd c d g (by omega : x.g ≤ 100)
  have h3 := ab_bd c d (by omega : 0 ≤ x.s) j
  unfold goM goA goB
  refine ⟨by omega, by omega, by omega, by omega, ?_, ?_⟩ <;> split <;> omega
theorem goW_bd {r p : Int} {x : DCut} (h : At r p) (hx : cOk x = true) : 0 ≤ goW r p x ∧ goW r p x ≤ 300 := by
  have := goM_bd h hx
  obtain ⟨e, f, g, i, j⟩ := cOk_iff.1 hx
  unfold goW; omega
theorem goP_at {r p : Int} {x : DCut} (hx : cOk x = true) : At x.k (goP r p x) := by
  obtain ⟨e, f, g, i, j⟩ := cOk_iff.1 hx
  unfold goP At
  split <;> omega
theorem distance_any (a b : Int) (w : World) (h1 : 0 ≤ a) (h2 : a ≤ 100) (h3 : 0 ≤ b) (h4 : b ≤ 100) :
    Calls Try.prog 73 #[.int .i64 a, .int .i64 b] w fun e w' => e = .returned (.int .i64 (ab a b)) ∧ w = w' := by
  rcases ab_two a b with ⟨hlt, he⟩ | ⟨hlt, he⟩
  all_goals have HE := Lib.hid he
  all_goals clear he
  all_goals go_enter Try.func73, Try.ntmps73
  all_goals go_wp2
  all_goals go_ret
  all_goals exact ⟨ret_int HE.out.symm, rfl⟩
theorem ret_ii {a b c d : Int} (h : a = b) (k : c = d) : Ending.returned (.tuple #[.int .i64 a, .int .i64 c]) = .returned (.tuple #[.int .i64 b, .int .i64 d]) := by rw [h, k]
set_option maxHeartbeats 1000000 in
theorem l20Go_any (r p : Int) (x : DCut) (w : World) (h : At r p) (hx : cOk x = true) :
    Calls Try.prog 60 #[.int .i64 r, .int .i64 p, .agg #[.int .i64 x.k, .int .i64 x.g, .int .i64 x.s]] w fun e w' => e = .returned (.tuple #[.int .i64 (goW r p x), .int .i64 (goP r p x)]) ∧ Below w.heap.size w w' := by
  obtain ⟨k, g, s⟩ := x
  obtain ⟨a, b, c, d⟩ := h
  obtain ⟨e, f, i, j, l⟩ := cOk_iff.1 hx
  simp only at e f i j l ⊢
  clear hx
  rcases ab_two r k with ⟨d1, e1⟩ | ⟨d1, e1⟩
  · rcases ab_two p g with ⟨d2, e2⟩ | ⟨d2, e2⟩
    · rcases ab_two p s with ⟨d3, e3⟩ | ⟨d3, e3⟩
      · by_cases hlt : s - p < g - p
        · try (exfalso; omega)
          all_goals
            have V1 : Hid (goW r p ⟨k, g, s⟩ = k - r + (s - p) + s - g) := Lib.hid (by unfold goW goM goA goB; simp only; rw [e1, e2, e3, if_pos (by omega)]; (try omega))
            have V2 : Hid (goP r p ⟨k, g, s⟩ = g) := Lib.hid (by unfold goP goA goB; simp only; rw [e1, e2, e3, if_pos (by omega)])
            clear e1 e2 e3
            have W1 : IntKind.i64.wrap (k - r + (s - p)) = k - r + (s - p) := IntWalk.i64_in _ (by omega)
            have W2 : IntKind.i64.wrap (k - r + (s - p) + s) = k - r + (s - p) + s := IntWalk.i64_in _ (by omega)
            have W3 : IntKind.i64.wrap (k - r + (s - p) + s - g) = k - r + (s - p) + s - g := IntWalk.i64_in _ (by omega)
            go_enter Try.func60, Try.ntmps60
            go_wp2
            go_quiet (fail)
            go_wp2
            go_ret2
            exact ⟨ret_ii V1.out.symm V2.out.symm, below_drewN (Below.box _ _) _⟩
        · try (exfalso; omega)
          all_goals
            have V1 : Hid (goW r p ⟨k, g, s⟩ = k - r + (g - p) + s - g) := Lib.hid (by unfold goW goM goA goB; simp only; rw [e1, e2, e3, if_neg (by omega)]; (try omega))
            have V2 : Hid (goP r p ⟨k, g, s⟩ = s) := Lib.hid (by unfold goP goA goB; simp only; rw [e1, e2, e3, if_neg (by omega)])
            clear e1 e2 e3
            have W1 : IntKind.i64.wrap (k - r + (g - p)) = k - r + (g - p) := IntWalk.i64_in _ (by omega)
            have W2 : IntKind.i64.wrap (k - r + (g - p) + s) = k - r + (g - p) + s := IntWalk.i64_in _ (by omega)
            have W3 : IntKind.i64.wrap (k - r + (g - p) + s - g) = k - r + (g - p) + s - g := IntWalk.i64_in _ (by omega)
            go_enter Try.func60, Try.ntmps60
            go_wp2
            go_quiet (fail)
            go_wp2
            go_ret2
            exact ⟨ret_ii V1.out.symm V2.out.symm, below_drewN (Below.box _ _) _⟩
      · by_cases hlt : p - s < g - p
        · try (exfalso; omega)
          all_goals
            have V1 : Hid (goW r p ⟨k, g, s⟩ = k - r + (p - s) + s - g) := Lib.hid (by unfold goW goM goA goB; simp only; rw [e1, e2, e3, if_pos (by omega)]; (try omega))
            have V2 : Hid (goP r p ⟨k, g, s⟩ = g) := Lib.hid (by unfold goP goA goB; simp only; rw [e1, e2, e3, if_pos (by omega)])
            clear e1 e2 e3
            have W1 : IntKind.i64.wrap (k - r + (p - s)) = k - r + (p - s) := IntWalk.i64_in _ (by omega)
            have W2 : IntKind.i64.wrap (k - r + (p - s) + s) = k - r + (p - s) + s := IntWalk.i64_in _ (by omega)
            have W3 : IntKind.i64.wrap (k - r + (p - s) + s - g) = k - r + (p - s) + s - g := IntWalk.i64_in _ (by omega)
            go_enter Try.func60, Try.ntmps60
            go_wp2
            go_quiet (fail)
            go_wp2
            go_ret2
            exact ⟨ret_ii V1.out.symm V2.out.symm, below_drewN (Below.box _ _) _⟩
        · try (exfalso; omega)
          all_goals
            have V1 : Hid (goW r p ⟨k, g, s⟩ = k - r + (g - p) + s - g) := Lib.hid (by unfold goW goM goA goB; simp only; rw [e1, e2, e3, if_neg (by omega)]; (try omega))
            have V2 : Hid (goP r p ⟨k, g, s⟩ = s) := Lib.hid (by unfold goP goA goB; simp only; rw [e1, e2, e3, if_neg (by omega)])
            clear e1 e2 e3
            have W1 : IntKind.i64.wrap (k - r + (g - p)) = k - r + (g - p) := IntWalk.i64_in _ (by omega)
            have W2 : IntKind.i64.wrap (k - r + (g - p) + s) = k - r + (g - p) + s := IntWalk.i64_in _ (by omega)
            have W3 : IntKind.i64.wrap (k - r + (g - p) + s - g) = k - r + (g - p) + s - g := IntWalk.i64_in _ (by omega)
            go_enter Try.func60, Try.ntmps60
            go_wp2
            go_quiet (fail)
            go_wp2
            go_ret2
            exact ⟨ret_ii V1.out.symm V2.out.symm, below_drewN (Below.box _ _) _⟩
    · rcases ab_two p s with ⟨d3, e3⟩ | ⟨d3, e3⟩
      · by_cases hlt : s - p < p - g
        · try (exfalso; omega)
          all_goals
            have V1 : Hid (goW r p ⟨k, g, s⟩ = k - r + (s - p) + s - g) := Lib.hid (by unfold goW goM goA goB; simp only; rw [e1, e2, e3, if_pos (by omega)]; (try omega))
            have V2 : Hid (goP r p ⟨k, g, s⟩ = g) := Lib.hid (by unfold goP goA goB; simp only; rw [e1, e2, e3, if_pos (by omega)])
            clear e1 e2 e3
            have W1 : IntKind.i64.wrap (k - r + (s - p)) = k - r + (s - p) := IntWalk.i64_in _ (by omega)
            have W2 : IntKind.i64.wrap (k - r + (s - p) + s) = k - r + (s - p) + s := IntWalk.i64_in _ (by omega)
            have W3 : IntKind.i64.wrap (k - r + (s - p) + s - g) = k - r + (s - p) + s - g := IntWalk.i64_in _ (by omega)
            go_enter Try.func60, Try.ntmps60
            go_wp2
            go_quiet (fail)
            go_wp2
            go_ret2
            exact ⟨ret_ii V1.out.symm V2.out.symm, below_drewN (Below.box _ _) _⟩
        · try (exfalso; omega)
          all_goals
            have V1 : Hid (goW r p ⟨k, g, s⟩ = k - r + (p - g) + s - g) := Lib.hid (by unfold goW goM goA goB; simp only; rw [e1, e2, e3, if_neg (by omega)]; (try omega))
            have V2 : Hid (goP r p ⟨k, g, s⟩ = s) := Lib.hid (by unfold goP goA goB; simp only; rw [e1, e2, e3, if_neg (by omega)])
            clear e1 e2 e3
            have W1 : IntKind.i64.wrap (k - r + (p - g)) = k - r + (p - g) := IntWalk.i64_in _ (by omega)
            have W2 : IntKind.i64.wrap (k - r + (p - g) + s) = k - r + (p - g) + s := IntWalk.i64_in _ (by omega)
            have W3 : IntKind.i64.wrap (k - r + (p - g) + s - g) = k - r + (p - g) + s - g := IntWalk.i64_in _ (by omega)
            go_enter Try.func60, Try.ntmps60
            go_wp2
            go_quiet (fail)
            go_wp2
            go_ret2
            exact ⟨ret_ii V1.out.symm V2.out.symm, below_drewN (Below.box _ _) _⟩
      · by_cases hlt : p - s < p - g
        · try (exfalso; omega)
          all_goals
            have V1 : Hid (goW r p ⟨k, g, s⟩ = k - r + (p - s) + s - g) := Lib.hid (by unfold goW goM goA goB; simp only; rw [e1, e2, e3, if_pos (by omega)]; (try omega))
            have V2 : Hid (goP r p ⟨k, g, s⟩ = g) := Lib.hid (by unfold goP goA goB; simp only; rw [e1, e2, e3, if_pos (by omega)])
            clear e1 e2 e3
            have W1 : IntKind.i64.wrap (k - r + (p - s)) = k - r + (p - s) := IntWalk.i64_in _ (by omega)
            have W2 : IntKind.i64.wrap (k - r + (p - s) + s) = k - r + (p - s) + s := IntWalk.i64_in _ (by omega)
            have W3 : IntKind.i64.wrap (k - r + (p - s) + s - g) = k - r + (p - s) + s - g := IntWalk.i64_in _ (by omega)
            go_enter Try.func60, Try.ntmps60
            go_wp2
            go_quiet (fail)
            go_wp2
            go_ret2
            exact ⟨ret_ii V1.out.symm V2.out.symm, below_drewN (Below.box _ _) _⟩
        · try (exfalso; omega)
          all_goals
            have V1 : Hid (goW r p ⟨k, g, s⟩ = k - r + (p - g) + s - g) := Lib.hid (by unfold goW goM goA goB; simp only; rw [e1, e2, e3, if_neg (by omega)]; (try omega))
            have V2 : Hid (goP r p ⟨k, g, s⟩ = s) := Lib.hid (by unfold goP goA goB; simp only; rw [e1, e2, e3, if_neg (by omega)])
            clear e1 e2 e3
            have W1 : IntKind.i64.wrap (k - r + (p - g)) = k - r + (p - g) := IntWalk.i64_in _ (by omega)
            have W2 : IntKind.i64.wrap (k - r + (p - g) + s) = k - r + (p - g) + s := IntWalk.i64_in _ (by omega)
            have W3 : IntKind.i64.wrap (k - r + (p - g) + s - g) = k - r + (p - g) + s - g := IntWalk.i64_in _ (by omega)
            go_enter Try.func60, Try.ntmps60
            go_wp2
            go_quiet (fail)
            go_wp2
            go_ret2
            exact ⟨ret_ii V1.out.symm V2.out.symm, below_drewN (Below.box _ _) _⟩
  · rcases ab_two p g with ⟨d2, e2⟩ | ⟨d2, e2⟩
    · rcases ab_two p s with ⟨d3, e3⟩ | ⟨d3, e3⟩
      · by_cases hlt : s - p < g - p
        · try (exfalso; omega)
          all_goals
            have V1 : Hid (goW r p ⟨k, g, s⟩ = r - k + (s - p) + s - g) := Lib.hid (by unfold goW goM goA goB; simp only; rw [e1, e2, e3, if_pos (by omega)]; (try omega))
            have V2 : Hid (goP r p ⟨k, g, s⟩ = g) := Lib.hid (by unfold goP goA goB; simp only; rw [e1, e2, e3, if_pos (by omega)])
            clear e1 e2 e3
            have W1 : IntKind.i64.wrap (r - k + (s - p)) = r - k + (s - p) := IntWalk.i64_in _ (by omega)
            have W2 : IntKind.i64.wrap (r - k + (s - p) + s) = r - k + (s - p) + s := IntWalk.i64_in _ (by omega)
            have W3 : IntKind.i64.wrap (r - k + (s - p) + s - g) = r - k + (s - p) + s - g := IntWalk.i64_in _ (by omega)
            go_enter Try.func60, Try.ntmps60
            go_wp2
            go_quiet (fail)
            go_wp2
            go_ret2
            exact ⟨ret_ii V1.out.symm V2.out.symm, below_drewN (Below.box _ _) _⟩
        · try (exfalso; omega)
          all_goals
            have V1 : Hid (goW r p ⟨k, g, s⟩ = r - k + (g - p) + s - g) := Lib.hid (by unfold goW goM goA goB; simp only; rw [e1, e2, e3, if_neg (by omega)]; (try omega))
            have V2 : Hid (goP r p ⟨k, g, s⟩ = s) := Lib.hid (by unfold goP goA goB; simp only; rw [e1, e2, e3, if_neg (by omega)])
            clear e1 e2 e3
            have W1 : IntKind.i64.wrap (r - k + (g - p)) = r - k + (g - p) := IntWalk.i64_in _ (by omega)
            have W2 : IntKind.i64.wrap (r - k + (g - p) + s) = r - k + (g - p) + s := IntWalk.i64_in _ (by omega)
            have W3 : IntKind.i64.wrap (r - k + (g - p) + s - g) = r - k + (g - p) + s - g := IntWalk.i64_in _ (by omega)
            go_enter Try.func60, Try.ntmps60
            go_wp2
            go_quiet (fail)
            go_wp2
            go_ret2
            exact ⟨ret_ii V1.out.symm V2.out.symm, below_drewN (Below.box _ _) _⟩
      · by_cases hlt : p - s < g - p
        · try (exfalso; omega)
          all_goals
            have V1 : Hid (goW r p ⟨k, g, s⟩ = r - k + (p - s) + s - g) := Lib.hid (by unfold goW goM goA goB; simp only; rw [e1, e2, e3, if_pos (by omega)]; (try omega))
            have V2 : Hid (goP r p ⟨k, g, s⟩ = g) := Lib.hid (by unfold goP goA goB; simp only; rw [e1, e2, e3, if_pos (by omega)])
            clear e1 e2 e3
            have W1 : IntKind.i64.wrap (r - k + (p - s)) = r - k + (p - s) := IntWalk.i64_in _ (by omega)
            have W2 : IntKind.i64.wrap (r - k + (p - s) + s) = r - k + (p - s) + s := IntWalk.i64_in _ (by omega)
            have W3 : IntKind.i64.wrap (r - k + (p - s) + s - g) = r - k + (p - s) + s - g := IntWalk.i64_in _ (by omega)
            go_enter Try.func60, Try.ntmps60
            go_wp2
            go_quiet (fail)
            go_wp2
            go_ret2
            exact ⟨ret_ii V1.out.symm V2.out.symm, below_drewN (Below.box _ _) _⟩
        · try (exfalso; omega)
          all_goals
            have V1 : Hid (goW r p ⟨k, g, s⟩ = r - k + (g - p) + s - g) := Lib.hid (by unfold goW goM goA goB; simp only; rw [e1, e2, e3, if_neg (by omega)]; (try omega))
            have V2 : Hid (goP r p ⟨k, g, s⟩ = s) := Lib.hid (by unfold goP goA goB; simp only; rw [e1, e2, e3, if_neg (by omega)])
            clear e1 e2 e3
            have W1 : IntKind.i64.wrap (r - k + (g - p)) = r - k + (g - p) := IntWalk.i64_in _ (by omega)
            have W2 : IntKind.i64.wrap (r - k + (g - p) + s) = r - k + (g - p) + s := IntWalk.i64_in _ (by omega)
            have W3 : IntKind.i64.wrap (r - k + (g - p) + s - g) = r - k + (g - p) + s - g := IntWalk.i64_in _ (by omega)
            go_enter Try.func60, Try.ntmps60
            go_wp2
            go_quiet (fail)
            go_wp2
            go_ret2
            exact ⟨ret_ii V1.out.symm V2.out.symm, below_drewN (Below.box _ _) _⟩
    · rcases ab_two p s with ⟨d3, e3⟩ | ⟨d3, e3⟩
      · by_cases hlt : s - p < p - g
        · try (exfalso; omega)
          all_goals
            have V1 : Hid (goW r p ⟨k, g, s⟩ = r - k + (s - p) + s - g) := Lib.hid (by unfold goW goM goA goB; simp only; rw [e1, e2, e3, if_pos (by omega)]; (try omega))
            have V2 : Hid (goP r p ⟨k, g, s⟩ = g) := Lib.hid (by unfold goP goA goB; simp only; rw [e1, e2, e3, if_pos (by omega)])
            clear e1 e2 e3
            have W1 : IntKind.i64.wrap (r - k + (s - p)) = r - k + (s - p) := IntWalk.i64_in _ (by omega)
            have W2 : IntKind.i64.wrap (r - k + (s - p) + s) = r - k + (s - p) + s := IntWalk.i64_in _ (by omega)
            have W3 : IntKind.i64.wrap (r - k + (s - p) + s - g) = r - k + (s - p) + s - g := IntWalk.i64_in _ (by omega)
            go_enter Try.func60, Try.ntmps60
            go_wp2
            go_quiet (fail)
            go_wp2
            go_ret2
            exact ⟨ret_ii V1.out.symm V2.out.symm, below_drewN (Below.box _ _) _⟩
        · try (exfalso; omega)
          all_goals
            have V1 : Hid (goW r p ⟨k, g, s⟩ = r - k + (p - g) + s - g) := Lib.hid (by unfold goW goM goA goB; simp only; rw [e1, e2, e3, if_neg (by omega)]; (try omega))
            have V2 : Hid (goP r p ⟨k, g, s⟩ = s) := Lib.hid (by unfold goP goA goB; simp only; rw [e1, e2, e3, if_neg (by omega)])
            clear e1 e2 e3
            have W1 : IntKind.i64.wrap (r - k + (p - g)) = r - k + (p - g) := IntWalk.i64_in _ (by omega)
            have W2 : IntKind.i64.wrap (r - k + (p - g) + s) = r - k + (p - g) + s := IntWalk.i64_in _ (by omega)
            have W3 : IntKind.i64.wrap (r - k + (p - g) + s - g) = r - k + (p - g) + s - g := IntWalk.i64_in _ (by omega)
            go_enter Try.func60, Try.ntmps60
            go_wp2
            go_quiet (fail)
            go_wp2
            go_ret2
            exact ⟨ret_ii V1.out.symm V2.out.symm, below_drewN (Below.box _ _) _⟩
      · by_cases hlt : p - s < p - g
        · try (exfalso; omega)
          all_goals
            have V1 : Hid (goW r p ⟨k, g, s⟩ = r - k + (p - s) + s - g) := Lib.hid (by unfold goW goM goA goB; simp only; rw [e1, e2, e3, if_pos (by omega)]; (try omega))
            have V2 : Hid (goP r p ⟨k, g, s⟩ = g) := Lib.hid (by unfold goP goA goB; simp only; rw [e1, e2, e3, if_pos (by omega)])
            clear e1 e2 e3
            have W1 : IntKind.i64.wrap (r - k + (p - s)) = r - k + (p - s) := IntWalk.i64_in _ (by omega)
            have W2 : IntKind.i64.wrap (r - k + (p - s) + s) = r - k + (p - s) + s := IntWalk.i64_in _ (by omega)
            have W3 : IntKind.i64.wrap (r - k + (p - s) + s - g) = r - k + (p - s) + s - g := IntWalk.i64_in _ (by omega)
            go_enter Try.func60, Try.ntmps60
            go_wp2
            go_quiet (fail)
            go_wp2
            go_ret2
            exact ⟨ret_ii V1.out.symm V2.out.symm, below_drewN (Below.box _ _) _⟩
        · try (exfalso; omega)
          all_goals
            have V1 : Hid (goW r p ⟨k, g, s⟩ = r - k + (p - g) + s - g) := Lib.hid (by unfold goW goM goA goB; simp only; rw [e1, e2, e3, if_neg (by omega)]; (try omega))
            have V2 : Hid (goP r p ⟨k, g, s⟩ = s) := Lib.hid (by unfold goP goA goB; simp only; rw [e1, e2, e3, if_neg (by omega)])
            clear e1 e2 e3
            have W1 : IntKind.i64.wrap (r - k + (p - g)) = r - k + (p - g) := IntWalk.i64_in _ (by omega)
            have W2 : IntKind.i64.wrap (r - k + (p - g) + s) = r - k + (p - g) + s := IntWalk.i64_in _ (by omega)
            have W3 : IntKind.i64.wrap (r - k + (p - g) + s - g) = r - k + (p - g) + s - g := IntWalk.i64_in _ (by omega)
            go_enter Try.func60, Try.ntmps60
            go_wp2
            go_quiet (fail)
            go_wp2
            go_ret2
            exact ⟨ret_ii V1.out.symm V2.out.symm, below_drewN (Below.box _ _) _⟩
end Go.Proofs.Ytlplfpoggifadaa
