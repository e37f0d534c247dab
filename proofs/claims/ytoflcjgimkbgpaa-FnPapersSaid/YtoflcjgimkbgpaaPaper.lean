/-
  Papers as data: a paper that comes in by value, opened; contracts of PaperOk in the program and in the reference; no condition.
  By an AI agent.
-/
import Derived.Test.YtoflcjgimkbgpaaBase
import Derived.Lib.SmallJoins
import Derived.Deep.Slices
import Derived.Deep.Fields
import Derived.ChangeSame
import Derived.Carry
import Derived.Lib.Hide
import Derived.Outline
namespace Go.Proofs.Ytoflcjgimkbgpaa
open Go.ChangeShapes Go.WideShapes Go.ChangeAt Go.RowKit Go.Joins Go.Deep
set_option maxRecDepth 100000

structure DPaper where
  k : Int
  g : Int
  s : Int
def DPaper.val (x : DPaper) : Value := .agg #[.int .i64 x.k, .int .i64 x.g, .int .i64 x.s]
def DPaper.good (x : DPaper) (_ : World) : Prop := (Lit.int .i64 x.k).wf = true ∧ (Lit.int .i64 x.g).wf = true ∧ (Lit.int .i64 x.s).wf = true

section
variable {H : Type} {enc : TypeId × Value → H} {w : World} {r : Reach} {b0 base : Nat} {spare : Nat → Bool} {held : Bool}
theorem open_Paper {v : Value} {d : DataW H} {p : List MemPlace}
    (hv : Value.okWide Try.prog w r b0 67 v) (h : DataW.Trod enc Try.prog w base (fun _ => true) held 67 v d p) :
    ∃ x : DPaper, v = x.val ∧ x.good w := by
  obtain ⟨c0, c1, c2, y0, y1, y2, n, rfl, rfl, rfl, h0, h1, h2⟩ := open_agg3 Try.underlying67 (by kernel_rfl) (by kernel_rfl) hv h
  obtain ⟨a, e0, rfl, wa⟩ := DataW.trod_int Try.underlying3 h0
  obtain ⟨b, e1, rfl, wb⟩ := DataW.trod_int Try.underlying3 h1
  obtain ⟨c, e2, rfl, wc⟩ := DataW.trod_int Try.underlying3 h2
  simp at e0 e1 e2
  subst e0 e1 e2
  exact ⟨⟨a, b, c⟩, rfl, wa, wb, wc⟩
end

def paperOkB (k g s : Int) : Bool := inB k 0 9 && inB g 40 400 && inB s 0 100000
theorem paperOk_f {k g s : Int} (h : (k < 0 ∨ 9 < k) ∨ (g < 40 ∨ 400 < g) ∨ (s < 0 ∨ 100000 < s)) : paperOkB k g s = false := by
  unfold paperOkB
  rcases h with h | h | h
  · rw [inB_f h]; rfl
  · rw [inB_f h]; simp
  · rw [inB_f h]; simp
theorem paperOk_t {k g s : Int} (h1 : 0 ≤ k) (h2 : k ≤ 9) (h3 : 40 ≤ g) (h4 : g ≤ 400) (h5 : 0 ≤ s) (h6 : s ≤ 100000) : paperOkB k g s = true := by
  unfold paperOkB; rw [inB_t h1 h2, inB_t h3 h4, inB_t h5 h6]; rfl
theorem paperOk_iff {k g s : Int} : paperOkB k g s = true ↔ 0 ≤ k ∧ k ≤ 9 ∧ 40 ≤ g ∧ g ≤ 400 ∧ 0 ≤ s ∧ s ≤ 100000 := by
  unfold paperOkB inB; simp; omega

theorem iPaperOk_any (k g s : Int) (w : World) :
    Calls Try.prog 27 #[.agg #[.int .i64 k, .int .i64 g, .int .i64 s]] w fun e w' => e = .returned (.bool (paperOkB k g s)) ∧ Below w.heap.size w w' := by
  have A : ((k < 0 ∨ 9 < k) ∨ (0 ≤ k ∧ k ≤ 9 ∧ (g < 40 ∨ 400 < g)) ∨ (0 ≤ k ∧ k ≤ 9 ∧ 40 ≤ g ∧ g ≤ 400 ∧ (s < 0 ∨ 100000 < s))) ∨ (0 ≤ k ∧ k ≤ 9 ∧ 40 ≤ g ∧ g ≤ 400 ∧ 0 ≤ s ∧ s ≤ 100000) := by omega
  rcases A with h | ⟨h1, h2, h3, h4, h5, h6⟩
  · rw [paperOk_f (by omega)]
    rcases h with h | ⟨h1, h2, h⟩ | ⟨h1, h2, h3, h4, h⟩
    all_goals go_enter Try.func27, Try.ntmps27
    all_goals go_wp2_with (first | (go_at_call 70; (first | refine (l01In_t _ _ _ _ (by omega) (by omega)).mono ?_ | refine (l01In_f _ _ _ _ (by omega)).mono ?_); rintro e w' ⟨rfl, rfl⟩) | (go_at_call 58; (first | refine (within_t _ _ _ _ (by omega) (by omega)).mono ?_ | refine (within_f _ _ _ _ (by omega)).mono ?_); rintro e w' ⟨rfl, rfl⟩))
    all_goals go_ret
    all_goals exact ⟨rfl, (Below.refl _ _).alloc (Nat.le_refl _) _⟩
  · rw [paperOk_t h1 h2 h3 h4 h5 h6]
    go_enter Try.func27, Try.ntmps27
    go_wp2_with (first | (go_at_call 70; (first | refine (l01In_t _ _ _ _ (by omega) (by omega)).mono ?_ | refine (l01In_f _ _ _ _ (by omega)).mono ?_); rintro e w' ⟨rfl, rfl⟩) | (go_at_call 58; (first | refine (within_t _ _ _ _ (by omega) (by omega)).mono ?_ | refine (within_f _ _ _ _ (by omega)).mono ?_); rintro e w' ⟨rfl, rfl⟩))
    go_ret
    exact ⟨rfl, (Below.refl _ _).alloc (Nat.le_refl _) _⟩
theorem iPaperOk_t (k g s : Int) (w : World) (h : paperOkB k g s = true) :
    Calls Try.prog 27 #[.agg #[.int .i64 k, .int .i64 g, .int .i64 s]] w fun e w' => e = .returned (.bool true) ∧ Below w.heap.size w w' := by
  rw [← h]; exact iPaperOk_any k g s w
theorem iPaperOk_f (k g s : Int) (w : World) (h : paperOkB k g s = false) :
    Calls Try.prog 27 #[.agg #[.int .i64 k, .int .i64 g, .int .i64 s]] w fun e w' => e = .returned (.bool false) ∧ Below w.heap.size w w' := by
  rw [← h]; exact iPaperOk_any k g s w
theorem sPaperOk_any (k g s : Int) (w : World) :
    Calls Try.prog 73 #[.agg #[.int .i64 k, .int .i64 g, .int .i64 s]] w fun e w' => e = .returned (.bool (paperOkB k g s)) ∧ Below w.heap.size w w' := by
  have A : ((k < 0 ∨ 9 < k) ∨ (0 ≤ k ∧ k ≤ 9 ∧ (g < 40 ∨ 400 < g)) ∨ (0 ≤ k ∧ k ≤ 9 ∧ 40 ≤ g ∧ g ≤ 400 ∧ (s < 0 ∨ 100000 < s))) ∨ (0 ≤ k ∧ k ≤ 9 ∧ 40 ≤ g ∧ g ≤ 400 ∧ 0 ≤ s ∧ s ≤ 100000) := by omega
  rcases A with h | ⟨h1, h2, h3, h4, h5, h6⟩
  · rw [paperOk_f (by omega)]
    rcases h with h | ⟨h1, h2, h⟩ | ⟨h1, h2, h3, h4, h⟩
    all_goals go_enter Try.func73, Try.ntmps73
    all_goals go_wp2_with (first | (go_at_call 70; (first | refine (l01In_t _ _ _ _ (by omega) (by omega)).mono ?_ | refine (l01In_f _ _ _ _ (by omega)).mono ?_); rintro e w' ⟨rfl, rfl⟩) | (go_at_call 58; (first | refine (within_t _ _ _ _ (by omega) (by omega)).mono ?_ | refine (within_f _ _ _ _ (by omega)).mono ?_); rintro e w' ⟨rfl, rfl⟩))
    all_goals go_ret
    all_goals exact ⟨rfl, (Below.refl _ _).alloc (Nat.le_refl _) _⟩
  · rw [paperOk_t h1 h2 h3 h4 h5 h6]
    go_enter Try.func73, Try.ntmps73
    go_wp2_with (first | (go_at_call 70; (first | refine (l01In_t _ _ _ _ (by omega) (by omega)).mono ?_ | refine (l01In_f _ _ _ _ (by omega)).mono ?_); rintro e w' ⟨rfl, rfl⟩) | (go_at_call 58; (first | refine (within_t _ _ _ _ (by omega) (by omega)).mono ?_ | refine (within_f _ _ _ _ (by omega)).mono ?_); rintro e w' ⟨rfl, rfl⟩))
    go_ret
    exact ⟨rfl, (Below.refl _ _).alloc (Nat.le_refl _) _⟩
theorem sPaperOk_t (k g s : Int) (w : World) (h : paperOkB k g s = true) :
    Calls Try.prog 73 #[.agg #[.int .i64 k, .int .i64 g, .int .i64 s]] w fun e w' => e = .returned (.bool true) ∧ Below w.heap.size w w' := by
  rw [← h]; exact sPaperOk_any k g s w
theorem sPaperOk_f (k g s : Int) (w : World) (h : paperOkB k g s = false) :
    Calls Try.prog 73 #[.agg #[.int .i64 k, .int .i64 g, .int .i64 s]] w fun e w' => e = .returned (.bool false) ∧ Below w.heap.size w w' := by
  rw [← h]; exact sPaperOk_any k g s w

theorem toPaper_any (k g s : Int) (w : World) :
    Calls Try.prog 53 #[.agg #[.int .i64 k, .int .i64 g, .int .i64 s]] w fun e w' => e = .returned (.agg #[.int .i64 k, .int .i64 g, .int .i64 s]) ∧ Below w.heap.size w w' := by
  go_enter Try.func53, Try.ntmps53
  go_wp2
  exact bodyPost_ret (v := .agg #[.int .i64 k, .int .i64 g, .int .i64 s]) (by simp [results, Try.results53, go_sem]) rfl ⟨rfl, (by (repeat' (first | exact Below.refl _ _ | refine Below.drew ?_ | refine Below.setCell ?_ ?_ _ | refine Below.alloc ?_ ?_ _)) <;> (first | (simp; done) | (simp; omega)))⟩

def foldsOf (k g s : Int) (x : Bool) : Int := if paperOkB k g s then (if x then 40000 / g / 2 else 40000 / g) else 0
theorem iFoldsAllowed_any (k g s : Int) (x : Bool) (w : World) :
    Calls Try.prog 31 #[.agg #[.int .i64 k, .int .i64 g, .int .i64 s], .bool x] w fun e w' => e = .returned (.int .i64 (foldsOf k g s x)) ∧ Below w.heap.size w w' := by
  by_cases hp : paperOkB k g s = true
  · obtain ⟨h1, h2, h3, h4, h5, h6⟩ := paperOk_iff.1 hp
    have HP := Lib.hid hp
    clear hp
    have E : foldsOf k g s x = if x then 40000 / g / 2 else 40000 / g := by unfold foldsOf; rw [HP.out]; rfl
    have H1 : 0 ≤ 40000 / g := Int.ediv_nonneg (by omega) (by omega)
    have H2 : 40000 / g ≤ 40000 := Int.ediv_le_self g (by omega)
    rw [E]; clear E
    cases x
    all_goals go_enter Try.func31, Try.ntmps31
    all_goals go_wp2_with (go_at_call 27; refine (iPaperOk_t _ _ _ _ HP.out).mono ?_; rintro e w1 ⟨rfl, hb⟩; obtain ⟨hc, hf⟩ := bcell hb)
    all_goals go_ret
    all_goals exact ⟨rfl, ((Below.refl _ _).alloc (Nat.le_refl _) _).trans (hb.mono (by simp))⟩
  · have hp' : paperOkB k g s = false := by simpa using hp
    have HP := Lib.hid hp'
    clear hp hp'
    have E : foldsOf k g s x = 0 := by unfold foldsOf; rw [HP.out]; rfl
    rw [E]; clear E
    go_enter Try.func31, Try.ntmps31
    go_wp2_with (go_at_call 27; refine (iPaperOk_f _ _ _ _ HP.out).mono ?_; rintro e w1 ⟨rfl, hb⟩; obtain ⟨hc, hf⟩ := bcell hb)
    go_ret
    exact ⟨rfl, ((Below.refl _ _).alloc (Nat.le_refl _) _).trans (hb.mono (by simp))⟩
theorem sFoldsAllowed_any (k g s : Int) (x : Bool) (w : World) :
    Calls Try.prog 52 #[.agg #[.int .i64 k, .int .i64 g, .int .i64 s], .bool x] w fun e w' => e = .returned (.int .i64 (foldsOf k g s x)) ∧ Below w.heap.size w w' := by
  by_cases hp : paperOkB k g s = true
  · obtain ⟨h1, h2, h3, h4, h5, h6⟩ := paperOk_iff.1 hp
    have HP := Lib.hid hp
    clear hp
    have E : foldsOf k g s x = if x then 40000 / g / 2 else 40000 / g := by unfold foldsOf; rw [HP.out]; rfl
    have H1 : 0 ≤ 40000 / g := Int.ediv_nonneg (by omega) (by omega)
    have H2 : 40000 / g ≤ 40000 := Int.ediv_le_self g (by omega)
    rw [E]; clear E
    cases x
    all_goals go_enter Try.func52, Try.ntmps52
    all_goals go_wp2_with (go_at_call 73; refine (sPaperOk_t _ _ _ _ HP.out).mono ?_; rintro e w1 ⟨rfl, hb⟩; obtain ⟨hc, hf⟩ := bcell hb)
    all_goals go_ret
    all_goals exact ⟨rfl, ((Below.refl _ _).alloc (Nat.le_refl _) _).trans (hb.mono (by simp))⟩
  · have hp' : paperOkB k g s = false := by simpa using hp
    have HP := Lib.hid hp'
    clear hp hp'
    have E : foldsOf k g s x = 0 := by unfold foldsOf; rw [HP.out]; rfl
    rw [E]; clear E
    go_enter Try.func52, Try.ntmps52
    go_wp2_with (go_at_call 73; refine (sPaperOk_f _ _ _ _ HP.out).mono ?_; rintro e w1 ⟨rfl, hb⟩; obtain ⟨hc, hf⟩ := bcell hb)
    go_ret
    exact ⟨rfl, ((Below.refl _ _).alloc (Nat.le_refl _) _).trans (hb.mono (by simp))⟩
end Go.Proofs.Ytoflcjgimkbgpaa
