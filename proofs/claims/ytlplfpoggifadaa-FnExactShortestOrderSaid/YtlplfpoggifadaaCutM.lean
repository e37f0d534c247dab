/-
  The contract of markCutS (it writes the numbers k, k + 1, .. into a row of cuts); rows of the call's own beside slices that may be nil.
  By an AI agent.
-/
import Derived.Test.YtlplfpoggifadaaCutE
import Derived.Test.YtlplfpoggifadaaInts
namespace Go.Proofs.Ytlplfpoggifadaa
open Go.ChangeShapes Go.WideShapes Go.ChangeAt Go.RowKit Go.Joins Go.Deep
set_option maxRecDepth 100000
set_option linter.unusedVariables false

/-- A row and a newer slice share no block. -/
theorem Row.apart1 {w : World} {g N M : Nat} {c : Nat → Value} {b : Option Addr} (h : Row w g N c) (f : Fresh w.heap.size b M) : Apart (some ⟨g, 0, none⟩) 1 b M := by
  rcases f with f | ⟨k, hb, hk⟩
  · exact .inr (.inl f)
  · exact .inr (.inr ⟨g, k, rfl, hb, Nat.ne_of_lt (Nat.lt_of_lt_of_le h.lt hk)⟩)
theorem Marked.keepRow {w w' : World} {g N M : Nat} {c : Nat → Value} {b : Option Addr} (h : Marked b M w w') (hr : Row w g N c) (hp : Apart (some ⟨g, 0, none⟩) 1 b M) : Row w' g N c := by
  rcases h with ⟨_, h⟩ | ⟨h0, k, hb, ho⟩
  · exact hr.below h hr.lt
  · rcases hp with hp | hp | ⟨g', k', ha', hb', hn⟩
    · omega
    · omega
    · rw [hb] at hb'
      simp only [Option.some.injEq, Addr.mk.injEq, and_true] at ha' hb'
      exact hr.of_heap (ho.block g hr.lt (by omega))
theorem Marked.ofOnly {w w' : World} {g : Nat} (h : Only g w w') : Marked (some ⟨g, 0, none⟩) 1 w w' := .inr ⟨by omega, g, rfl, h.toB⟩
theorem mark3 {w : World} {g N j : Nat} {k0 : Int} {c : Nat → Value} {x y z : Int} (h : Row w g N (fun i => if i < j * 3 then numc k0 i else c i)) (hx : x = k0 + (j * 3 : Nat)) (hy : y = k0 + (j * 3 + 1 : Nat)) (hz : z = k0 + (j * 3 + 2 : Nat)) :
    Row (((w.setCell ⟨g, j * 3, none⟩ (.int .i64 x)).setCell ⟨g, j * 3 + 1, none⟩ (.int .i64 y)).setCell ⟨g, j * 3 + 2, none⟩ (.int .i64 z)) g N (fun i => if i < (j + 1) * 3 then numc k0 i else c i) := by
  refine (((h.set _ _).set _ _).set _ _).congr fun i _ => ?_
  subst hx hy hz
  by_cases h2 : i = j * 3 + 2
  · subst h2; rw [if_pos rfl, if_pos (by omega)]; rfl
  · rw [if_neg h2]
    by_cases h1 : i = j * 3 + 1
    · subst h1; rw [if_pos rfl, if_pos (by omega)]; rfl
    · rw [if_neg h1]
      by_cases h0 : i = j * 3
      · subst h0; rw [if_pos rfl, if_pos (by omega)]; rfl
      · rw [if_neg h0]
        by_cases hk : i < j * 3
        · rw [if_pos hk, if_pos (by omega)]
        · rw [if_neg hk, if_neg (by omega)]

set_option maxHeartbeats 1000000 in
theorem markCutS_any (g n c : Nat) (k0 : Int) (d : Nat → Value) (w : World) (hk0 : 0 ≤ k0) (hk1 : k0 ≤ 1000000000) (hm : n ≤ 1048576) (hR : Row w g (n * 3) d) :
    Calls Try.prog 16 #[.slice (some ⟨g, 0, none⟩) n c, .int .i64 k0] w fun e w' => e = .returned (.int .i64 (k0 + (n * 3 : Nat))) ∧ Row w' g (n * 3) (numc k0) ∧ Only g w w' := by
  have HR := Lib.hid (hR.congr (d := fun i => if i < 0 * 3 then numc k0 i else d i) (fun i _ => by rw [if_neg (by omega)]))
  clear hR
  go_enter Try.func16, Try.ntmps16
  go_wp2
  go_loopw [1, 5] (fun s i wr => ∃ j : Nat, j ≤ n ∧ i = .int .i64 j ∧ s = .int .i64 (k0 + (j * 3 : Nat)) ∧ Row wr g (n * 3) (fun i => if i < j * 3 then numc k0 i else d i) ∧ Only g w wr) (fun _ i _ => n - (intOf i).toNat)
  case atStart => exact ⟨0, Nat.zero_le _, rfl, by simp, HR.out, Only.refl _ _⟩
  case round =>
    obtain ⟨j, hj, rfl, rfl, hW, hO⟩ := hrel
    have HW := Lib.hid hW
    have HO := Lib.hid hO
    clear hW hO
    by_cases hlt : j < n
    · have d0 := HW.out.cell (i := j * 3) (by omega)
      have d1 := HW.out.cell (i := j * 3 + 1) (by omega)
      have d2 := HW.out.cell (i := j * 3 + 2) (by omega)
      rw [if_neg (by omega)] at d0 d1 d2
      have f0 := HW.out.frozen (j * 3)
      have f1 := HW.out.frozen (j * 3 + 1)
      have f2 := HW.out.frozen (j * 3 + 2)
      generalize d (j * 3) = v0 at d0
      generalize d (j * 3 + 1) = v1 at d1
      generalize d (j * 3 + 2) = v2 at d2
      go_wp2
      go_roundw
      case rel => exact ⟨j + 1, by omega, by go_num, congrArg (Value.int .i64) (by omega), mark3 HW.out (by omega) (by omega) (by omega), ((HO.out.set _ _).set _ _).set _ _⟩
      case measure => simp [intOf]; omega
    · have hj' : j = n := by omega
      subst hj'
      have HF := Lib.hid (HW.out.congr (d := numc k0) (fun i hi => if_pos hi))
      clear HW
      go_wp2
      go_ret
      exact ⟨rfl, HF.out, HO.out⟩

end Go.Proofs.Ytlplfpoggifadaa
