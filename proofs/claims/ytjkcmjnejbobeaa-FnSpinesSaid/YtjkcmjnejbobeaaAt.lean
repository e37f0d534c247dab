/-
  Contracts of laws.at and laws.big.
  By an AI agent.
-/
import Derived.Test.YtjkcmjnejbobeaaCur
namespace Go.Proofs.Ytjkcmjnejbobeaa
open Go.ChangeShapes Go.WideShapes Go.ChangeAt Go.RowKit
set_option maxRecDepth 100000
set_option linter.unusedVariables false

theorem at_by (a : Option Addr) (len cap : Nat) (i : Nat) (w : World) (hi : i ≤ 10) (hm : len ≤ 1048576) (h : Bytes w a len) :
    Calls Try.prog 11 #[.slice a len cap, .int .i64 i] w fun e w' => (∃ v : Int, e = .returned (.int .i64 v) ∧ 0 ≤ v ∧ v ≤ 255) ∧ w = w' := by
  have hc := h
  by_cases h0 : len = 0
  · subst h0
    clear hc
    go_enter Try.func11, Try.ntmps11
    go_wp2
    go_ret
    exact ⟨⟨0, rfl, by omega, by omega⟩, rfl⟩
  · obtain ⟨b, off, rfl, hcc⟩ := hc (by omega)
    have hj : (i * 5 + 1) % len < len := Nat.mod_lt _ (by omega)
    obtain ⟨v, hv, c0⟩ := hcc _ hj
    clear hc hcc h
    have e1 : ((i : Int) * 5 + 1) % (len : Int) = (((i * 5 + 1) % len : Nat) : Int) := by push_cast; rfl
    have e2 : (((i : Int) * 5 + 1) % (len : Int)).toNat = (i * 5 + 1) % len := by rw [e1]; exact Int.toNat_natCast _
    have e0 : ((len : Int) == 0) = false := by simp; omega
    generalize (i * 5 + 1) % len = j at *
    obtain ⟨v0, v1⟩ := hv
    have j0 : (0 : Int) ≤ (j : Int) := Int.natCast_nonneg _
    have j1 : (j : Int) < (len : Int) := by omega
    go_enter Try.func11, Try.ntmps11
    go_wp2
    go_ret
    exact ⟨⟨v, rfl, v0, v1⟩, rfl⟩
theorem big_any (a : Option Addr) (len cap : Nat) (w : World) (hm : len ≤ maxLen) :
    Calls Try.prog 9 #[.slice a len cap] w fun e w' => e = .returned (.bool (decide (1048576 < (len : Int)))) ∧ w = w' := by
  unfold maxLen at hm
  go_enter Try.func9, Try.ntmps9
  go_wp2
  go_ret
  exact ⟨rfl, rfl⟩
/-- The number that 'at' hands back, known ahead of the walk. -/
theorem at_ex (a : Option Addr) (len cap : Nat) (i : Nat) (w : World) (hi : i ≤ 10) (hm : len ≤ 1048576) (h : Bytes w a len) :
    ∃ v : Int, (0 ≤ v ∧ v ≤ 255) ∧ ∀ k, Calls Try.prog 11 #[.slice a len cap, .int .i64 i] (w.drewN k) fun e w' => e = .returned (.int .i64 v) ∧ w.drewN k = w' := by
  by_cases h0 : len = 0
  · subst h0
    refine ⟨0, by omega, fun k => ?_⟩
    clear h
    go_enter Try.func11, Try.ntmps11
    go_wp2
    go_ret
    exact ⟨rfl, rfl⟩
  · obtain ⟨b, off, rfl, hcc⟩ := h (by omega)
    have hj : (i * 5 + 1) % len < len := Nat.mod_lt _ (by omega)
    obtain ⟨v, hv, c0⟩ := hcc _ hj
    refine ⟨v, hv, fun kk => ?_⟩
    have c1 := ((below_drewN (Below.refl w.heap.size w) kk).cell (p := ⟨b, off + (i * 5 + 1) % len, none⟩) (World.block_lt_of_cell? _ _ c0)).trans c0
    clear hcc h c0
    generalize w.drewN kk = w2 at *
    have e1 : ((i : Int) * 5 + 1) % (len : Int) = (((i * 5 + 1) % len : Nat) : Int) := by push_cast; rfl
    have e2 : (((i : Int) * 5 + 1) % (len : Int)).toNat = (i * 5 + 1) % len := by rw [e1]; exact Int.toNat_natCast _
    have e0 : ((len : Int) == 0) = false := by simp; omega
    generalize (i * 5 + 1) % len = j at *
    obtain ⟨v0, v1⟩ := hv
    have j0 : (0 : Int) ≤ (j : Int) := Int.natCast_nonneg _
    have j1 : (j : Int) < (len : Int) := by omega
    go_enter Try.func11, Try.ntmps11
    go_wp2
    go_ret
    exact ⟨rfl, rfl⟩
end Go.Proofs.Ytjkcmjnejbobeaa
