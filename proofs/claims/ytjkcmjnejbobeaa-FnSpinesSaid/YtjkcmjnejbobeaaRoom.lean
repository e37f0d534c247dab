/-
  A drawn card is small.
  By an AI agent.
-/
import Derived.Test.YtjkcmjnejbobeaaDrawC
namespace Go.Proofs.Ytjkcmjnejbobeaa
open Go.ChangeShapes Go.WideShapes Go.ChangeAt Go.RowKit
set_option maxRecDepth 100000
set_option linter.unusedVariables false

theorem tot_le8 {ss : List ByteArray} : ∀ {n : Nat}, (∀ k, k < n → (ss.getD k ByteArray.empty).size ≤ 8) → tot ss n ≤ 8 * n := by
  intro n
  induction n with
  | zero => intro _; exact Nat.le_refl _
  | succ n ih =>
    intro h
    have h1 := ih fun k hk => h k (by omega)
    have h2 := h n (by omega)
    show tot ss n + _ ≤ _
    omega
theorem DCd.tot {B d f n : Nat} {aS : Option Addr} {ss : List ByteArray} {w : World} (h : DCd B d f n aS ss w) : tot ss n ≤ 48 := by
  have h1 := h.d4
  have h2 := h.f4
  have h3 := h.n6
  have h4 := h.len
  have := tot_le8 (ss := ss) (n := n) fun k hk => by
    have := (h.strips (ss.getD k ByteArray.empty) (by rw [getD_at _ _ (by omega)]; exact List.getElem_mem (by omega))).2.2
    omega
  omega
theorem DCd.room {B d f n : Nat} {aS : Option Addr} {ss : List ByteArray} {w : World} (h : DCd B d f n aS ss w) : (n : Int) + Go.Proofs.Ytjkcmjnejbobeaa.tot ss n ≤ 1048576 := by
  have := h.tot
  have := h.n6
  omega
end Go.Proofs.Ytjkcmjnejbobeaa
