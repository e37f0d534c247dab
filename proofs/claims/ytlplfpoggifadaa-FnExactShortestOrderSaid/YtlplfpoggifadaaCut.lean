/-
  Cuts as data: a cut that comes in by value, opened; the contract of toCut; no condition.
  By an AI agent.
-/
import Derived.Test.YtlplfpoggifadaaBase
import Derived.Lib.SmallJoins
import Derived.Deep.Slices
import Derived.Deep.Fields
import Derived.ChangeSame
import Derived.Carry
import Derived.Lib.Hide
import Derived.Outline
namespace Go.Proofs.Ytlplfpoggifadaa
open Go.ChangeShapes Go.WideShapes Go.ChangeAt Go.RowKit Go.Joins Go.Deep
set_option maxRecDepth 100000

structure DCut where
  k : Int
  g : Int
  s : Int
def DCut.val (x : DCut) : Value := .agg #[.int .i64 x.k, .int .i64 x.g, .int .i64 x.s]
def DCut.good (x : DCut) (_ : World) : Prop := (Lit.int .i64 x.k).wf = true ∧ (Lit.int .i64 x.g).wf = true ∧ (Lit.int .i64 x.s).wf = true

section
variable {H : Type} {enc : TypeId × Value → H} {w : World} {r : Reach} {b0 base : Nat} {spare : Nat → Bool} {held : Bool}
theorem open_Cut {v : Value} {d : DataW H} {p : List MemPlace}
    (hv : Value.okWide Try.prog w r b0 65 v) (h : DataW.Trod enc Try.prog w base (fun _ => true) held 65 v d p) :
    ∃ x : DCut, v = x.val ∧ x.good w := by
  obtain ⟨c0, c1, c2, y0, y1, y2, n, rfl, rfl, rfl, h0, h1, h2⟩ := open_agg3 Try.underlying65 (by kernel_rfl) (by kernel_rfl) hv h
  obtain ⟨a, e0, rfl, wa⟩ := DataW.trod_int Try.underlying3 h0
  obtain ⟨b, e1, rfl, wb⟩ := DataW.trod_int Try.underlying3 h1
  obtain ⟨c, e2, rfl, wc⟩ := DataW.trod_int Try.underlying3 h2
  simp at e0 e1 e2
  subst e0 e1 e2
  exact ⟨⟨a, b, c⟩, rfl, wa, wb, wc⟩
end

theorem toCut_any (k g s : Int) (w : World) :
    Calls Try.prog 47 #[.agg #[.int .i64 k, .int .i64 g, .int .i64 s]] w fun e w' => e = .returned (.agg #[.int .i64 k, .int .i64 g, .int .i64 s]) ∧ Below w.heap.size w w' := by
  go_enter Try.func47, Try.ntmps47
  go_wp2
  exact bodyPost_ret (v := .agg #[.int .i64 k, .int .i64 g, .int .i64 s]) (by simp [results, Try.results47, go_sem]) rfl ⟨rfl, (by (repeat' (first | exact Below.refl _ _ | refine Below.drew ?_ | refine Below.setCell ?_ ?_ _ | refine Below.alloc ?_ ?_ _)) <;> (first | (simp; done) | (simp; omega)))⟩
end Go.Proofs.Ytlplfpoggifadaa
