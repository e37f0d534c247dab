/-
  No cell of these rows narrows 'for every input' (looked for: loops, veiled, ifaces, maps, wideKeys, modest, calm, conditions, laid).
  DERIVED. THE GIVEN ROWS OF THIS SEAT. 6 by the template 'for every input the law returns true; each argument reads behind the call as it read before'; 0 by the template 'total and deterministic' (their statements: YtlplfpoggifadaaTotals.lean).
  GIVEN WITH THE SEED: the statements are not yours to turn. If you find one false, say at which input.
  Laid BY PROGRAM, IN A SANDBOX (cutbox-rows.mjs): the forced cells as the released guide's own fill.sh prints them over the translation 2aee05baf6c1d550… (all of the seat's roots in one cut). By AI agents, Wed Nov 11 2026. No macro, syntax, notation, axiom, sorry.
-/
import Derived.Test.YtlplfpoggifadaaChecked
import GoSem.Claim
import GoSem.ClaimJoined
import GoSem.ClaimMapViews
import Derived.JoinedTies
import Derived.KernelRfl
namespace Go.Proofs.Ytlplfpoggifadaa
/- THE CELL 'sum', in the pinned program and in every row, IS THE sha256 OF THE DUMP (.gsa) THAT YtlplfpoggifadaaProg.lean LOADS. Nothing in Lean hashes anything: it is a label: what it is worth is what the hold of that sum in a sandbox is worth. -/
noncomputable def Try.pinned : Pinned := { name := "ytlplfpoggifadaa", sum := "2aee05baf6c1d550462ffb2e59e7718b49b7eff47ba5e3eb9017fd7e6647463a", checked := Try.checked }
namespace Rows
def none {H : Type} : Left H := { results := [], args := [] }

/-- 'laws.FnExactCutsOf': WHATEVER THE INPUT: true; the input reads as it did. -/
def fnExactCutsOfSpec : ChangeSpec := { name := "fnExactCutsOf", fn := fun _ => fun
  | [d] => { results := [.lit (.bool true)], args := [d] }
  | _ => none }
def fnExactCutsOfRow : OpenClaim := { program := "ytlplfpoggifadaa", sum := "2aee05baf6c1d550462ffb2e59e7718b49b7eff47ba5e3eb9017fd7e6647463a", func := "loop.example/g03305/laws.FnExactCutsOf", spec := "fnExactCutsOf", inPlace := ["internal/bytealg.CountString", "internal/bytealg.IndexByteString", "internal/bytealg.IndexString"], named := ["internal/bytealg.MaxLen"], apart := false }
def FnExactCutsOfSaid : Prop := fnExactCutsOfRow.holds Try.pinned (OpenSpec.ofChange fnExactCutsOfSpec)

/-- ITS FALSE NEIGHBOUR: 'it returns false'. Refute it at one input. -/
def fnExactCutsOfWrong : ChangeSpec := { name := "fnExactCutsOf", fn := fun _ => fun
  | [d] => { results := [.lit (.bool false)], args := [d] }
  | _ => none }
def FnExactCutsOfWrongFalsely : Prop := fnExactCutsOfRow.holds Try.pinned (OpenSpec.ofChange fnExactCutsOfWrong)

/-- 'laws.FnExactShortestOrder': WHATEVER THE INPUT: true; the input reads as it did. -/
def fnExactShortestOrderSpec : ChangeSpec := { name := "fnExactShortestOrder", fn := fun _ => fun
  | [d] => { results := [.lit (.bool true)], args := [d] }
  | _ => none }
def fnExactShortestOrderRow : OpenClaim := { program := "ytlplfpoggifadaa", sum := "2aee05baf6c1d550462ffb2e59e7718b49b7eff47ba5e3eb9017fd7e6647463a", func := "loop.example/g03305/laws.FnExactShortestOrder", spec := "fnExactShortestOrder", unfollowed := true, recurses := true, apart := false }
def FnExactShortestOrderSaid : Prop := fnExactShortestOrderRow.holds Try.pinned (OpenSpec.ofChange fnExactShortestOrderSpec)

/-- ITS FALSE NEIGHBOUR: 'it returns false'. Refute it at one input. -/
def fnExactShortestOrderWrong : ChangeSpec := { name := "fnExactShortestOrder", fn := fun _ => fun
  | [d] => { results := [.lit (.bool false)], args := [d] }
  | _ => none }
def FnExactShortestOrderWrongFalsely : Prop := fnExactShortestOrderRow.holds Try.pinned (OpenSpec.ofChange fnExactShortestOrderWrong)

/-- 'laws.FnKnives': WHATEVER THE INPUT: true; the input reads as it did. -/
def fnKnivesSpec : ChangeSpec := { name := "fnKnives", fn := fun _ => fun
  | [d] => { results := [.lit (.bool true)], args := [d] }
  | _ => none }
def fnKnivesRow : OpenClaim := { program := "ytlplfpoggifadaa", sum := "2aee05baf6c1d550462ffb2e59e7718b49b7eff47ba5e3eb9017fd7e6647463a", func := "loop.example/g03305/laws.FnKnives", spec := "fnKnives", inPlace := ["internal/bytealg.CountString", "internal/bytealg.IndexByteString", "internal/bytealg.IndexString"], unfollowed := true, recurses := true, named := ["internal/bytealg.MaxLen"], apart := false }
def FnKnivesSaid : Prop := fnKnivesRow.holds Try.pinned (OpenSpec.ofChange fnKnivesSpec)

/-- ITS FALSE NEIGHBOUR: 'it returns false'. Refute it at one input. -/
def fnKnivesWrong : ChangeSpec := { name := "fnKnives", fn := fun _ => fun
  | [d] => { results := [.lit (.bool false)], args := [d] }
  | _ => none }
def FnKnivesWrongFalsely : Prop := fnKnivesRow.holds Try.pinned (OpenSpec.ofChange fnKnivesWrong)

/-- 'laws.FnExactNearestOrder': WHATEVER THE INPUT: true; the input reads as it did. -/
def fnExactNearestOrderSpec : ChangeSpec := { name := "fnExactNearestOrder", fn := fun _ => fun
  | [d] => { results := [.lit (.bool true)], args := [d] }
  | _ => none }
def fnExactNearestOrderRow : OpenClaim := { program := "ytlplfpoggifadaa", sum := "2aee05baf6c1d550462ffb2e59e7718b49b7eff47ba5e3eb9017fd7e6647463a", func := "loop.example/g03305/laws.FnExactNearestOrder", spec := "fnExactNearestOrder", apart := false }
def FnExactNearestOrderSaid : Prop := fnExactNearestOrderRow.holds Try.pinned (OpenSpec.ofChange fnExactNearestOrderSpec)

/-- ITS FALSE NEIGHBOUR: 'it returns false'. Refute it at one input. -/
def fnExactNearestOrderWrong : ChangeSpec := { name := "fnExactNearestOrder", fn := fun _ => fun
  | [d] => { results := [.lit (.bool false)], args := [d] }
  | _ => none }
def FnExactNearestOrderWrongFalsely : Prop := fnExactNearestOrderRow.holds Try.pinned (OpenSpec.ofChange fnExactNearestOrderWrong)

/-- 'laws.FnExactWayOf': WHATEVER THE INPUT: true; the input reads as it did. -/
def fnExactWayOfSpec : ChangeSpec := { name := "fnExactWayOf", fn := fun _ => fun
  | [d1, d2] => { results := [.lit (.bool true)], args := [d1, d2] }
  | _ => none }
def fnExactWayOfRow : OpenClaim := { program := "ytlplfpoggifadaa", sum := "2aee05baf6c1d550462ffb2e59e7718b49b7eff47ba5e3eb9017fd7e6647463a", func := "loop.example/g03305/laws.FnExactWayOf", spec := "fnExactWayOf", apart := false }
def FnExactWayOfSaid : Prop := fnExactWayOfRow.holds Try.pinned (OpenSpec.ofChange fnExactWayOfSpec)

/-- ITS FALSE NEIGHBOUR: 'it returns false'. Refute it at one input. -/
def fnExactWayOfWrong : ChangeSpec := { name := "fnExactWayOf", fn := fun _ => fun
  | [d1, d2] => { results := [.lit (.bool false)], args := [d1, d2] }
  | _ => none }
def FnExactWayOfWrongFalsely : Prop := fnExactWayOfRow.holds Try.pinned (OpenSpec.ofChange fnExactWayOfWrong)

/-- 'laws.FnExactTotalCut': WHATEVER THE INPUT: true; the input reads as it did. -/
def fnExactTotalCutSpec : ChangeSpec := { name := "fnExactTotalCut", fn := fun _ => fun
  | [d] => { results := [.lit (.bool true)], args := [d] }
  | _ => none }
def fnExactTotalCutRow : OpenClaim := { program := "ytlplfpoggifadaa", sum := "2aee05baf6c1d550462ffb2e59e7718b49b7eff47ba5e3eb9017fd7e6647463a", func := "loop.example/g03305/laws.FnExactTotalCut", spec := "fnExactTotalCut", apart := false }
def FnExactTotalCutSaid : Prop := fnExactTotalCutRow.holds Try.pinned (OpenSpec.ofChange fnExactTotalCutSpec)

/-- ITS FALSE NEIGHBOUR: 'it returns false'. Refute it at one input. -/
def fnExactTotalCutWrong : ChangeSpec := { name := "fnExactTotalCut", fn := fun _ => fun
  | [d] => { results := [.lit (.bool false)], args := [d] }
  | _ => none }
def FnExactTotalCutWrongFalsely : Prop := fnExactTotalCutRow.holds Try.pinned (OpenSpec.ofChange fnExactTotalCutWrong)

/- THE SECOND FORM. 'bulk': how many values and letters a reading holds, each counted each time it is reached (what is shared counts as often as it is met; a slice's spare places count too). A statement '..UptoSaid' is the law's where the arguments, and the package variables that the reading takes, are together of bulk at most 1048576: NARROWER than '..Said'. Prove '..Said' where nothing that the law and all that it calls make is longer than what came in: it says more and counts as full. Else prove '..UptoSaid'. A law counts once. -/
mutual
def uptoBulk {H : Type} : DataW H → Nat
  | .lit (.string bytes) => bytes.length + 1
  | .lit _ => 1
  | .nil => 1
  | .ptr d => uptoBulk d + 1
  | .slice elems spare => uptoBulkAll elems + uptoBulkAll spare + 1
  | .agg parts => uptoBulkAll parts + 1
  | .iface _ d => uptoBulk d + 1
  | .map entries => uptoBulkEntries entries + 1
  | .held _ => 1
def uptoBulkAll {H : Type} : List (DataW H) → Nat
  | [] => 0
  | d :: r => uptoBulk d + uptoBulkAll r
def uptoBulkEntries {H : Type} : List (Lit × DataW H) → Nat
  | [] => 0
  | x :: r => uptoBulkEntry x + uptoBulkEntries r
def uptoBulkEntry {H : Type} : Lit × DataW H → Nat
  | (.string bytes, d) => bytes.length + uptoBulk d + 1
  | (_, d) => uptoBulk d + 1
 end
def uptoSmall : (H : Type) → List (DataW H) → Bool := fun _ ds => decide (uptoBulkAll ds ≤ 1048576)
def OpenSpec.upto (s : _root_.Go.ChangeSpec) : _root_.Go.OpenSpec := { _root_.Go.OpenSpec.ofChange s with cond := some uptoSmall }

/-- 'laws.FnExactCutsOf', WHERE WHAT IT READS IS OF BULK AT MOST 1048576: true; the input reads as it did. -/
def fnExactCutsOfUptoRow : OpenClaim := { program := "ytlplfpoggifadaa", sum := "2aee05baf6c1d550462ffb2e59e7718b49b7eff47ba5e3eb9017fd7e6647463a", func := "loop.example/g03305/laws.FnExactCutsOf", spec := "fnExactCutsOf", inPlace := ["internal/bytealg.CountString", "internal/bytealg.IndexByteString", "internal/bytealg.IndexString"], named := ["internal/bytealg.MaxLen"], apart := false, narrowed := true }
def FnExactCutsOfUptoSaid : Prop := fnExactCutsOfUptoRow.holds Try.pinned (OpenSpec.upto fnExactCutsOfSpec)

/-- 'laws.FnExactShortestOrder', WHERE WHAT IT READS IS OF BULK AT MOST 1048576: true; the input reads as it did. -/
def fnExactShortestOrderUptoRow : OpenClaim := { program := "ytlplfpoggifadaa", sum := "2aee05baf6c1d550462ffb2e59e7718b49b7eff47ba5e3eb9017fd7e6647463a", func := "loop.example/g03305/laws.FnExactShortestOrder", spec := "fnExactShortestOrder", unfollowed := true, recurses := true, apart := false, narrowed := true }
def FnExactShortestOrderUptoSaid : Prop := fnExactShortestOrderUptoRow.holds Try.pinned (OpenSpec.upto fnExactShortestOrderSpec)

/-- 'laws.FnKnives', WHERE WHAT IT READS IS OF BULK AT MOST 1048576: true; the input reads as it did. -/
def fnKnivesUptoRow : OpenClaim := { program := "ytlplfpoggifadaa", sum := "2aee05baf6c1d550462ffb2e59e7718b49b7eff47ba5e3eb9017fd7e6647463a", func := "loop.example/g03305/laws.FnKnives", spec := "fnKnives", inPlace := ["internal/bytealg.CountString", "internal/bytealg.IndexByteString", "internal/bytealg.IndexString"], unfollowed := true, recurses := true, named := ["internal/bytealg.MaxLen"], apart := false, narrowed := true }
def FnKnivesUptoSaid : Prop := fnKnivesUptoRow.holds Try.pinned (OpenSpec.upto fnKnivesSpec)

/-- 'laws.FnExactNearestOrder', WHERE WHAT IT READS IS OF BULK AT MOST 1048576: true; the input reads as it did. -/
def fnExactNearestOrderUptoRow : OpenClaim := { program := "ytlplfpoggifadaa", sum := "2aee05baf6c1d550462ffb2e59e7718b49b7eff47ba5e3eb9017fd7e6647463a", func := "loop.example/g03305/laws.FnExactNearestOrder", spec := "fnExactNearestOrder", apart := false, narrowed := true }
def FnExactNearestOrderUptoSaid : Prop := fnExactNearestOrderUptoRow.holds Try.pinned (OpenSpec.upto fnExactNearestOrderSpec)

/-- 'laws.FnExactWayOf', WHERE WHAT IT READS IS OF BULK AT MOST 1048576: true; the input reads as it did. -/
def fnExactWayOfUptoRow : OpenClaim := { program := "ytlplfpoggifadaa", sum := "2aee05baf6c1d550462ffb2e59e7718b49b7eff47ba5e3eb9017fd7e6647463a", func := "loop.example/g03305/laws.FnExactWayOf", spec := "fnExactWayOf", apart := false, narrowed := true }
def FnExactWayOfUptoSaid : Prop := fnExactWayOfUptoRow.holds Try.pinned (OpenSpec.upto fnExactWayOfSpec)

/-- 'laws.FnExactTotalCut', WHERE WHAT IT READS IS OF BULK AT MOST 1048576: true; the input reads as it did. -/
def fnExactTotalCutUptoRow : OpenClaim := { program := "ytlplfpoggifadaa", sum := "2aee05baf6c1d550462ffb2e59e7718b49b7eff47ba5e3eb9017fd7e6647463a", func := "loop.example/g03305/laws.FnExactTotalCut", spec := "fnExactTotalCut", apart := false, narrowed := true }
def FnExactTotalCutUptoSaid : Prop := fnExactTotalCutUptoRow.holds Try.pinned (OpenSpec.upto fnExactTotalCutSpec)

end Rows
end Go.Proofs.Ytlplfpoggifadaa
