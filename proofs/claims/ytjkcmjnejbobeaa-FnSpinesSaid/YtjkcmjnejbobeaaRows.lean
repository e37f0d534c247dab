/-
  No cell of these rows narrows 'for every input' (looked for: loops, veiled, ifaces, maps, wideKeys, modest, calm, conditions, laid).
  DERIVED. THE GIVEN ROWS OF THIS SEAT. 6 by the template 'for every input the law returns true; each argument reads behind the call as it read before'; 0 by the template 'total and deterministic' (their statements: YtjkcmjnejbobeaaTotals.lean).
  GIVEN WITH THE SEED: the statements are not yours to turn. If you find one false, say at which input.
  Laid BY PROGRAM, IN A SANDBOX (cutbox-rows.mjs): the forced cells as the released guide's own fill.sh prints them over the translation 081c764743754012… (all of the seat's roots in one cut). By AI agents, Wed Nov 11 2026. No macro, syntax, notation, axiom, sorry.
-/
import Derived.Test.YtjkcmjnejbobeaaChecked
import GoSem.Claim
import GoSem.ClaimJoined
import GoSem.ClaimMapViews
import Derived.JoinedTies
import Derived.KernelRfl
namespace Go.Proofs.Ytjkcmjnejbobeaa
/- THE CELL 'sum', in the pinned program and in every row, IS THE sha256 OF THE DUMP (.gsa) THAT YtjkcmjnejbobeaaProg.lean LOADS. Nothing in Lean hashes anything: it is a label: what it is worth is what the hold of that sum in a sandbox is worth. -/
noncomputable def Try.pinned : Pinned := { name := "ytjkcmjnejbobeaa", sum := "081c76474375401227f4460b9a217c2c012b2f360bf590c2f43a60f80f78d0ac", checked := Try.checked }
namespace Rows
def none {H : Type} : Left H := { results := [], args := [] }

/-- 'laws.FnSpines': WHATEVER THE INPUT: true; the input reads as it did. -/
def fnSpinesSpec : ChangeSpec := { name := "fnSpines", fn := fun _ => fun
  | [d] => { results := [.lit (.bool true)], args := [d] }
  | _ => none }
def fnSpinesRow : OpenClaim := { program := "ytjkcmjnejbobeaa", sum := "081c76474375401227f4460b9a217c2c012b2f360bf590c2f43a60f80f78d0ac", func := "loop.example/g03305/laws.FnSpines", spec := "fnSpines", inPlace := ["internal/bytealg.CountString", "internal/bytealg.IndexByteString", "internal/bytealg.IndexString"], unfollowed := true, recurses := true, named := ["internal/bytealg.MaxLen"], apart := false }
def FnSpinesSaid : Prop := fnSpinesRow.holds Try.pinned (OpenSpec.ofChange fnSpinesSpec)

/-- ITS FALSE NEIGHBOUR: 'it returns false'. Refute it at one input. -/
def fnSpinesWrong : ChangeSpec := { name := "fnSpines", fn := fun _ => fun
  | [d] => { results := [.lit (.bool false)], args := [d] }
  | _ => none }
def FnSpinesWrongFalsely : Prop := fnSpinesRow.holds Try.pinned (OpenSpec.ofChange fnSpinesWrong)

/-- 'laws.FnExactThickOrder': WHATEVER THE INPUT: true; the input reads as it did. -/
def fnExactThickOrderSpec : ChangeSpec := { name := "fnExactThickOrder", fn := fun _ => fun
  | [d1, d2] => { results := [.lit (.bool true)], args := [d1, d2] }
  | _ => none }
def fnExactThickOrderRow : OpenClaim := { program := "ytjkcmjnejbobeaa", sum := "081c76474375401227f4460b9a217c2c012b2f360bf590c2f43a60f80f78d0ac", func := "loop.example/g03305/laws.FnExactThickOrder", spec := "fnExactThickOrder", inPlace := ["internal/bytealg.CountString", "internal/bytealg.IndexByteString", "internal/bytealg.IndexString"], unfollowed := true, recurses := true, named := ["internal/bytealg.MaxLen"], apart := false }
def FnExactThickOrderSaid : Prop := fnExactThickOrderRow.holds Try.pinned (OpenSpec.ofChange fnExactThickOrderSpec)

/-- ITS FALSE NEIGHBOUR: 'it returns false'. Refute it at one input. -/
def fnExactThickOrderWrong : ChangeSpec := { name := "fnExactThickOrder", fn := fun _ => fun
  | [d1, d2] => { results := [.lit (.bool false)], args := [d1, d2] }
  | _ => none }
def FnExactThickOrderWrongFalsely : Prop := fnExactThickOrderRow.holds Try.pinned (OpenSpec.ofChange fnExactThickOrderWrong)

/-- 'laws.FnExactSpineWidth': WHATEVER THE INPUT: true; the input reads as it did. -/
def fnExactSpineWidthSpec : ChangeSpec := { name := "fnExactSpineWidth", fn := fun _ => fun
  | [d1, d2] => { results := [.lit (.bool true)], args := [d1, d2] }
  | _ => none }
def fnExactSpineWidthRow : OpenClaim := { program := "ytjkcmjnejbobeaa", sum := "081c76474375401227f4460b9a217c2c012b2f360bf590c2f43a60f80f78d0ac", func := "loop.example/g03305/laws.FnExactSpineWidth", spec := "fnExactSpineWidth", inPlace := ["internal/bytealg.CountString", "internal/bytealg.IndexByteString", "internal/bytealg.IndexString"], named := ["internal/bytealg.MaxLen"], apart := false }
def FnExactSpineWidthSaid : Prop := fnExactSpineWidthRow.holds Try.pinned (OpenSpec.ofChange fnExactSpineWidthSpec)

/-- ITS FALSE NEIGHBOUR: 'it returns false'. Refute it at one input. -/
def fnExactSpineWidthWrong : ChangeSpec := { name := "fnExactSpineWidth", fn := fun _ => fun
  | [d1, d2] => { results := [.lit (.bool false)], args := [d1, d2] }
  | _ => none }
def FnExactSpineWidthWrongFalsely : Prop := fnExactSpineWidthRow.holds Try.pinned (OpenSpec.ofChange fnExactSpineWidthWrong)

/-- 'laws.FnExactCardsIn': WHATEVER THE INPUT: true; the input reads as it did. -/
def fnExactCardsInSpec : ChangeSpec := { name := "fnExactCardsIn", fn := fun _ => fun
  | [d1, d2, d3] => { results := [.lit (.bool true)], args := [d1, d2, d3] }
  | _ => none }
def fnExactCardsInRow : OpenClaim := { program := "ytjkcmjnejbobeaa", sum := "081c76474375401227f4460b9a217c2c012b2f360bf590c2f43a60f80f78d0ac", func := "loop.example/g03305/laws.FnExactCardsIn", spec := "fnExactCardsIn", inPlace := ["internal/bytealg.CountString", "internal/bytealg.IndexByteString", "internal/bytealg.IndexString"], named := ["internal/bytealg.MaxLen"], apart := false }
def FnExactCardsInSaid : Prop := fnExactCardsInRow.holds Try.pinned (OpenSpec.ofChange fnExactCardsInSpec)

/-- ITS FALSE NEIGHBOUR: 'it returns false'. Refute it at one input. -/
def fnExactCardsInWrong : ChangeSpec := { name := "fnExactCardsIn", fn := fun _ => fun
  | [d1, d2, d3] => { results := [.lit (.bool false)], args := [d1, d2, d3] }
  | _ => none }
def FnExactCardsInWrongFalsely : Prop := fnExactCardsInRow.holds Try.pinned (OpenSpec.ofChange fnExactCardsInWrong)

/-- 'laws.FnExactBookSwells': WHATEVER THE INPUT: true; the input reads as it did. -/
def fnExactBookSwellsSpec : ChangeSpec := { name := "fnExactBookSwells", fn := fun _ => fun
  | [d1, d2, d3, d4] => { results := [.lit (.bool true)], args := [d1, d2, d3, d4] }
  | _ => none }
def fnExactBookSwellsRow : OpenClaim := { program := "ytjkcmjnejbobeaa", sum := "081c76474375401227f4460b9a217c2c012b2f360bf590c2f43a60f80f78d0ac", func := "loop.example/g03305/laws.FnExactBookSwells", spec := "fnExactBookSwells", inPlace := ["internal/bytealg.CountString", "internal/bytealg.IndexByteString", "internal/bytealg.IndexString"], named := ["internal/bytealg.MaxLen"], apart := false }
def FnExactBookSwellsSaid : Prop := fnExactBookSwellsRow.holds Try.pinned (OpenSpec.ofChange fnExactBookSwellsSpec)

/-- ITS FALSE NEIGHBOUR: 'it returns false'. Refute it at one input. -/
def fnExactBookSwellsWrong : ChangeSpec := { name := "fnExactBookSwells", fn := fun _ => fun
  | [d1, d2, d3, d4] => { results := [.lit (.bool false)], args := [d1, d2, d3, d4] }
  | _ => none }
def FnExactBookSwellsWrongFalsely : Prop := fnExactBookSwellsRow.holds Try.pinned (OpenSpec.ofChange fnExactBookSwellsWrong)

/-- 'laws.FnExactGuardsNeeded': WHATEVER THE INPUT: true; the input reads as it did. -/
def fnExactGuardsNeededSpec : ChangeSpec := { name := "fnExactGuardsNeeded", fn := fun _ => fun
  | [d1, d2, d3] => { results := [.lit (.bool true)], args := [d1, d2, d3] }
  | _ => none }
def fnExactGuardsNeededRow : OpenClaim := { program := "ytjkcmjnejbobeaa", sum := "081c76474375401227f4460b9a217c2c012b2f360bf590c2f43a60f80f78d0ac", func := "loop.example/g03305/laws.FnExactGuardsNeeded", spec := "fnExactGuardsNeeded", inPlace := ["internal/bytealg.CountString", "internal/bytealg.IndexByteString", "internal/bytealg.IndexString"], named := ["internal/bytealg.MaxLen"], apart := false }
def FnExactGuardsNeededSaid : Prop := fnExactGuardsNeededRow.holds Try.pinned (OpenSpec.ofChange fnExactGuardsNeededSpec)

/-- ITS FALSE NEIGHBOUR: 'it returns false'. Refute it at one input. -/
def fnExactGuardsNeededWrong : ChangeSpec := { name := "fnExactGuardsNeeded", fn := fun _ => fun
  | [d1, d2, d3] => { results := [.lit (.bool false)], args := [d1, d2, d3] }
  | _ => none }
def FnExactGuardsNeededWrongFalsely : Prop := fnExactGuardsNeededRow.holds Try.pinned (OpenSpec.ofChange fnExactGuardsNeededWrong)

/- THE SECOND FORM. 'bulk': how many values and letters a reading holds, each counted each time it is reached (what is shared counts as often as it is met; a slice's spare places count too). A statement '..UptoSaid' is the law's where the arguments, and the package variables that the reading takes, are together of bulk at most 1048576: NARROWER than '..Said'. Prove '..Said' where nothing that the law and all that it calls make is longer than what came in: it says more and counts as full. Else prove '..UptoSaid'. A law counts once. -/
mutual
def uptoBulk {H : Type} : DataW H → Nat
  | .lit (.string bytes) => bytes.length + 1
  | .lit _ => 1
  | .nil => 1
  | .ptr d => uptoBulk d + 1
  | .slice elems spare => uptoBulkAll elems + uptoBulkAll spare + 1
  | .agg parts => uptoBulkAll parts + 1
  | .iface _ d => uptoBulk d + 1
  | .map entries => uptoBulkEntries entries + 1
  | .held _ => 1
def uptoBulkAll {H : Type} : List (DataW H) → Nat
  | [] => 0
  | d :: r => uptoBulk d + uptoBulkAll r
def uptoBulkEntries {H : Type} : List (Lit × DataW H) → Nat
  | [] => 0
  | x :: r => uptoBulkEntry x + uptoBulkEntries r
def uptoBulkEntry {H : Type} : Lit × DataW H → Nat
  | (.string bytes, d) => bytes.length + uptoBulk d + 1
  | (_, d) => uptoBulk d + 1
 end
def uptoSmall : (H : Type) → List (DataW H) → Bool := fun _ ds => decide (uptoBulkAll ds ≤ 1048576)
def OpenSpec.upto (s : _root_.Go.ChangeSpec) : _root_.Go.OpenSpec := { _root_.Go.OpenSpec.ofChange s with cond := some uptoSmall }

/-- 'laws.FnSpines', WHERE WHAT IT READS IS OF BULK AT MOST 1048576: true; the input reads as it did. -/
def fnSpinesUptoRow : OpenClaim := { program := "ytjkcmjnejbobeaa", sum := "081c76474375401227f4460b9a217c2c012b2f360bf590c2f43a60f80f78d0ac", func := "loop.example/g03305/laws.FnSpines", spec := "fnSpines", inPlace := ["internal/bytealg.CountString", "internal/bytealg.IndexByteString", "internal/bytealg.IndexString"], unfollowed := true, recurses := true, named := ["internal/bytealg.MaxLen"], apart := false, narrowed := true }
def FnSpinesUptoSaid : Prop := fnSpinesUptoRow.holds Try.pinned (OpenSpec.upto fnSpinesSpec)

/-- 'laws.FnExactThickOrder', WHERE WHAT IT READS IS OF BULK AT MOST 1048576: true; the input reads as it did. -/
def fnExactThickOrderUptoRow : OpenClaim := { program := "ytjkcmjnejbobeaa", sum := "081c76474375401227f4460b9a217c2c012b2f360bf590c2f43a60f80f78d0ac", func := "loop.example/g03305/laws.FnExactThickOrder", spec := "fnExactThickOrder", inPlace := ["internal/bytealg.CountString", "internal/bytealg.IndexByteString", "internal/bytealg.IndexString"], unfollowed := true, recurses := true, named := ["internal/bytealg.MaxLen"], apart := false, narrowed := true }
def FnExactThickOrderUptoSaid : Prop := fnExactThickOrderUptoRow.holds Try.pinned (OpenSpec.upto fnExactThickOrderSpec)

/-- 'laws.FnExactSpineWidth', WHERE WHAT IT READS IS OF BULK AT MOST 1048576: true; the input reads as it did. -/
def fnExactSpineWidthUptoRow : OpenClaim := { program := "ytjkcmjnejbobeaa", sum := "081c76474375401227f4460b9a217c2c012b2f360bf590c2f43a60f80f78d0ac", func := "loop.example/g03305/laws.FnExactSpineWidth", spec := "fnExactSpineWidth", inPlace := ["internal/bytealg.CountString", "internal/bytealg.IndexByteString", "internal/bytealg.IndexString"], named := ["internal/bytealg.MaxLen"], apart := false, narrowed := true }
def FnExactSpineWidthUptoSaid : Prop := fnExactSpineWidthUptoRow.holds Try.pinned (OpenSpec.upto fnExactSpineWidthSpec)

/-- 'laws.FnExactCardsIn', WHERE WHAT IT READS IS OF BULK AT MOST 1048576: true; the input reads as it did. -/
def fnExactCardsInUptoRow : OpenClaim := { program := "ytjkcmjnejbobeaa", sum := "081c76474375401227f4460b9a217c2c012b2f360bf590c2f43a60f80f78d0ac", func := "loop.example/g03305/laws.FnExactCardsIn", spec := "fnExactCardsIn", inPlace := ["internal/bytealg.CountString", "internal/bytealg.IndexByteString", "internal/bytealg.IndexString"], named := ["internal/bytealg.MaxLen"], apart := false, narrowed := true }
def FnExactCardsInUptoSaid : Prop := fnExactCardsInUptoRow.holds Try.pinned (OpenSpec.upto fnExactCardsInSpec)

/-- 'laws.FnExactBookSwells', WHERE WHAT IT READS IS OF BULK AT MOST 1048576: true; the input reads as it did. -/
def fnExactBookSwellsUptoRow : OpenClaim := { program := "ytjkcmjnejbobeaa", sum := "081c76474375401227f4460b9a217c2c012b2f360bf590c2f43a60f80f78d0ac", func := "loop.example/g03305/laws.FnExactBookSwells", spec := "fnExactBookSwells", inPlace := ["internal/bytealg.CountString", "internal/bytealg.IndexByteString", "internal/bytealg.IndexString"], named := ["internal/bytealg.MaxLen"], apart := false, narrowed := true }
def FnExactBookSwellsUptoSaid : Prop := fnExactBookSwellsUptoRow.holds Try.pinned (OpenSpec.upto fnExactBookSwellsSpec)

/-- 'laws.FnExactGuardsNeeded', WHERE WHAT IT READS IS OF BULK AT MOST 1048576: true; the input reads as it did. -/
def fnExactGuardsNeededUptoRow : OpenClaim := { program := "ytjkcmjnejbobeaa", sum := "081c76474375401227f4460b9a217c2c012b2f360bf590c2f43a60f80f78d0ac", func := "loop.example/g03305/laws.FnExactGuardsNeeded", spec := "fnExactGuardsNeeded", inPlace := ["internal/bytealg.CountString", "internal/bytealg.IndexByteString", "internal/bytealg.IndexString"], named := ["internal/bytealg.MaxLen"], apart := false, narrowed := true }
def FnExactGuardsNeededUptoSaid : Prop := fnExactGuardsNeededUptoRow.holds Try.pinned (OpenSpec.upto fnExactGuardsNeededSpec)

end Rows
end Go.Proofs.Ytjkcmjnejbobeaa
