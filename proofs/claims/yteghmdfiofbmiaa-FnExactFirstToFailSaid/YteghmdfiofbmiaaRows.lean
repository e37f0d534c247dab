/-
  No cell of these rows narrows 'for every input' (looked for: loops, veiled, ifaces, maps, wideKeys, modest, calm, conditions, laid).
  DERIVED. THE GIVEN ROWS OF THIS SEAT. 9 by the template 'for every input the law returns true; each argument reads behind the call as it read before'; 0 by the template 'total and deterministic' (their statements: YteghmdfiofbmiaaTotals.lean).
  GIVEN WITH THE SEED: the statements are not yours to turn. If you find one false, say at which input.
  Laid BY PROGRAM, IN A SANDBOX (cutbox-rows.mjs): the forced cells as the released guide's own fill.sh prints them over the translation ee86eab01653bc83… (all of the seat's roots in one cut). By AI agents, Wed Nov 11 2026. No macro, syntax, notation, axiom, sorry.
-/
import Derived.Test.YteghmdfiofbmiaaChecked
import GoSem.Claim
import GoSem.ClaimJoined
import GoSem.ClaimMapViews
import Derived.JoinedTies
import Derived.KernelRfl
namespace Go.Proofs.Yteghmdfiofbmiaa
/- THE CELL 'sum', in the pinned program and in every row, IS THE sha256 OF THE DUMP (.gsa) THAT YteghmdfiofbmiaaProg.lean LOADS. Nothing in Lean hashes anything: it is a label: what it is worth is what the hold of that sum in a sandbox is worth. -/
noncomputable def Try.pinned : Pinned := { name := "yteghmdfiofbmiaa", sum := "ee86eab01653bc8336ff33f65ea7e64450d77c25ab5361a6d034d347fa83567c", checked := Try.checked }
namespace Rows
def none {H : Type} : Left H := { results := [], args := [] }

/-- 'laws.FnExactPeriodOf': WHATEVER THE INPUT: true; the input reads as it did. -/
def fnExactPeriodOfSpec : ChangeSpec := { name := "fnExactPeriodOf", fn := fun _ => fun
  | [d] => { results := [.lit (.bool true)], args := [d] }
  | _ => none }
def fnExactPeriodOfRow : OpenClaim := { program := "yteghmdfiofbmiaa", sum := "ee86eab01653bc8336ff33f65ea7e64450d77c25ab5361a6d034d347fa83567c", func := "loop.example/g03305/laws.FnExactPeriodOf", spec := "fnExactPeriodOf", apart := false }
def FnExactPeriodOfSaid : Prop := fnExactPeriodOfRow.holds Try.pinned (OpenSpec.ofChange fnExactPeriodOfSpec)

/-- ITS FALSE NEIGHBOUR: 'it returns false'. Refute it at one input. -/
def fnExactPeriodOfWrong : ChangeSpec := { name := "fnExactPeriodOf", fn := fun _ => fun
  | [d] => { results := [.lit (.bool false)], args := [d] }
  | _ => none }
def FnExactPeriodOfWrongFalsely : Prop := fnExactPeriodOfRow.holds Try.pinned (OpenSpec.ofChange fnExactPeriodOfWrong)

/-- 'laws.FnDiscs': WHATEVER THE INPUT: true; the input reads as it did. -/
def fnDiscsSpec : ChangeSpec := { name := "fnDiscs", fn := fun _ => fun
  | [d] => { results := [.lit (.bool true)], args := [d] }
  | _ => none }
def fnDiscsRow : OpenClaim := { program := "yteghmdfiofbmiaa", sum := "ee86eab01653bc8336ff33f65ea7e64450d77c25ab5361a6d034d347fa83567c", func := "loop.example/g03305/laws.FnDiscs", spec := "fnDiscs", apart := false }
def FnDiscsSaid : Prop := fnDiscsRow.holds Try.pinned (OpenSpec.ofChange fnDiscsSpec)

/-- ITS FALSE NEIGHBOUR: 'it returns false'. Refute it at one input. -/
def fnDiscsWrong : ChangeSpec := { name := "fnDiscs", fn := fun _ => fun
  | [d] => { results := [.lit (.bool false)], args := [d] }
  | _ => none }
def FnDiscsWrongFalsely : Prop := fnDiscsRow.holds Try.pinned (OpenSpec.ofChange fnDiscsWrong)

/-- 'laws.FnExactTurnDisc': WHATEVER THE INPUT: true; the input reads as it did. -/
def fnExactTurnDiscSpec : ChangeSpec := { name := "fnExactTurnDisc", fn := fun _ => fun
  | [d1, d2] => { results := [.lit (.bool true)], args := [d1, d2] }
  | _ => none }
def fnExactTurnDiscRow : OpenClaim := { program := "yteghmdfiofbmiaa", sum := "ee86eab01653bc8336ff33f65ea7e64450d77c25ab5361a6d034d347fa83567c", func := "loop.example/g03305/laws.FnExactTurnDisc", spec := "fnExactTurnDisc", apart := false }
def FnExactTurnDiscSaid : Prop := fnExactTurnDiscRow.holds Try.pinned (OpenSpec.ofChange fnExactTurnDiscSpec)

/-- ITS FALSE NEIGHBOUR: 'it returns false'. Refute it at one input. -/
def fnExactTurnDiscWrong : ChangeSpec := { name := "fnExactTurnDisc", fn := fun _ => fun
  | [d1, d2] => { results := [.lit (.bool false)], args := [d1, d2] }
  | _ => none }
def FnExactTurnDiscWrongFalsely : Prop := fnExactTurnDiscRow.holds Try.pinned (OpenSpec.ofChange fnExactTurnDiscWrong)

/-- 'laws.FnExactWayOf': WHATEVER THE INPUT: true; the input reads as it did. -/
def fnExactWayOfSpec : ChangeSpec := { name := "fnExactWayOf", fn := fun _ => fun
  | [d1, d2] => { results := [.lit (.bool true)], args := [d1, d2] }
  | _ => none }
def fnExactWayOfRow : OpenClaim := { program := "yteghmdfiofbmiaa", sum := "ee86eab01653bc8336ff33f65ea7e64450d77c25ab5361a6d034d347fa83567c", func := "loop.example/g03305/laws.FnExactWayOf", spec := "fnExactWayOf", apart := false }
def FnExactWayOfSaid : Prop := fnExactWayOfRow.holds Try.pinned (OpenSpec.ofChange fnExactWayOfSpec)

/-- ITS FALSE NEIGHBOUR: 'it returns false'. Refute it at one input. -/
def fnExactWayOfWrong : ChangeSpec := { name := "fnExactWayOf", fn := fun _ => fun
  | [d1, d2] => { results := [.lit (.bool false)], args := [d1, d2] }
  | _ => none }
def FnExactWayOfWrongFalsely : Prop := fnExactWayOfRow.holds Try.pinned (OpenSpec.ofChange fnExactWayOfWrong)

/-- 'laws.FnExactNearestOrder': WHATEVER THE INPUT: true; the input reads as it did. -/
def fnExactNearestOrderSpec : ChangeSpec := { name := "fnExactNearestOrder", fn := fun _ => fun
  | [d] => { results := [.lit (.bool true)], args := [d] }
  | _ => none }
def fnExactNearestOrderRow : OpenClaim := { program := "yteghmdfiofbmiaa", sum := "ee86eab01653bc8336ff33f65ea7e64450d77c25ab5361a6d034d347fa83567c", func := "loop.example/g03305/laws.FnExactNearestOrder", spec := "fnExactNearestOrder", apart := false }
def FnExactNearestOrderSaid : Prop := fnExactNearestOrderRow.holds Try.pinned (OpenSpec.ofChange fnExactNearestOrderSpec)

/-- ITS FALSE NEIGHBOUR: 'it returns false'. Refute it at one input. -/
def fnExactNearestOrderWrong : ChangeSpec := { name := "fnExactNearestOrder", fn := fun _ => fun
  | [d] => { results := [.lit (.bool false)], args := [d] }
  | _ => none }
def FnExactNearestOrderWrongFalsely : Prop := fnExactNearestOrderRow.holds Try.pinned (OpenSpec.ofChange fnExactNearestOrderWrong)

/-- 'laws.FnExactShortestOrder': WHATEVER THE INPUT: true; the input reads as it did. -/
def fnExactShortestOrderSpec : ChangeSpec := { name := "fnExactShortestOrder", fn := fun _ => fun
  | [d] => { results := [.lit (.bool true)], args := [d] }
  | _ => none }
def fnExactShortestOrderRow : OpenClaim := { program := "yteghmdfiofbmiaa", sum := "ee86eab01653bc8336ff33f65ea7e64450d77c25ab5361a6d034d347fa83567c", func := "loop.example/g03305/laws.FnExactShortestOrder", spec := "fnExactShortestOrder", unfollowed := true, recurses := true, apart := false }
def FnExactShortestOrderSaid : Prop := fnExactShortestOrderRow.holds Try.pinned (OpenSpec.ofChange fnExactShortestOrderSpec)

/-- ITS FALSE NEIGHBOUR: 'it returns false'. Refute it at one input. -/
def fnExactShortestOrderWrong : ChangeSpec := { name := "fnExactShortestOrder", fn := fun _ => fun
  | [d] => { results := [.lit (.bool false)], args := [d] }
  | _ => none }
def FnExactShortestOrderWrongFalsely : Prop := fnExactShortestOrderRow.holds Try.pinned (OpenSpec.ofChange fnExactShortestOrderWrong)

/-- 'laws.FnKnives': WHATEVER THE INPUT: true; the input reads as it did. -/
def fnKnivesSpec : ChangeSpec := { name := "fnKnives", fn := fun _ => fun
  | [d] => { results := [.lit (.bool true)], args := [d] }
  | _ => none }
def fnKnivesRow : OpenClaim := { program := "yteghmdfiofbmiaa", sum := "ee86eab01653bc8336ff33f65ea7e64450d77c25ab5361a6d034d347fa83567c", func := "loop.example/g03305/laws.FnKnives", spec := "fnKnives", inPlace := ["internal/bytealg.CountString", "internal/bytealg.IndexByteString", "internal/bytealg.IndexString"], unfollowed := true, recurses := true, named := ["internal/bytealg.MaxLen"], apart := false }
def FnKnivesSaid : Prop := fnKnivesRow.holds Try.pinned (OpenSpec.ofChange fnKnivesSpec)

/-- ITS FALSE NEIGHBOUR: 'it returns false'. Refute it at one input. -/
def fnKnivesWrong : ChangeSpec := { name := "fnKnives", fn := fun _ => fun
  | [d] => { results := [.lit (.bool false)], args := [d] }
  | _ => none }
def FnKnivesWrongFalsely : Prop := fnKnivesRow.holds Try.pinned (OpenSpec.ofChange fnKnivesWrong)

/-- 'laws.FnExactLifeOf': WHATEVER THE INPUT: true; the input reads as it did. -/
def fnExactLifeOfSpec : ChangeSpec := { name := "fnExactLifeOf", fn := fun _ => fun
  | [d] => { results := [.lit (.bool true)], args := [d] }
  | _ => none }
def fnExactLifeOfRow : OpenClaim := { program := "yteghmdfiofbmiaa", sum := "ee86eab01653bc8336ff33f65ea7e64450d77c25ab5361a6d034d347fa83567c", func := "loop.example/g03305/laws.FnExactLifeOf", spec := "fnExactLifeOf", inPlace := ["internal/bytealg.CountString", "internal/bytealg.IndexByteString", "internal/bytealg.IndexString"], named := ["internal/bytealg.MaxLen"], apart := false }
def FnExactLifeOfSaid : Prop := fnExactLifeOfRow.holds Try.pinned (OpenSpec.ofChange fnExactLifeOfSpec)

/-- ITS FALSE NEIGHBOUR: 'it returns false'. Refute it at one input. -/
def fnExactLifeOfWrong : ChangeSpec := { name := "fnExactLifeOf", fn := fun _ => fun
  | [d] => { results := [.lit (.bool false)], args := [d] }
  | _ => none }
def FnExactLifeOfWrongFalsely : Prop := fnExactLifeOfRow.holds Try.pinned (OpenSpec.ofChange fnExactLifeOfWrong)

/-- 'laws.FnExactFirstToFail': WHATEVER THE INPUT: true; the input reads as it did. -/
def fnExactFirstToFailSpec : ChangeSpec := { name := "fnExactFirstToFail", fn := fun _ => fun
  | [d] => { results := [.lit (.bool true)], args := [d] }
  | _ => none }
def fnExactFirstToFailRow : OpenClaim := { program := "yteghmdfiofbmiaa", sum := "ee86eab01653bc8336ff33f65ea7e64450d77c25ab5361a6d034d347fa83567c", func := "loop.example/g03305/laws.FnExactFirstToFail", spec := "fnExactFirstToFail", inPlace := ["internal/bytealg.CountString", "internal/bytealg.IndexByteString", "internal/bytealg.IndexString"], named := ["internal/bytealg.MaxLen"], apart := false }
def FnExactFirstToFailSaid : Prop := fnExactFirstToFailRow.holds Try.pinned (OpenSpec.ofChange fnExactFirstToFailSpec)

/-- ITS FALSE NEIGHBOUR: 'it returns false'. Refute it at one input. -/
def fnExactFirstToFailWrong : ChangeSpec := { name := "fnExactFirstToFail", fn := fun _ => fun
  | [d] => { results := [.lit (.bool false)], args := [d] }
  | _ => none }
def FnExactFirstToFailWrongFalsely : Prop := fnExactFirstToFailRow.holds Try.pinned (OpenSpec.ofChange fnExactFirstToFailWrong)

/- THE SECOND FORM. 'bulk': how many values and letters a reading holds, each counted each time it is reached (what is shared counts as often as it is met; a slice's spare places count too). A statement '..UptoSaid' is the law's where the arguments, and the package variables that the reading takes, are together of bulk at most 1048576: NARROWER than '..Said'. Prove '..Said' where nothing that the law and all that it calls make is longer than what came in: it says more and counts as full. Else prove '..UptoSaid'. A law counts once. -/
mutual
def uptoBulk {H : Type} : DataW H → Nat
  | .lit (.string bytes) => bytes.length + 1
  | .lit _ => 1
  | .nil => 1
  | .ptr d => uptoBulk d + 1
  | .slice elems spare => uptoBulkAll elems + uptoBulkAll spare + 1
  | .agg parts => uptoBulkAll parts + 1
  | .iface _ d => uptoBulk d + 1
  | .map entries => uptoBulkEntries entries + 1
  | .held _ => 1
def uptoBulkAll {H : Type} : List (DataW H) → Nat
  | [] => 0
  | d :: r => uptoBulk d + uptoBulkAll r
def uptoBulkEntries {H : Type} : List (Lit × DataW H) → Nat
  | [] => 0
  | x :: r => uptoBulkEntry x + uptoBulkEntries r
def uptoBulkEntry {H : Type} : Lit × DataW H → Nat
  | (.string bytes, d) => bytes.length + uptoBulk d + 1
  | (_, d) => uptoBulk d + 1
 end
def uptoSmall : (H : Type) → List (DataW H) → Bool := fun _ ds => decide (uptoBulkAll ds ≤ 1048576)
def OpenSpec.upto (s : _root_.Go.ChangeSpec) : _root_.Go.OpenSpec := { _root_.Go.OpenSpec.ofChange s with cond := some uptoSmall }

/-- 'laws.FnExactPeriodOf', WHERE WHAT IT READS IS OF BULK AT MOST 1048576: true; the input reads as it did. -/
def fnExactPeriodOfUptoRow : OpenClaim := { program := "yteghmdfiofbmiaa", sum := "ee86eab01653bc8336ff33f65ea7e64450d77c25ab5361a6d034d347fa83567c", func := "loop.example/g03305/laws.FnExactPeriodOf", spec := "fnExactPeriodOf", apart := false, narrowed := true }
def FnExactPeriodOfUptoSaid : Prop := fnExactPeriodOfUptoRow.holds Try.pinned (OpenSpec.upto fnExactPeriodOfSpec)

/-- 'laws.FnDiscs', WHERE WHAT IT READS IS OF BULK AT MOST 1048576: true; the input reads as it did. -/
def fnDiscsUptoRow : OpenClaim := { program := "yteghmdfiofbmiaa", sum := "ee86eab01653bc8336ff33f65ea7e64450d77c25ab5361a6d034d347fa83567c", func := "loop.example/g03305/laws.FnDiscs", spec := "fnDiscs", apart := false, narrowed := true }
def FnDiscsUptoSaid : Prop := fnDiscsUptoRow.holds Try.pinned (OpenSpec.upto fnDiscsSpec)

/-- 'laws.FnExactTurnDisc', WHERE WHAT IT READS IS OF BULK AT MOST 1048576: true; the input reads as it did. -/
def fnExactTurnDiscUptoRow : OpenClaim := { program := "yteghmdfiofbmiaa", sum := "ee86eab01653bc8336ff33f65ea7e64450d77c25ab5361a6d034d347fa83567c", func := "loop.example/g03305/laws.FnExactTurnDisc", spec := "fnExactTurnDisc", apart := false, narrowed := true }
def FnExactTurnDiscUptoSaid : Prop := fnExactTurnDiscUptoRow.holds Try.pinned (OpenSpec.upto fnExactTurnDiscSpec)

/-- 'laws.FnExactWayOf', WHERE WHAT IT READS IS OF BULK AT MOST 1048576: true; the input reads as it did. -/
def fnExactWayOfUptoRow : OpenClaim := { program := "yteghmdfiofbmiaa", sum := "ee86eab01653bc8336ff33f65ea7e64450d77c25ab5361a6d034d347fa83567c", func := "loop.example/g03305/laws.FnExactWayOf", spec := "fnExactWayOf", apart := false, narrowed := true }
def FnExactWayOfUptoSaid : Prop := fnExactWayOfUptoRow.holds Try.pinned (OpenSpec.upto fnExactWayOfSpec)

/-- 'laws.FnExactNearestOrder', WHERE WHAT IT READS IS OF BULK AT MOST 1048576: true; the input reads as it did. -/
def fnExactNearestOrderUptoRow : OpenClaim := { program := "yteghmdfiofbmiaa", sum := "ee86eab01653bc8336ff33f65ea7e64450d77c25ab5361a6d034d347fa83567c", func := "loop.example/g03305/laws.FnExactNearestOrder", spec := "fnExactNearestOrder", apart := false, narrowed := true }
def FnExactNearestOrderUptoSaid : Prop := fnExactNearestOrderUptoRow.holds Try.pinned (OpenSpec.upto fnExactNearestOrderSpec)

/-- 'laws.FnExactShortestOrder', WHERE WHAT IT READS IS OF BULK AT MOST 1048576: true; the input reads as it did. -/
def fnExactShortestOrderUptoRow : OpenClaim := { program := "yteghmdfiofbmiaa", sum := "ee86eab01653bc8336ff33f65ea7e64450d77c25ab5361a6d034d347fa83567c", func := "loop.example/g03305/laws.FnExactShortestOrder", spec := "fnExactShortestOrder", unfollowed := true, recurses := true, apart := false, narrowed := true }
def FnExactShortestOrderUptoSaid : Prop := fnExactShortestOrderUptoRow.holds Try.pinned (OpenSpec.upto fnExactShortestOrderSpec)

/-- 'laws.FnKnives', WHERE WHAT IT READS IS OF BULK AT MOST 1048576: true; the input reads as it did. -/
def fnKnivesUptoRow : OpenClaim := { program := "yteghmdfiofbmiaa", sum := "ee86eab01653bc8336ff33f65ea7e64450d77c25ab5361a6d034d347fa83567c", func := "loop.example/g03305/laws.FnKnives", spec := "fnKnives", inPlace := ["internal/bytealg.CountString", "internal/bytealg.IndexByteString", "internal/bytealg.IndexString"], unfollowed := true, recurses := true, named := ["internal/bytealg.MaxLen"], apart := false, narrowed := true }
def FnKnivesUptoSaid : Prop := fnKnivesUptoRow.holds Try.pinned (OpenSpec.upto fnKnivesSpec)

/-- 'laws.FnExactLifeOf', WHERE WHAT IT READS IS OF BULK AT MOST 1048576: true; the input reads as it did. -/
def fnExactLifeOfUptoRow : OpenClaim := { program := "yteghmdfiofbmiaa", sum := "ee86eab01653bc8336ff33f65ea7e64450d77c25ab5361a6d034d347fa83567c", func := "loop.example/g03305/laws.FnExactLifeOf", spec := "fnExactLifeOf", inPlace := ["internal/bytealg.CountString", "internal/bytealg.IndexByteString", "internal/bytealg.IndexString"], named := ["internal/bytealg.MaxLen"], apart := false, narrowed := true }
def FnExactLifeOfUptoSaid : Prop := fnExactLifeOfUptoRow.holds Try.pinned (OpenSpec.upto fnExactLifeOfSpec)

/-- 'laws.FnExactFirstToFail', WHERE WHAT IT READS IS OF BULK AT MOST 1048576: true; the input reads as it did. -/
def fnExactFirstToFailUptoRow : OpenClaim := { program := "yteghmdfiofbmiaa", sum := "ee86eab01653bc8336ff33f65ea7e64450d77c25ab5361a6d034d347fa83567c", func := "loop.example/g03305/laws.FnExactFirstToFail", spec := "fnExactFirstToFail", inPlace := ["internal/bytealg.CountString", "internal/bytealg.IndexByteString", "internal/bytealg.IndexString"], named := ["internal/bytealg.MaxLen"], apart := false, narrowed := true }
def FnExactFirstToFailUptoSaid : Prop := fnExactFirstToFailUptoRow.holds Try.pinned (OpenSpec.upto fnExactFirstToFailSpec)

end Rows
end Go.Proofs.Yteghmdfiofbmiaa
