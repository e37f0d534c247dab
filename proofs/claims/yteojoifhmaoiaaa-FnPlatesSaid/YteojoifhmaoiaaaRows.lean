/-
  No cell of these rows narrows 'for every input' (looked for: loops, veiled, ifaces, maps, wideKeys, modest, calm, conditions, laid).
  DERIVED. THE GIVEN ROWS OF THIS SEAT. 7 by the template 'for every input the law returns true; each argument reads behind the call as it read before'; 0 by the template 'total and deterministic' (their statements: YteojoifhmaoiaaaTotals.lean).
  GIVEN WITH THE SEED: the statements are not yours to turn. If you find one false, say at which input.
  Laid BY PROGRAM, IN A SANDBOX (cutbox-rows.mjs): the forced cells as the released guide's own fill.sh prints them over the translation 72898bd4648fbd41… (all of the seat's roots in one cut). By AI agents, Wed Nov 11 2026. No macro, syntax, notation, axiom, sorry.
-/
import Derived.Test.YteojoifhmaoiaaaChecked
import GoSem.Claim
import GoSem.ClaimJoined
import GoSem.ClaimMapViews
import Derived.JoinedTies
import Derived.KernelRfl
namespace Go.Proofs.Yteojoifhmaoiaaa
/- THE CELL 'sum', in the pinned program and in every row, IS THE sha256 OF THE DUMP (.gsa) THAT YteojoifhmaoiaaaProg.lean LOADS. Nothing in Lean hashes anything: it is a label: what it is worth is what the hold of that sum in a sandbox is worth. -/
noncomputable def Try.pinned : Pinned := { name := "yteojoifhmaoiaaa", sum := "72898bd4648fbd4199e5d56f6a6b29feb53c972600af40237bdb3eaefc7b7ae2", checked := Try.checked }
namespace Rows
def none {H : Type} : Left H := { results := [], args := [] }

/-- 'laws.FnPlates': WHATEVER THE INPUT: true; the input reads as it did. -/
def fnPlatesSpec : ChangeSpec := { name := "fnPlates", fn := fun _ => fun
  | [d] => { results := [.lit (.bool true)], args := [d] }
  | _ => none }
def fnPlatesRow : OpenClaim := { program := "yteojoifhmaoiaaa", sum := "72898bd4648fbd4199e5d56f6a6b29feb53c972600af40237bdb3eaefc7b7ae2", func := "loop.example/g03305/laws.FnPlates", spec := "fnPlates", inPlace := ["internal/bytealg.CountString", "internal/bytealg.IndexByteString", "internal/bytealg.IndexString"], unfollowed := true, recurses := true, named := ["internal/bytealg.MaxLen"], apart := false }
def FnPlatesSaid : Prop := fnPlatesRow.holds Try.pinned (OpenSpec.ofChange fnPlatesSpec)

/-- ITS FALSE NEIGHBOUR: 'it returns false'. Refute it at one input. -/
def fnPlatesWrong : ChangeSpec := { name := "fnPlates", fn := fun _ => fun
  | [d] => { results := [.lit (.bool false)], args := [d] }
  | _ => none }
def FnPlatesWrongFalsely : Prop := fnPlatesRow.holds Try.pinned (OpenSpec.ofChange fnPlatesWrong)

/-- 'laws.FnExactTwoColors': WHATEVER THE INPUT: true; the input reads as it did. -/
def fnExactTwoColorsSpec : ChangeSpec := { name := "fnExactTwoColors", fn := fun _ => fun
  | [d] => { results := [.lit (.bool true)], args := [d] }
  | _ => none }
def fnExactTwoColorsRow : OpenClaim := { program := "yteojoifhmaoiaaa", sum := "72898bd4648fbd4199e5d56f6a6b29feb53c972600af40237bdb3eaefc7b7ae2", func := "loop.example/g03305/laws.FnExactTwoColors", spec := "fnExactTwoColors", inPlace := ["internal/bytealg.CountString", "internal/bytealg.IndexByteString", "internal/bytealg.IndexString"], unfollowed := true, recurses := true, named := ["internal/bytealg.MaxLen"], apart := false }
def FnExactTwoColorsSaid : Prop := fnExactTwoColorsRow.holds Try.pinned (OpenSpec.ofChange fnExactTwoColorsSpec)

/-- ITS FALSE NEIGHBOUR: 'it returns false'. Refute it at one input. -/
def fnExactTwoColorsWrong : ChangeSpec := { name := "fnExactTwoColors", fn := fun _ => fun
  | [d] => { results := [.lit (.bool false)], args := [d] }
  | _ => none }
def FnExactTwoColorsWrongFalsely : Prop := fnExactTwoColorsRow.holds Try.pinned (OpenSpec.ofChange fnExactTwoColorsWrong)

/-- 'laws.FnExactTouchingFaces': WHATEVER THE INPUT: true; the input reads as it did. -/
def fnExactTouchingFacesSpec : ChangeSpec := { name := "fnExactTouchingFaces", fn := fun _ => fun
  | [d] => { results := [.lit (.bool true)], args := [d] }
  | _ => none }
def fnExactTouchingFacesRow : OpenClaim := { program := "yteojoifhmaoiaaa", sum := "72898bd4648fbd4199e5d56f6a6b29feb53c972600af40237bdb3eaefc7b7ae2", func := "loop.example/g03305/laws.FnExactTouchingFaces", spec := "fnExactTouchingFaces", inPlace := ["internal/bytealg.CountString", "internal/bytealg.IndexByteString", "internal/bytealg.IndexString"], unfollowed := true, recurses := true, named := ["internal/bytealg.MaxLen"], apart := false }
def FnExactTouchingFacesSaid : Prop := fnExactTouchingFacesRow.holds Try.pinned (OpenSpec.ofChange fnExactTouchingFacesSpec)

/-- ITS FALSE NEIGHBOUR: 'it returns false'. Refute it at one input. -/
def fnExactTouchingFacesWrong : ChangeSpec := { name := "fnExactTouchingFaces", fn := fun _ => fun
  | [d] => { results := [.lit (.bool false)], args := [d] }
  | _ => none }
def FnExactTouchingFacesWrongFalsely : Prop := fnExactTouchingFacesRow.holds Try.pinned (OpenSpec.ofChange fnExactTouchingFacesWrong)

/-- 'laws.FnExactPlatesOf': WHATEVER THE INPUT: true; the input reads as it did. -/
def fnExactPlatesOfSpec : ChangeSpec := { name := "fnExactPlatesOf", fn := fun _ => fun
  | [d1, d2] => { results := [.lit (.bool true)], args := [d1, d2] }
  | _ => none }
def fnExactPlatesOfRow : OpenClaim := { program := "yteojoifhmaoiaaa", sum := "72898bd4648fbd4199e5d56f6a6b29feb53c972600af40237bdb3eaefc7b7ae2", func := "loop.example/g03305/laws.FnExactPlatesOf", spec := "fnExactPlatesOf", inPlace := ["internal/bytealg.CountString", "internal/bytealg.IndexByteString", "internal/bytealg.IndexString"], recurses := true, named := ["internal/bytealg.MaxLen"], apart := false }
def FnExactPlatesOfSaid : Prop := fnExactPlatesOfRow.holds Try.pinned (OpenSpec.ofChange fnExactPlatesOfSpec)

/-- ITS FALSE NEIGHBOUR: 'it returns false'. Refute it at one input. -/
def fnExactPlatesOfWrong : ChangeSpec := { name := "fnExactPlatesOf", fn := fun _ => fun
  | [d1, d2] => { results := [.lit (.bool false)], args := [d1, d2] }
  | _ => none }
def FnExactPlatesOfWrongFalsely : Prop := fnExactPlatesOfRow.holds Try.pinned (OpenSpec.ofChange fnExactPlatesOfWrong)

/-- 'laws.FnExactFoldContrast': WHATEVER THE INPUT: true; the input reads as it did. -/
def fnExactFoldContrastSpec : ChangeSpec := { name := "fnExactFoldContrast", fn := fun _ => fun
  | [d1, d2] => { results := [.lit (.bool true)], args := [d1, d2] }
  | _ => none }
def fnExactFoldContrastRow : OpenClaim := { program := "yteojoifhmaoiaaa", sum := "72898bd4648fbd4199e5d56f6a6b29feb53c972600af40237bdb3eaefc7b7ae2", func := "loop.example/g03305/laws.FnExactFoldContrast", spec := "fnExactFoldContrast", inPlace := ["internal/bytealg.CountString", "internal/bytealg.IndexByteString", "internal/bytealg.IndexString"], unfollowed := true, recurses := true, named := ["internal/bytealg.MaxLen"], apart := false }
def FnExactFoldContrastSaid : Prop := fnExactFoldContrastRow.holds Try.pinned (OpenSpec.ofChange fnExactFoldContrastSpec)

/-- ITS FALSE NEIGHBOUR: 'it returns false'. Refute it at one input. -/
def fnExactFoldContrastWrong : ChangeSpec := { name := "fnExactFoldContrast", fn := fun _ => fun
  | [d1, d2] => { results := [.lit (.bool false)], args := [d1, d2] }
  | _ => none }
def FnExactFoldContrastWrongFalsely : Prop := fnExactFoldContrastRow.holds Try.pinned (OpenSpec.ofChange fnExactFoldContrastWrong)

/-- 'laws.FnExactColorsOk': WHATEVER THE INPUT: true; the input reads as it did. -/
def fnExactColorsOkSpec : ChangeSpec := { name := "fnExactColorsOk", fn := fun _ => fun
  | [d1, d2] => { results := [.lit (.bool true)], args := [d1, d2] }
  | _ => none }
def fnExactColorsOkRow : OpenClaim := { program := "yteojoifhmaoiaaa", sum := "72898bd4648fbd4199e5d56f6a6b29feb53c972600af40237bdb3eaefc7b7ae2", func := "loop.example/g03305/laws.FnExactColorsOk", spec := "fnExactColorsOk", inPlace := ["internal/bytealg.CountString", "internal/bytealg.IndexByteString", "internal/bytealg.IndexString"], recurses := true, named := ["internal/bytealg.MaxLen"], apart := false }
def FnExactColorsOkSaid : Prop := fnExactColorsOkRow.holds Try.pinned (OpenSpec.ofChange fnExactColorsOkSpec)

/-- ITS FALSE NEIGHBOUR: 'it returns false'. Refute it at one input. -/
def fnExactColorsOkWrong : ChangeSpec := { name := "fnExactColorsOk", fn := fun _ => fun
  | [d1, d2] => { results := [.lit (.bool false)], args := [d1, d2] }
  | _ => none }
def FnExactColorsOkWrongFalsely : Prop := fnExactColorsOkRow.holds Try.pinned (OpenSpec.ofChange fnExactColorsOkWrong)

/-- 'laws.FnExactInkOf': WHATEVER THE INPUT: true; the input reads as it did. -/
def fnExactInkOfSpec : ChangeSpec := { name := "fnExactInkOf", fn := fun _ => fun
  | [d1, d2, d3] => { results := [.lit (.bool true)], args := [d1, d2, d3] }
  | _ => none }
def fnExactInkOfRow : OpenClaim := { program := "yteojoifhmaoiaaa", sum := "72898bd4648fbd4199e5d56f6a6b29feb53c972600af40237bdb3eaefc7b7ae2", func := "loop.example/g03305/laws.FnExactInkOf", spec := "fnExactInkOf", inPlace := ["internal/bytealg.CountString", "internal/bytealg.IndexByteString", "internal/bytealg.IndexString"], recurses := true, named := ["internal/bytealg.MaxLen"], apart := false }
def FnExactInkOfSaid : Prop := fnExactInkOfRow.holds Try.pinned (OpenSpec.ofChange fnExactInkOfSpec)

/-- ITS FALSE NEIGHBOUR: 'it returns false'. Refute it at one input. -/
def fnExactInkOfWrong : ChangeSpec := { name := "fnExactInkOf", fn := fun _ => fun
  | [d1, d2, d3] => { results := [.lit (.bool false)], args := [d1, d2, d3] }
  | _ => none }
def FnExactInkOfWrongFalsely : Prop := fnExactInkOfRow.holds Try.pinned (OpenSpec.ofChange fnExactInkOfWrong)

/- THE SECOND FORM. 'bulk': how many values and letters a reading holds, each counted each time it is reached (what is shared counts as often as it is met; a slice's spare places count too). A statement '..UptoSaid' is the law's where the arguments, and the package variables that the reading takes, are together of bulk at most 1048576: NARROWER than '..Said'. Prove '..Said' where nothing that the law and all that it calls make is longer than what came in: it says more and counts as full. Else prove '..UptoSaid'. A law counts once. -/
mutual
def uptoBulk {H : Type} : DataW H → Nat
  | .lit (.string bytes) => bytes.length + 1
  | .lit _ => 1
  | .nil => 1
  | .ptr d => uptoBulk d + 1
  | .slice elems spare => uptoBulkAll elems + uptoBulkAll spare + 1
  | .agg parts => uptoBulkAll parts + 1
  | .iface _ d => uptoBulk d + 1
  | .map entries => uptoBulkEntries entries + 1
  | .held _ => 1
def uptoBulkAll {H : Type} : List (DataW H) → Nat
  | [] => 0
  | d :: r => uptoBulk d + uptoBulkAll r
def uptoBulkEntries {H : Type} : List (Lit × DataW H) → Nat
  | [] => 0
  | x :: r => uptoBulkEntry x + uptoBulkEntries r
def uptoBulkEntry {H : Type} : Lit × DataW H → Nat
  | (.string bytes, d) => bytes.length + uptoBulk d + 1
  | (_, d) => uptoBulk d + 1
 end
def uptoSmall : (H : Type) → List (DataW H) → Bool := fun _ ds => decide (uptoBulkAll ds ≤ 1048576)
def OpenSpec.upto (s : _root_.Go.ChangeSpec) : _root_.Go.OpenSpec := { _root_.Go.OpenSpec.ofChange s with cond := some uptoSmall }

/-- 'laws.FnPlates', WHERE WHAT IT READS IS OF BULK AT MOST 1048576: true; the input reads as it did. -/
def fnPlatesUptoRow : OpenClaim := { program := "yteojoifhmaoiaaa", sum := "72898bd4648fbd4199e5d56f6a6b29feb53c972600af40237bdb3eaefc7b7ae2", func := "loop.example/g03305/laws.FnPlates", spec := "fnPlates", inPlace := ["internal/bytealg.CountString", "internal/bytealg.IndexByteString", "internal/bytealg.IndexString"], unfollowed := true, recurses := true, named := ["internal/bytealg.MaxLen"], apart := false, narrowed := true }
def FnPlatesUptoSaid : Prop := fnPlatesUptoRow.holds Try.pinned (OpenSpec.upto fnPlatesSpec)

/-- 'laws.FnExactTwoColors', WHERE WHAT IT READS IS OF BULK AT MOST 1048576: true; the input reads as it did. -/
def fnExactTwoColorsUptoRow : OpenClaim := { program := "yteojoifhmaoiaaa", sum := "72898bd4648fbd4199e5d56f6a6b29feb53c972600af40237bdb3eaefc7b7ae2", func := "loop.example/g03305/laws.FnExactTwoColors", spec := "fnExactTwoColors", inPlace := ["internal/bytealg.CountString", "internal/bytealg.IndexByteString", "internal/bytealg.IndexString"], unfollowed := true, recurses := true, named := ["internal/bytealg.MaxLen"], apart := false, narrowed := true }
def FnExactTwoColorsUptoSaid : Prop := fnExactTwoColorsUptoRow.holds Try.pinned (OpenSpec.upto fnExactTwoColorsSpec)

/-- 'laws.FnExactTouchingFaces', WHERE WHAT IT READS IS OF BULK AT MOST 1048576: true; the input reads as it did. -/
def fnExactTouchingFacesUptoRow : OpenClaim := { program := "yteojoifhmaoiaaa", sum := "72898bd4648fbd4199e5d56f6a6b29feb53c972600af40237bdb3eaefc7b7ae2", func := "loop.example/g03305/laws.FnExactTouchingFaces", spec := "fnExactTouchingFaces", inPlace := ["internal/bytealg.CountString", "internal/bytealg.IndexByteString", "internal/bytealg.IndexString"], unfollowed := true, recurses := true, named := ["internal/bytealg.MaxLen"], apart := false, narrowed := true }
def FnExactTouchingFacesUptoSaid : Prop := fnExactTouchingFacesUptoRow.holds Try.pinned (OpenSpec.upto fnExactTouchingFacesSpec)

/-- 'laws.FnExactPlatesOf', WHERE WHAT IT READS IS OF BULK AT MOST 1048576: true; the input reads as it did. -/
def fnExactPlatesOfUptoRow : OpenClaim := { program := "yteojoifhmaoiaaa", sum := "72898bd4648fbd4199e5d56f6a6b29feb53c972600af40237bdb3eaefc7b7ae2", func := "loop.example/g03305/laws.FnExactPlatesOf", spec := "fnExactPlatesOf", inPlace := ["internal/bytealg.CountString", "internal/bytealg.IndexByteString", "internal/bytealg.IndexString"], recurses := true, named := ["internal/bytealg.MaxLen"], apart := false, narrowed := true }
def FnExactPlatesOfUptoSaid : Prop := fnExactPlatesOfUptoRow.holds Try.pinned (OpenSpec.upto fnExactPlatesOfSpec)

/-- 'laws.FnExactFoldContrast', WHERE WHAT IT READS IS OF BULK AT MOST 1048576: true; the input reads as it did. -/
def fnExactFoldContrastUptoRow : OpenClaim := { program := "yteojoifhmaoiaaa", sum := "72898bd4648fbd4199e5d56f6a6b29feb53c972600af40237bdb3eaefc7b7ae2", func := "loop.example/g03305/laws.FnExactFoldContrast", spec := "fnExactFoldContrast", inPlace := ["internal/bytealg.CountString", "internal/bytealg.IndexByteString", "internal/bytealg.IndexString"], unfollowed := true, recurses := true, named := ["internal/bytealg.MaxLen"], apart := false, narrowed := true }
def FnExactFoldContrastUptoSaid : Prop := fnExactFoldContrastUptoRow.holds Try.pinned (OpenSpec.upto fnExactFoldContrastSpec)

/-- 'laws.FnExactColorsOk', WHERE WHAT IT READS IS OF BULK AT MOST 1048576: true; the input reads as it did. -/
def fnExactColorsOkUptoRow : OpenClaim := { program := "yteojoifhmaoiaaa", sum := "72898bd4648fbd4199e5d56f6a6b29feb53c972600af40237bdb3eaefc7b7ae2", func := "loop.example/g03305/laws.FnExactColorsOk", spec := "fnExactColorsOk", inPlace := ["internal/bytealg.CountString", "internal/bytealg.IndexByteString", "internal/bytealg.IndexString"], recurses := true, named := ["internal/bytealg.MaxLen"], apart := false, narrowed := true }
def FnExactColorsOkUptoSaid : Prop := fnExactColorsOkUptoRow.holds Try.pinned (OpenSpec.upto fnExactColorsOkSpec)

/-- 'laws.FnExactInkOf', WHERE WHAT IT READS IS OF BULK AT MOST 1048576: true; the input reads as it did. -/
def fnExactInkOfUptoRow : OpenClaim := { program := "yteojoifhmaoiaaa", sum := "72898bd4648fbd4199e5d56f6a6b29feb53c972600af40237bdb3eaefc7b7ae2", func := "loop.example/g03305/laws.FnExactInkOf", spec := "fnExactInkOf", inPlace := ["internal/bytealg.CountString", "internal/bytealg.IndexByteString", "internal/bytealg.IndexString"], recurses := true, named := ["internal/bytealg.MaxLen"], apart := false, narrowed := true }
def FnExactInkOfUptoSaid : Prop := fnExactInkOfUptoRow.holds Try.pinned (OpenSpec.upto fnExactInkOfSpec)

end Rows
end Go.Proofs.Yteojoifhmaoiaaa
