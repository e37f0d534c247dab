/-
  No cell of these rows narrows 'for every input' (looked for: loops, veiled, ifaces, maps, wideKeys, modest, calm, conditions, laid).
  DERIVED. THE GIVEN ROWS OF THIS SEAT. 5 by the template 'for every input the law returns true; each argument reads behind the call as it read before'; 0 by the template 'total and deterministic' (their statements: YtlddbbdgmpeblaaTotals.lean).
  GIVEN WITH THE SEED: the statements are not yours to turn. If you find one false, say at which input.
  Laid BY PROGRAM, IN A SANDBOX (cutbox-rows.mjs): the forced cells as the released guide's own fill.sh prints them over the translation 6e84ea03f5f5b62d… (all of the seat's roots in one cut). By AI agents, Wed Nov 11 2026. No macro, syntax, notation, axiom, sorry.
-/
import Derived.Test.YtlddbbdgmpeblaaChecked
import GoSem.Claim
import GoSem.ClaimJoined
import GoSem.ClaimMapViews
import Derived.JoinedTies
import Derived.KernelRfl
namespace Go.Proofs.Ytlddbbdgmpeblaa
/- THE CELL 'sum', in the pinned program and in every row, IS THE sha256 OF THE DUMP (.gsa) THAT YtlddbbdgmpeblaaProg.lean LOADS. Nothing in Lean hashes anything: it is a label: what it is worth is what the hold of that sum in a sandbox is worth. -/
noncomputable def Try.pinned : Pinned := { name := "ytlddbbdgmpeblaa", sum := "6e84ea03f5f5b62d81a7aa690db7ea6846861a35a5c37a79381ee3a3221761b8", checked := Try.checked }
namespace Rows
def none {H : Type} : Left H := { results := [], args := [] }

/-- 'laws.FnExactTouchingFaces': WHATEVER THE INPUT: true; the input reads as it did. -/
def fnExactTouchingFacesSpec : ChangeSpec := { name := "fnExactTouchingFaces", fn := fun _ => fun
  | [d] => { results := [.lit (.bool true)], args := [d] }
  | _ => none }
def fnExactTouchingFacesRow : OpenClaim := { program := "ytlddbbdgmpeblaa", sum := "6e84ea03f5f5b62d81a7aa690db7ea6846861a35a5c37a79381ee3a3221761b8", func := "loop.example/g03305/laws.FnExactTouchingFaces", spec := "fnExactTouchingFaces", inPlace := ["internal/bytealg.CountString", "internal/bytealg.IndexByteString", "internal/bytealg.IndexString"], unfollowed := true, recurses := true, named := ["internal/bytealg.MaxLen"], apart := false }
def FnExactTouchingFacesSaid : Prop := fnExactTouchingFacesRow.holds Try.pinned (OpenSpec.ofChange fnExactTouchingFacesSpec)

/-- ITS FALSE NEIGHBOUR: 'it returns false'. Refute it at one input. -/
def fnExactTouchingFacesWrong : ChangeSpec := { name := "fnExactTouchingFaces", fn := fun _ => fun
  | [d] => { results := [.lit (.bool false)], args := [d] }
  | _ => none }
def FnExactTouchingFacesWrongFalsely : Prop := fnExactTouchingFacesRow.holds Try.pinned (OpenSpec.ofChange fnExactTouchingFacesWrong)

/-- 'laws.FnExactTwoColors': WHATEVER THE INPUT: true; the input reads as it did. -/
def fnExactTwoColorsSpec : ChangeSpec := { name := "fnExactTwoColors", fn := fun _ => fun
  | [d] => { results := [.lit (.bool true)], args := [d] }
  | _ => none }
def fnExactTwoColorsRow : OpenClaim := { program := "ytlddbbdgmpeblaa", sum := "6e84ea03f5f5b62d81a7aa690db7ea6846861a35a5c37a79381ee3a3221761b8", func := "loop.example/g03305/laws.FnExactTwoColors", spec := "fnExactTwoColors", inPlace := ["internal/bytealg.CountString", "internal/bytealg.IndexByteString", "internal/bytealg.IndexString"], unfollowed := true, recurses := true, named := ["internal/bytealg.MaxLen"], apart := false }
def FnExactTwoColorsSaid : Prop := fnExactTwoColorsRow.holds Try.pinned (OpenSpec.ofChange fnExactTwoColorsSpec)

/-- ITS FALSE NEIGHBOUR: 'it returns false'. Refute it at one input. -/
def fnExactTwoColorsWrong : ChangeSpec := { name := "fnExactTwoColors", fn := fun _ => fun
  | [d] => { results := [.lit (.bool false)], args := [d] }
  | _ => none }
def FnExactTwoColorsWrongFalsely : Prop := fnExactTwoColorsRow.holds Try.pinned (OpenSpec.ofChange fnExactTwoColorsWrong)

/-- 'laws.FnPlates': WHATEVER THE INPUT: true; the input reads as it did. -/
def fnPlatesSpec : ChangeSpec := { name := "fnPlates", fn := fun _ => fun
  | [d] => { results := [.lit (.bool true)], args := [d] }
  | _ => none }
def fnPlatesRow : OpenClaim := { program := "ytlddbbdgmpeblaa", sum := "6e84ea03f5f5b62d81a7aa690db7ea6846861a35a5c37a79381ee3a3221761b8", func := "loop.example/g03305/laws.FnPlates", spec := "fnPlates", inPlace := ["internal/bytealg.CountString", "internal/bytealg.IndexByteString", "internal/bytealg.IndexString"], unfollowed := true, recurses := true, named := ["internal/bytealg.MaxLen"], apart := false }
def FnPlatesSaid : Prop := fnPlatesRow.holds Try.pinned (OpenSpec.ofChange fnPlatesSpec)

/-- ITS FALSE NEIGHBOUR: 'it returns false'. Refute it at one input. -/
def fnPlatesWrong : ChangeSpec := { name := "fnPlates", fn := fun _ => fun
  | [d] => { results := [.lit (.bool false)], args := [d] }
  | _ => none }
def FnPlatesWrongFalsely : Prop := fnPlatesRow.holds Try.pinned (OpenSpec.ofChange fnPlatesWrong)

/-- 'laws.FnExactPlatesOf': WHATEVER THE INPUT: true; the input reads as it did. -/
def fnExactPlatesOfSpec : ChangeSpec := { name := "fnExactPlatesOf", fn := fun _ => fun
  | [d1, d2] => { results := [.lit (.bool true)], args := [d1, d2] }
  | _ => none }
def fnExactPlatesOfRow : OpenClaim := { program := "ytlddbbdgmpeblaa", sum := "6e84ea03f5f5b62d81a7aa690db7ea6846861a35a5c37a79381ee3a3221761b8", func := "loop.example/g03305/laws.FnExactPlatesOf", spec := "fnExactPlatesOf", inPlace := ["internal/bytealg.CountString", "internal/bytealg.IndexByteString", "internal/bytealg.IndexString"], recurses := true, named := ["internal/bytealg.MaxLen"], apart := false }
def FnExactPlatesOfSaid : Prop := fnExactPlatesOfRow.holds Try.pinned (OpenSpec.ofChange fnExactPlatesOfSpec)

/-- ITS FALSE NEIGHBOUR: 'it returns false'. Refute it at one input. -/
def fnExactPlatesOfWrong : ChangeSpec := { name := "fnExactPlatesOf", fn := fun _ => fun
  | [d1, d2] => { results := [.lit (.bool false)], args := [d1, d2] }
  | _ => none }
def FnExactPlatesOfWrongFalsely : Prop := fnExactPlatesOfRow.holds Try.pinned (OpenSpec.ofChange fnExactPlatesOfWrong)

/-- 'laws.FnExactFoldContrast': WHATEVER THE INPUT: true; the input reads as it did. -/
def fnExactFoldContrastSpec : ChangeSpec := { name := "fnExactFoldContrast", fn := fun _ => fun
  | [d1, d2] => { results := [.lit (.bool true)], args := [d1, d2] }
  | _ => none }
def fnExactFoldContrastRow : OpenClaim := { program := "ytlddbbdgmpeblaa", sum := "6e84ea03f5f5b62d81a7aa690db7ea6846861a35a5c37a79381ee3a3221761b8", func := "loop.example/g03305/laws.FnExactFoldContrast", spec := "fnExactFoldContrast", inPlace := ["internal/bytealg.CountString", "internal/bytealg.IndexByteString", "internal/bytealg.IndexString"], unfollowed := true, recurses := true, named := ["internal/bytealg.MaxLen"], apart := false }
def FnExactFoldContrastSaid : Prop := fnExactFoldContrastRow.holds Try.pinned (OpenSpec.ofChange fnExactFoldContrastSpec)

/-- ITS FALSE NEIGHBOUR: 'it returns false'. Refute it at one input. -/
def fnExactFoldContrastWrong : ChangeSpec := { name := "fnExactFoldContrast", fn := fun _ => fun
  | [d1, d2] => { results := [.lit (.bool false)], args := [d1, d2] }
  | _ => none }
def FnExactFoldContrastWrongFalsely : Prop := fnExactFoldContrastRow.holds Try.pinned (OpenSpec.ofChange fnExactFoldContrastWrong)

/- THE SECOND FORM. 'bulk': how many values and letters a reading holds, each counted each time it is reached (what is shared counts as often as it is met; a slice's spare places count too). A statement '..UptoSaid' is the law's where the arguments, and the package variables that the reading takes, are together of bulk at most 1048576: NARROWER than '..Said'. Prove '..Said' where nothing that the law and all that it calls make is longer than what came in: it says more and counts as full. Else prove '..UptoSaid'. A law counts once. -/
mutual
def uptoBulk {H : Type} : DataW H → Nat
  | .lit (.string bytes) => bytes.length + 1
  | .lit _ => 1
  | .nil => 1
  | .ptr d => uptoBulk d + 1
  | .slice elems spare => uptoBulkAll elems + uptoBulkAll spare + 1
  | .agg parts => uptoBulkAll parts + 1
  | .iface _ d => uptoBulk d + 1
  | .map entries => uptoBulkEntries entries + 1
  | .held _ => 1
def uptoBulkAll {H : Type} : List (DataW H) → Nat
  | [] => 0
  | d :: r => uptoBulk d + uptoBulkAll r
def uptoBulkEntries {H : Type} : List (Lit × DataW H) → Nat
  | [] => 0
  | x :: r => uptoBulkEntry x + uptoBulkEntries r
def uptoBulkEntry {H : Type} : Lit × DataW H → Nat
  | (.string bytes, d) => bytes.length + uptoBulk d + 1
  | (_, d) => uptoBulk d + 1
 end
def uptoSmall : (H : Type) → List (DataW H) → Bool := fun _ ds => decide (uptoBulkAll ds ≤ 1048576)
def OpenSpec.upto (s : _root_.Go.ChangeSpec) : _root_.Go.OpenSpec := { _root_.Go.OpenSpec.ofChange s with cond := some uptoSmall }

/-- 'laws.FnExactTouchingFaces', WHERE WHAT IT READS IS OF BULK AT MOST 1048576: true; the input reads as it did. -/
def fnExactTouchingFacesUptoRow : OpenClaim := { program := "ytlddbbdgmpeblaa", sum := "6e84ea03f5f5b62d81a7aa690db7ea6846861a35a5c37a79381ee3a3221761b8", func := "loop.example/g03305/laws.FnExactTouchingFaces", spec := "fnExactTouchingFaces", inPlace := ["internal/bytealg.CountString", "internal/bytealg.IndexByteString", "internal/bytealg.IndexString"], unfollowed := true, recurses := true, named := ["internal/bytealg.MaxLen"], apart := false, narrowed := true }
def FnExactTouchingFacesUptoSaid : Prop := fnExactTouchingFacesUptoRow.holds Try.pinned (OpenSpec.upto fnExactTouchingFacesSpec)

/-- 'laws.FnExactTwoColors', WHERE WHAT IT READS IS OF BULK AT MOST 1048576: true; the input reads as it did. -/
def fnExactTwoColorsUptoRow : OpenClaim := { program := "ytlddbbdgmpeblaa", sum := "6e84ea03f5f5b62d81a7aa690db7ea6846861a35a5c37a79381ee3a3221761b8", func := "loop.example/g03305/laws.FnExactTwoColors", spec := "fnExactTwoColors", inPlace := ["internal/bytealg.CountString", "internal/bytealg.IndexByteString", "internal/bytealg.IndexString"], unfollowed := true, recurses := true, named := ["internal/bytealg.MaxLen"], apart := false, narrowed := true }
def FnExactTwoColorsUptoSaid : Prop := fnExactTwoColorsUptoRow.holds Try.pinned (OpenSpec.upto fnExactTwoColorsSpec)

/-- 'laws.FnPlates', WHERE WHAT IT READS IS OF BULK AT MOST 1048576: true; the input reads as it did. -/
def fnPlatesUptoRow : OpenClaim := { program := "ytlddbbdgmpeblaa", sum := "6e84ea03f5f5b62d81a7aa690db7ea6846861a35a5c37a79381ee3a3221761b8", func := "loop.example/g03305/laws.FnPlates", spec := "fnPlates", inPlace := ["internal/bytealg.CountString", "internal/bytealg.IndexByteString", "internal/bytealg.IndexString"], unfollowed := true, recurses := true, named := ["internal/bytealg.MaxLen"], apart := false, narrowed := true }
def FnPlatesUptoSaid : Prop := fnPlatesUptoRow.holds Try.pinned (OpenSpec.upto fnPlatesSpec)

/-- 'laws.FnExactPlatesOf', WHERE WHAT IT READS IS OF BULK AT MOST 1048576: true; the input reads as it did. -/
def fnExactPlatesOfUptoRow : OpenClaim := { program := "ytlddbbdgmpeblaa", sum := "6e84ea03f5f5b62d81a7aa690db7ea6846861a35a5c37a79381ee3a3221761b8", func := "loop.example/g03305/laws.FnExactPlatesOf", spec := "fnExactPlatesOf", inPlace := ["internal/bytealg.CountString", "internal/bytealg.IndexByteString", "internal/bytealg.IndexString"], recurses := true, named := ["internal/bytealg.MaxLen"], apart := false, narrowed := true }
def FnExactPlatesOfUptoSaid : Prop := fnExactPlatesOfUptoRow.holds Try.pinned (OpenSpec.upto fnExactPlatesOfSpec)

/-- 'laws.FnExactFoldContrast', WHERE WHAT IT READS IS OF BULK AT MOST 1048576: true; the input reads as it did. -/
def fnExactFoldContrastUptoRow : OpenClaim := { program := "ytlddbbdgmpeblaa", sum := "6e84ea03f5f5b62d81a7aa690db7ea6846861a35a5c37a79381ee3a3221761b8", func := "loop.example/g03305/laws.FnExactFoldContrast", spec := "fnExactFoldContrast", inPlace := ["internal/bytealg.CountString", "internal/bytealg.IndexByteString", "internal/bytealg.IndexString"], unfollowed := true, recurses := true, named := ["internal/bytealg.MaxLen"], apart := false, narrowed := true }
def FnExactFoldContrastUptoSaid : Prop := fnExactFoldContrastUptoRow.holds Try.pinned (OpenSpec.upto fnExactFoldContrastSpec)

end Rows
end Go.Proofs.Ytlddbbdgmpeblaa
