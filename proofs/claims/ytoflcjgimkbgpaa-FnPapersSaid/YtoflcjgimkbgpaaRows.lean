/-
  No cell of these rows narrows 'for every input' (looked for: loops, veiled, ifaces, maps, wideKeys, modest, calm, conditions, laid).
  DERIVED. THE GIVEN ROWS OF THIS SEAT. 12 by the template 'for every input the law returns true; each argument reads behind the call as it read before'; 0 by the template 'total and deterministic' (their statements: YtoflcjgimkbgpaaTotals.lean).
  GIVEN WITH THE SEED: the statements are not yours to turn. If you find one false, say at which input.
  Laid BY PROGRAM, IN A SANDBOX (cutbox-rows.mjs): the forced cells as the released guide's own fill.sh prints them over the translation 0a42fe7de4d25c8c… (all of the seat's roots in one cut). By AI agents, Wed Nov 11 2026. No macro, syntax, notation, axiom, sorry.
-/
import Derived.Test.YtoflcjgimkbgpaaChecked
import GoSem.Claim
import GoSem.ClaimJoined
import GoSem.ClaimMapViews
import Derived.JoinedTies
import Derived.KernelRfl
namespace Go.Proofs.Ytoflcjgimkbgpaa
/- THE CELL 'sum', in the pinned program and in every row, IS THE sha256 OF THE DUMP (.gsa) THAT YtoflcjgimkbgpaaProg.lean LOADS. Nothing in Lean hashes anything: it is a label: what it is worth is what the hold of that sum in a sandbox is worth. -/
noncomputable def Try.pinned : Pinned := { name := "ytoflcjgimkbgpaa", sum := "0a42fe7de4d25c8cf5c2450ee7e3bc0c9c9af2812b57fcceb2c733975700567b", checked := Try.checked }
namespace Rows
def none {H : Type} : Left H := { results := [], args := [] }

/-- 'laws.FnSheets': WHATEVER THE INPUT: true; the input reads as it did. -/
def fnSheetsSpec : ChangeSpec := { name := "fnSheets", fn := fun _ => fun
  | [d] => { results := [.lit (.bool true)], args := [d] }
  | _ => none }
def fnSheetsRow : OpenClaim := { program := "ytoflcjgimkbgpaa", sum := "0a42fe7de4d25c8cf5c2450ee7e3bc0c9c9af2812b57fcceb2c733975700567b", func := "loop.example/g03305/laws.FnSheets", spec := "fnSheets", inPlace := ["internal/bytealg.CountString", "internal/bytealg.IndexByteString", "internal/bytealg.IndexString"], unfollowed := true, recurses := true, named := ["internal/bytealg.MaxLen"], apart := false }
def FnSheetsSaid : Prop := fnSheetsRow.holds Try.pinned (OpenSpec.ofChange fnSheetsSpec)

/-- ITS FALSE NEIGHBOUR: 'it returns false'. Refute it at one input. -/
def fnSheetsWrong : ChangeSpec := { name := "fnSheets", fn := fun _ => fun
  | [d] => { results := [.lit (.bool false)], args := [d] }
  | _ => none }
def FnSheetsWrongFalsely : Prop := fnSheetsRow.holds Try.pinned (OpenSpec.ofChange fnSheetsWrong)

/-- 'laws.FnPapers': WHATEVER THE INPUT: true; the input reads as it did. -/
def fnPapersSpec : ChangeSpec := { name := "fnPapers", fn := fun _ => fun
  | [d] => { results := [.lit (.bool true)], args := [d] }
  | _ => none }
def fnPapersRow : OpenClaim := { program := "ytoflcjgimkbgpaa", sum := "0a42fe7de4d25c8cf5c2450ee7e3bc0c9c9af2812b57fcceb2c733975700567b", func := "loop.example/g03305/laws.FnPapers", spec := "fnPapers", inPlace := ["internal/bytealg.CountString", "internal/bytealg.IndexByteString", "internal/bytealg.IndexString"], unfollowed := true, recurses := true, named := ["internal/bytealg.MaxLen"], apart := false }
def FnPapersSaid : Prop := fnPapersRow.holds Try.pinned (OpenSpec.ofChange fnPapersSpec)

/-- ITS FALSE NEIGHBOUR: 'it returns false'. Refute it at one input. -/
def fnPapersWrong : ChangeSpec := { name := "fnPapers", fn := fun _ => fun
  | [d] => { results := [.lit (.bool false)], args := [d] }
  | _ => none }
def FnPapersWrongFalsely : Prop := fnPapersRow.holds Try.pinned (OpenSpec.ofChange fnPapersWrong)

/-- 'laws.FnExactBlankOf': WHATEVER THE INPUT: true; the input reads as it did. -/
def fnExactBlankOfSpec : ChangeSpec := { name := "fnExactBlankOf", fn := fun _ => fun
  | [d] => { results := [.lit (.bool true)], args := [d] }
  | _ => none }
def fnExactBlankOfRow : OpenClaim := { program := "ytoflcjgimkbgpaa", sum := "0a42fe7de4d25c8cf5c2450ee7e3bc0c9c9af2812b57fcceb2c733975700567b", func := "loop.example/g03305/laws.FnExactBlankOf", spec := "fnExactBlankOf", inPlace := ["internal/bytealg.CountString", "internal/bytealg.IndexByteString", "internal/bytealg.IndexString"], named := ["internal/bytealg.MaxLen"], apart := false }
def FnExactBlankOfSaid : Prop := fnExactBlankOfRow.holds Try.pinned (OpenSpec.ofChange fnExactBlankOfSpec)

/-- ITS FALSE NEIGHBOUR: 'it returns false'. Refute it at one input. -/
def fnExactBlankOfWrong : ChangeSpec := { name := "fnExactBlankOf", fn := fun _ => fun
  | [d] => { results := [.lit (.bool false)], args := [d] }
  | _ => none }
def FnExactBlankOfWrongFalsely : Prop := fnExactBlankOfRow.holds Try.pinned (OpenSpec.ofChange fnExactBlankOfWrong)

/-- 'laws.FnExactFitOn': WHATEVER THE INPUT: true; the input reads as it did. -/
def fnExactFitOnSpec : ChangeSpec := { name := "fnExactFitOn", fn := fun _ => fun
  | [d1, d2, d3] => { results := [.lit (.bool true)], args := [d1, d2, d3] }
  | _ => none }
def fnExactFitOnRow : OpenClaim := { program := "ytoflcjgimkbgpaa", sum := "0a42fe7de4d25c8cf5c2450ee7e3bc0c9c9af2812b57fcceb2c733975700567b", func := "loop.example/g03305/laws.FnExactFitOn", spec := "fnExactFitOn", inPlace := ["internal/bytealg.CountString", "internal/bytealg.IndexByteString", "internal/bytealg.IndexString"], named := ["internal/bytealg.MaxLen"], apart := false }
def FnExactFitOnSaid : Prop := fnExactFitOnRow.holds Try.pinned (OpenSpec.ofChange fnExactFitOnSpec)

/-- ITS FALSE NEIGHBOUR: 'it returns false'. Refute it at one input. -/
def fnExactFitOnWrong : ChangeSpec := { name := "fnExactFitOn", fn := fun _ => fun
  | [d1, d2, d3] => { results := [.lit (.bool false)], args := [d1, d2, d3] }
  | _ => none }
def FnExactFitOnWrongFalsely : Prop := fnExactFitOnRow.holds Try.pinned (OpenSpec.ofChange fnExactFitOnWrong)

/-- 'laws.FnExactBestFit': WHATEVER THE INPUT: true; the input reads as it did. -/
def fnExactBestFitSpec : ChangeSpec := { name := "fnExactBestFit", fn := fun _ => fun
  | [d1, d2, d3] => { results := [.lit (.bool true)], args := [d1, d2, d3] }
  | _ => none }
def fnExactBestFitRow : OpenClaim := { program := "ytoflcjgimkbgpaa", sum := "0a42fe7de4d25c8cf5c2450ee7e3bc0c9c9af2812b57fcceb2c733975700567b", func := "loop.example/g03305/laws.FnExactBestFit", spec := "fnExactBestFit", inPlace := ["internal/bytealg.CountString", "internal/bytealg.IndexByteString", "internal/bytealg.IndexString"], named := ["internal/bytealg.MaxLen"], apart := false }
def FnExactBestFitSaid : Prop := fnExactBestFitRow.holds Try.pinned (OpenSpec.ofChange fnExactBestFitSpec)

/-- ITS FALSE NEIGHBOUR: 'it returns false'. Refute it at one input. -/
def fnExactBestFitWrong : ChangeSpec := { name := "fnExactBestFit", fn := fun _ => fun
  | [d1, d2, d3] => { results := [.lit (.bool false)], args := [d1, d2, d3] }
  | _ => none }
def FnExactBestFitWrongFalsely : Prop := fnExactBestFitRow.holds Try.pinned (OpenSpec.ofChange fnExactBestFitWrong)

/-- 'laws.FnExactSheetsFor': WHATEVER THE INPUT: true; the input reads as it did. -/
def fnExactSheetsForSpec : ChangeSpec := { name := "fnExactSheetsFor", fn := fun _ => fun
  | [d1, d2, d3, d4] => { results := [.lit (.bool true)], args := [d1, d2, d3, d4] }
  | _ => none }
def fnExactSheetsForRow : OpenClaim := { program := "ytoflcjgimkbgpaa", sum := "0a42fe7de4d25c8cf5c2450ee7e3bc0c9c9af2812b57fcceb2c733975700567b", func := "loop.example/g03305/laws.FnExactSheetsFor", spec := "fnExactSheetsFor", inPlace := ["internal/bytealg.CountString", "internal/bytealg.IndexByteString", "internal/bytealg.IndexString"], named := ["internal/bytealg.MaxLen"], apart := false }
def FnExactSheetsForSaid : Prop := fnExactSheetsForRow.holds Try.pinned (OpenSpec.ofChange fnExactSheetsForSpec)

/-- ITS FALSE NEIGHBOUR: 'it returns false'. Refute it at one input. -/
def fnExactSheetsForWrong : ChangeSpec := { name := "fnExactSheetsFor", fn := fun _ => fun
  | [d1, d2, d3, d4] => { results := [.lit (.bool false)], args := [d1, d2, d3, d4] }
  | _ => none }
def FnExactSheetsForWrongFalsely : Prop := fnExactSheetsForRow.holds Try.pinned (OpenSpec.ofChange fnExactSheetsForWrong)

/-- 'laws.FnExactFirstFit': WHATEVER THE INPUT: true; the input reads as it did. -/
def fnExactFirstFitSpec : ChangeSpec := { name := "fnExactFirstFit", fn := fun _ => fun
  | [d1, d2] => { results := [.lit (.bool true)], args := [d1, d2] }
  | _ => none }
def fnExactFirstFitRow : OpenClaim := { program := "ytoflcjgimkbgpaa", sum := "0a42fe7de4d25c8cf5c2450ee7e3bc0c9c9af2812b57fcceb2c733975700567b", func := "loop.example/g03305/laws.FnExactFirstFit", spec := "fnExactFirstFit", unfollowed := true, recurses := true, apart := false }
def FnExactFirstFitSaid : Prop := fnExactFirstFitRow.holds Try.pinned (OpenSpec.ofChange fnExactFirstFitSpec)

/-- ITS FALSE NEIGHBOUR: 'it returns false'. Refute it at one input. -/
def fnExactFirstFitWrong : ChangeSpec := { name := "fnExactFirstFit", fn := fun _ => fun
  | [d1, d2] => { results := [.lit (.bool false)], args := [d1, d2] }
  | _ => none }
def FnExactFirstFitWrongFalsely : Prop := fnExactFirstFitRow.holds Try.pinned (OpenSpec.ofChange fnExactFirstFitWrong)

/-- 'laws.FnExactUsePaper': WHATEVER THE INPUT: true; the input reads as it did. -/
def fnExactUsePaperSpec : ChangeSpec := { name := "fnExactUsePaper", fn := fun _ => fun
  | [d1, d2, d3] => { results := [.lit (.bool true)], args := [d1, d2, d3] }
  | _ => none }
def fnExactUsePaperRow : OpenClaim := { program := "ytoflcjgimkbgpaa", sum := "0a42fe7de4d25c8cf5c2450ee7e3bc0c9c9af2812b57fcceb2c733975700567b", func := "loop.example/g03305/laws.FnExactUsePaper", spec := "fnExactUsePaper", unfollowed := true, recurses := true, apart := false }
def FnExactUsePaperSaid : Prop := fnExactUsePaperRow.holds Try.pinned (OpenSpec.ofChange fnExactUsePaperSpec)

/-- ITS FALSE NEIGHBOUR: 'it returns false'. Refute it at one input. -/
def fnExactUsePaperWrong : ChangeSpec := { name := "fnExactUsePaper", fn := fun _ => fun
  | [d1, d2, d3] => { results := [.lit (.bool false)], args := [d1, d2, d3] }
  | _ => none }
def FnExactUsePaperWrongFalsely : Prop := fnExactUsePaperRow.holds Try.pinned (OpenSpec.ofChange fnExactUsePaperWrong)

/-- 'laws.FnExactSheetsLeft': WHATEVER THE INPUT: true; the input reads as it did. -/
def fnExactSheetsLeftSpec : ChangeSpec := { name := "fnExactSheetsLeft", fn := fun _ => fun
  | [d1, d2] => { results := [.lit (.bool true)], args := [d1, d2] }
  | _ => none }
def fnExactSheetsLeftRow : OpenClaim := { program := "ytoflcjgimkbgpaa", sum := "0a42fe7de4d25c8cf5c2450ee7e3bc0c9c9af2812b57fcceb2c733975700567b", func := "loop.example/g03305/laws.FnExactSheetsLeft", spec := "fnExactSheetsLeft", unfollowed := true, recurses := true, apart := false }
def FnExactSheetsLeftSaid : Prop := fnExactSheetsLeftRow.holds Try.pinned (OpenSpec.ofChange fnExactSheetsLeftSpec)

/-- ITS FALSE NEIGHBOUR: 'it returns false'. Refute it at one input. -/
def fnExactSheetsLeftWrong : ChangeSpec := { name := "fnExactSheetsLeft", fn := fun _ => fun
  | [d1, d2] => { results := [.lit (.bool false)], args := [d1, d2] }
  | _ => none }
def FnExactSheetsLeftWrongFalsely : Prop := fnExactSheetsLeftRow.holds Try.pinned (OpenSpec.ofChange fnExactSheetsLeftWrong)

/-- 'laws.FnExactHeaviestKind': WHATEVER THE INPUT: true; the input reads as it did. -/
def fnExactHeaviestKindSpec : ChangeSpec := { name := "fnExactHeaviestKind", fn := fun _ => fun
  | [d] => { results := [.lit (.bool true)], args := [d] }
  | _ => none }
def fnExactHeaviestKindRow : OpenClaim := { program := "ytoflcjgimkbgpaa", sum := "0a42fe7de4d25c8cf5c2450ee7e3bc0c9c9af2812b57fcceb2c733975700567b", func := "loop.example/g03305/laws.FnExactHeaviestKind", spec := "fnExactHeaviestKind", unfollowed := true, recurses := true, apart := false }
def FnExactHeaviestKindSaid : Prop := fnExactHeaviestKindRow.holds Try.pinned (OpenSpec.ofChange fnExactHeaviestKindSpec)

/-- ITS FALSE NEIGHBOUR: 'it returns false'. Refute it at one input. -/
def fnExactHeaviestKindWrong : ChangeSpec := { name := "fnExactHeaviestKind", fn := fun _ => fun
  | [d] => { results := [.lit (.bool false)], args := [d] }
  | _ => none }
def FnExactHeaviestKindWrongFalsely : Prop := fnExactHeaviestKindRow.holds Try.pinned (OpenSpec.ofChange fnExactHeaviestKindWrong)

/-- 'laws.FnExactFoldsAllowed': WHATEVER THE INPUT: true; the input reads as it did. -/
def fnExactFoldsAllowedSpec : ChangeSpec := { name := "fnExactFoldsAllowed", fn := fun _ => fun
  | [d1, d2] => { results := [.lit (.bool true)], args := [d1, d2] }
  | _ => none }
def fnExactFoldsAllowedRow : OpenClaim := { program := "ytoflcjgimkbgpaa", sum := "0a42fe7de4d25c8cf5c2450ee7e3bc0c9c9af2812b57fcceb2c733975700567b", func := "loop.example/g03305/laws.FnExactFoldsAllowed", spec := "fnExactFoldsAllowed", apart := false }
def FnExactFoldsAllowedSaid : Prop := fnExactFoldsAllowedRow.holds Try.pinned (OpenSpec.ofChange fnExactFoldsAllowedSpec)

/-- ITS FALSE NEIGHBOUR: 'it returns false'. Refute it at one input. -/
def fnExactFoldsAllowedWrong : ChangeSpec := { name := "fnExactFoldsAllowed", fn := fun _ => fun
  | [d1, d2] => { results := [.lit (.bool false)], args := [d1, d2] }
  | _ => none }
def FnExactFoldsAllowedWrongFalsely : Prop := fnExactFoldsAllowedRow.holds Try.pinned (OpenSpec.ofChange fnExactFoldsAllowedWrong)

/-- 'laws.FnExactWeightOf': WHATEVER THE INPUT: true; the input reads as it did. -/
def fnExactWeightOfSpec : ChangeSpec := { name := "fnExactWeightOf", fn := fun _ => fun
  | [d1, d2] => { results := [.lit (.bool true)], args := [d1, d2] }
  | _ => none }
def fnExactWeightOfRow : OpenClaim := { program := "ytoflcjgimkbgpaa", sum := "0a42fe7de4d25c8cf5c2450ee7e3bc0c9c9af2812b57fcceb2c733975700567b", func := "loop.example/g03305/laws.FnExactWeightOf", spec := "fnExactWeightOf", inPlace := ["internal/bytealg.CountString", "internal/bytealg.IndexByteString", "internal/bytealg.IndexString"], named := ["internal/bytealg.MaxLen"], apart := false }
def FnExactWeightOfSaid : Prop := fnExactWeightOfRow.holds Try.pinned (OpenSpec.ofChange fnExactWeightOfSpec)

/-- ITS FALSE NEIGHBOUR: 'it returns false'. Refute it at one input. -/
def fnExactWeightOfWrong : ChangeSpec := { name := "fnExactWeightOf", fn := fun _ => fun
  | [d1, d2] => { results := [.lit (.bool false)], args := [d1, d2] }
  | _ => none }
def FnExactWeightOfWrongFalsely : Prop := fnExactWeightOfRow.holds Try.pinned (OpenSpec.ofChange fnExactWeightOfWrong)

/- THE SECOND FORM. 'bulk': how many values and letters a reading holds, each counted each time it is reached (what is shared counts as often as it is met; a slice's spare places count too). A statement '..UptoSaid' is the law's where the arguments, and the package variables that the reading takes, are together of bulk at most 1048576: NARROWER than '..Said'. Prove '..Said' where nothing that the law and all that it calls make is longer than what came in: it says more and counts as full. Else prove '..UptoSaid'. A law counts once. -/
mutual
def uptoBulk {H : Type} : DataW H → Nat
  | .lit (.string bytes) => bytes.length + 1
  | .lit _ => 1
  | .nil => 1
  | .ptr d => uptoBulk d + 1
  | .slice elems spare => uptoBulkAll elems + uptoBulkAll spare + 1
  | .agg parts => uptoBulkAll parts + 1
  | .iface _ d => uptoBulk d + 1
  | .map entries => uptoBulkEntries entries + 1
  | .held _ => 1
def uptoBulkAll {H : Type} : List (DataW H) → Nat
  | [] => 0
  | d :: r => uptoBulk d + uptoBulkAll r
def uptoBulkEntries {H : Type} : List (Lit × DataW H) → Nat
  | [] => 0
  | x :: r => uptoBulkEntry x + uptoBulkEntries r
def uptoBulkEntry {H : Type} : Lit × DataW H → Nat
  | (.string bytes, d) => bytes.length + uptoBulk d + 1
  | (_, d) => uptoBulk d + 1
 end
def uptoSmall : (H : Type) → List (DataW H) → Bool := fun _ ds => decide (uptoBulkAll ds ≤ 1048576)
def OpenSpec.upto (s : _root_.Go.ChangeSpec) : _root_.Go.OpenSpec := { _root_.Go.OpenSpec.ofChange s with cond := some uptoSmall }

/-- 'laws.FnSheets', WHERE WHAT IT READS IS OF BULK AT MOST 1048576: true; the input reads as it did. -/
def fnSheetsUptoRow : OpenClaim := { program := "ytoflcjgimkbgpaa", sum := "0a42fe7de4d25c8cf5c2450ee7e3bc0c9c9af2812b57fcceb2c733975700567b", func := "loop.example/g03305/laws.FnSheets", spec := "fnSheets", inPlace := ["internal/bytealg.CountString", "internal/bytealg.IndexByteString", "internal/bytealg.IndexString"], unfollowed := true, recurses := true, named := ["internal/bytealg.MaxLen"], apart := false, narrowed := true }
def FnSheetsUptoSaid : Prop := fnSheetsUptoRow.holds Try.pinned (OpenSpec.upto fnSheetsSpec)

/-- 'laws.FnPapers', WHERE WHAT IT READS IS OF BULK AT MOST 1048576: true; the input reads as it did. -/
def fnPapersUptoRow : OpenClaim := { program := "ytoflcjgimkbgpaa", sum := "0a42fe7de4d25c8cf5c2450ee7e3bc0c9c9af2812b57fcceb2c733975700567b", func := "loop.example/g03305/laws.FnPapers", spec := "fnPapers", inPlace := ["internal/bytealg.CountString", "internal/bytealg.IndexByteString", "internal/bytealg.IndexString"], unfollowed := true, recurses := true, named := ["internal/bytealg.MaxLen"], apart := false, narrowed := true }
def FnPapersUptoSaid : Prop := fnPapersUptoRow.holds Try.pinned (OpenSpec.upto fnPapersSpec)

/-- 'laws.FnExactBlankOf', WHERE WHAT IT READS IS OF BULK AT MOST 1048576: true; the input reads as it did. -/
def fnExactBlankOfUptoRow : OpenClaim := { program := "ytoflcjgimkbgpaa", sum := "0a42fe7de4d25c8cf5c2450ee7e3bc0c9c9af2812b57fcceb2c733975700567b", func := "loop.example/g03305/laws.FnExactBlankOf", spec := "fnExactBlankOf", inPlace := ["internal/bytealg.CountString", "internal/bytealg.IndexByteString", "internal/bytealg.IndexString"], named := ["internal/bytealg.MaxLen"], apart := false, narrowed := true }
def FnExactBlankOfUptoSaid : Prop := fnExactBlankOfUptoRow.holds Try.pinned (OpenSpec.upto fnExactBlankOfSpec)

/-- 'laws.FnExactFitOn', WHERE WHAT IT READS IS OF BULK AT MOST 1048576: true; the input reads as it did. -/
def fnExactFitOnUptoRow : OpenClaim := { program := "ytoflcjgimkbgpaa", sum := "0a42fe7de4d25c8cf5c2450ee7e3bc0c9c9af2812b57fcceb2c733975700567b", func := "loop.example/g03305/laws.FnExactFitOn", spec := "fnExactFitOn", inPlace := ["internal/bytealg.CountString", "internal/bytealg.IndexByteString", "internal/bytealg.IndexString"], named := ["internal/bytealg.MaxLen"], apart := false, narrowed := true }
def FnExactFitOnUptoSaid : Prop := fnExactFitOnUptoRow.holds Try.pinned (OpenSpec.upto fnExactFitOnSpec)

/-- 'laws.FnExactBestFit', WHERE WHAT IT READS IS OF BULK AT MOST 1048576: true; the input reads as it did. -/
def fnExactBestFitUptoRow : OpenClaim := { program := "ytoflcjgimkbgpaa", sum := "0a42fe7de4d25c8cf5c2450ee7e3bc0c9c9af2812b57fcceb2c733975700567b", func := "loop.example/g03305/laws.FnExactBestFit", spec := "fnExactBestFit", inPlace := ["internal/bytealg.CountString", "internal/bytealg.IndexByteString", "internal/bytealg.IndexString"], named := ["internal/bytealg.MaxLen"], apart := false, narrowed := true }
def FnExactBestFitUptoSaid : Prop := fnExactBestFitUptoRow.holds Try.pinned (OpenSpec.upto fnExactBestFitSpec)

/-- 'laws.FnExactSheetsFor', WHERE WHAT IT READS IS OF BULK AT MOST 1048576: true; the input reads as it did. -/
def fnExactSheetsForUptoRow : OpenClaim := { program := "ytoflcjgimkbgpaa", sum := "0a42fe7de4d25c8cf5c2450ee7e3bc0c9c9af2812b57fcceb2c733975700567b", func := "loop.example/g03305/laws.FnExactSheetsFor", spec := "fnExactSheetsFor", inPlace := ["internal/bytealg.CountString", "internal/bytealg.IndexByteString", "internal/bytealg.IndexString"], named := ["internal/bytealg.MaxLen"], apart := false, narrowed := true }
def FnExactSheetsForUptoSaid : Prop := fnExactSheetsForUptoRow.holds Try.pinned (OpenSpec.upto fnExactSheetsForSpec)

/-- 'laws.FnExactFirstFit', WHERE WHAT IT READS IS OF BULK AT MOST 1048576: true; the input reads as it did. -/
def fnExactFirstFitUptoRow : OpenClaim := { program := "ytoflcjgimkbgpaa", sum := "0a42fe7de4d25c8cf5c2450ee7e3bc0c9c9af2812b57fcceb2c733975700567b", func := "loop.example/g03305/laws.FnExactFirstFit", spec := "fnExactFirstFit", unfollowed := true, recurses := true, apart := false, narrowed := true }
def FnExactFirstFitUptoSaid : Prop := fnExactFirstFitUptoRow.holds Try.pinned (OpenSpec.upto fnExactFirstFitSpec)

/-- 'laws.FnExactUsePaper', WHERE WHAT IT READS IS OF BULK AT MOST 1048576: true; the input reads as it did. -/
def fnExactUsePaperUptoRow : OpenClaim := { program := "ytoflcjgimkbgpaa", sum := "0a42fe7de4d25c8cf5c2450ee7e3bc0c9c9af2812b57fcceb2c733975700567b", func := "loop.example/g03305/laws.FnExactUsePaper", spec := "fnExactUsePaper", unfollowed := true, recurses := true, apart := false, narrowed := true }
def FnExactUsePaperUptoSaid : Prop := fnExactUsePaperUptoRow.holds Try.pinned (OpenSpec.upto fnExactUsePaperSpec)

/-- 'laws.FnExactSheetsLeft', WHERE WHAT IT READS IS OF BULK AT MOST 1048576: true; the input reads as it did. -/
def fnExactSheetsLeftUptoRow : OpenClaim := { program := "ytoflcjgimkbgpaa", sum := "0a42fe7de4d25c8cf5c2450ee7e3bc0c9c9af2812b57fcceb2c733975700567b", func := "loop.example/g03305/laws.FnExactSheetsLeft", spec := "fnExactSheetsLeft", unfollowed := true, recurses := true, apart := false, narrowed := true }
def FnExactSheetsLeftUptoSaid : Prop := fnExactSheetsLeftUptoRow.holds Try.pinned (OpenSpec.upto fnExactSheetsLeftSpec)

/-- 'laws.FnExactHeaviestKind', WHERE WHAT IT READS IS OF BULK AT MOST 1048576: true; the input reads as it did. -/
def fnExactHeaviestKindUptoRow : OpenClaim := { program := "ytoflcjgimkbgpaa", sum := "0a42fe7de4d25c8cf5c2450ee7e3bc0c9c9af2812b57fcceb2c733975700567b", func := "loop.example/g03305/laws.FnExactHeaviestKind", spec := "fnExactHeaviestKind", unfollowed := true, recurses := true, apart := false, narrowed := true }
def FnExactHeaviestKindUptoSaid : Prop := fnExactHeaviestKindUptoRow.holds Try.pinned (OpenSpec.upto fnExactHeaviestKindSpec)

/-- 'laws.FnExactFoldsAllowed', WHERE WHAT IT READS IS OF BULK AT MOST 1048576: true; the input reads as it did. -/
def fnExactFoldsAllowedUptoRow : OpenClaim := { program := "ytoflcjgimkbgpaa", sum := "0a42fe7de4d25c8cf5c2450ee7e3bc0c9c9af2812b57fcceb2c733975700567b", func := "loop.example/g03305/laws.FnExactFoldsAllowed", spec := "fnExactFoldsAllowed", apart := false, narrowed := true }
def FnExactFoldsAllowedUptoSaid : Prop := fnExactFoldsAllowedUptoRow.holds Try.pinned (OpenSpec.upto fnExactFoldsAllowedSpec)

/-- 'laws.FnExactWeightOf', WHERE WHAT IT READS IS OF BULK AT MOST 1048576: true; the input reads as it did. -/
def fnExactWeightOfUptoRow : OpenClaim := { program := "ytoflcjgimkbgpaa", sum := "0a42fe7de4d25c8cf5c2450ee7e3bc0c9c9af2812b57fcceb2c733975700567b", func := "loop.example/g03305/laws.FnExactWeightOf", spec := "fnExactWeightOf", inPlace := ["internal/bytealg.CountString", "internal/bytealg.IndexByteString", "internal/bytealg.IndexString"], named := ["internal/bytealg.MaxLen"], apart := false, narrowed := true }
def FnExactWeightOfUptoSaid : Prop := fnExactWeightOfUptoRow.holds Try.pinned (OpenSpec.upto fnExactWeightOfSpec)

end Rows
end Go.Proofs.Ytoflcjgimkbgpaa
