/-
  No cell of these rows narrows 'for every input' (looked for: loops, veiled, ifaces, maps, wideKeys, modest, calm, conditions, laid).
  DERIVED. THE GIVEN ROWS OF THIS SEAT. 12 by the template 'for every input the law returns true; each argument reads behind the call as it read before'; 0 by the template 'total and deterministic' (their statements: YtfekgafcbohmeaaTotals.lean).
  GIVEN WITH THE SEED: the statements are not yours to turn. If you find one false, say at which input.
  Laid BY PROGRAM, IN A SANDBOX (cutbox-rows.mjs): the forced cells as the released guide's own fill.sh prints them over the translation 32e27f3d521b4a71… (all of the seat's roots in one cut). By AI agents, Wed Nov 11 2026. No macro, syntax, notation, axiom, sorry.
-/
import Derived.Test.YtfekgafcbohmeaaChecked
import GoSem.Claim
import GoSem.ClaimJoined
import GoSem.ClaimMapViews
import Derived.JoinedTies
import Derived.KernelRfl
namespace Go.Proofs.Ytfekgafcbohmeaa
/- THE CELL 'sum', in the pinned program and in every row, IS THE sha256 OF THE DUMP (.gsa) THAT YtfekgafcbohmeaaProg.lean LOADS. Nothing in Lean hashes anything: it is a label: what it is worth is what the hold of that sum in a sandbox is worth. -/
noncomputable def Try.pinned : Pinned := { name := "ytfekgafcbohmeaa", sum := "32e27f3d521b4a71711f0d2d9f4903bfbf50d9fc1a700fa080e3bed89a0925b5", checked := Try.checked }
namespace Rows
def none {H : Type} : Left H := { results := [], args := [] }

/-- 'laws.FnExactSheetsOfBook': WHATEVER THE INPUT: true; the input reads as it did. -/
def fnExactSheetsOfBookSpec : ChangeSpec := { name := "fnExactSheetsOfBook", fn := fun _ => fun
  | [d] => { results := [.lit (.bool true)], args := [d] }
  | _ => none }
def fnExactSheetsOfBookRow : OpenClaim := { program := "ytfekgafcbohmeaa", sum := "32e27f3d521b4a71711f0d2d9f4903bfbf50d9fc1a700fa080e3bed89a0925b5", func := "loop.example/g03305/laws.FnExactSheetsOfBook", spec := "fnExactSheetsOfBook", apart := false }
def FnExactSheetsOfBookSaid : Prop := fnExactSheetsOfBookRow.holds Try.pinned (OpenSpec.ofChange fnExactSheetsOfBookSpec)

/-- ITS FALSE NEIGHBOUR: 'it returns false'. Refute it at one input. -/
def fnExactSheetsOfBookWrong : ChangeSpec := { name := "fnExactSheetsOfBook", fn := fun _ => fun
  | [d] => { results := [.lit (.bool false)], args := [d] }
  | _ => none }
def FnExactSheetsOfBookWrongFalsely : Prop := fnExactSheetsOfBookRow.holds Try.pinned (OpenSpec.ofChange fnExactSheetsOfBookWrong)

/-- 'laws.FnExactBlankPages': WHATEVER THE INPUT: true; the input reads as it did. -/
def fnExactBlankPagesSpec : ChangeSpec := { name := "fnExactBlankPages", fn := fun _ => fun
  | [d] => { results := [.lit (.bool true)], args := [d] }
  | _ => none }
def fnExactBlankPagesRow : OpenClaim := { program := "ytfekgafcbohmeaa", sum := "32e27f3d521b4a71711f0d2d9f4903bfbf50d9fc1a700fa080e3bed89a0925b5", func := "loop.example/g03305/laws.FnExactBlankPages", spec := "fnExactBlankPages", apart := false }
def FnExactBlankPagesSaid : Prop := fnExactBlankPagesRow.holds Try.pinned (OpenSpec.ofChange fnExactBlankPagesSpec)

/-- ITS FALSE NEIGHBOUR: 'it returns false'. Refute it at one input. -/
def fnExactBlankPagesWrong : ChangeSpec := { name := "fnExactBlankPages", fn := fun _ => fun
  | [d] => { results := [.lit (.bool false)], args := [d] }
  | _ => none }
def FnExactBlankPagesWrongFalsely : Prop := fnExactBlankPagesRow.holds Try.pinned (OpenSpec.ofChange fnExactBlankPagesWrong)

/-- 'laws.FnExactOpensWith': WHATEVER THE INPUT: true; the input reads as it did. -/
def fnExactOpensWithSpec : ChangeSpec := { name := "fnExactOpensWith", fn := fun _ => fun
  | [d1, d2] => { results := [.lit (.bool true)], args := [d1, d2] }
  | _ => none }
def fnExactOpensWithRow : OpenClaim := { program := "ytfekgafcbohmeaa", sum := "32e27f3d521b4a71711f0d2d9f4903bfbf50d9fc1a700fa080e3bed89a0925b5", func := "loop.example/g03305/laws.FnExactOpensWith", spec := "fnExactOpensWith", apart := false }
def FnExactOpensWithSaid : Prop := fnExactOpensWithRow.holds Try.pinned (OpenSpec.ofChange fnExactOpensWithSpec)

/-- ITS FALSE NEIGHBOUR: 'it returns false'. Refute it at one input. -/
def fnExactOpensWithWrong : ChangeSpec := { name := "fnExactOpensWith", fn := fun _ => fun
  | [d1, d2] => { results := [.lit (.bool false)], args := [d1, d2] }
  | _ => none }
def FnExactOpensWithWrongFalsely : Prop := fnExactOpensWithRow.holds Try.pinned (OpenSpec.ofChange fnExactOpensWithWrong)

/-- 'laws.FnExactSideOf': WHATEVER THE INPUT: true; the input reads as it did. -/
def fnExactSideOfSpec : ChangeSpec := { name := "fnExactSideOf", fn := fun _ => fun
  | [d1, d2, d3] => { results := [.lit (.bool true)], args := [d1, d2, d3] }
  | _ => none }
def fnExactSideOfRow : OpenClaim := { program := "ytfekgafcbohmeaa", sum := "32e27f3d521b4a71711f0d2d9f4903bfbf50d9fc1a700fa080e3bed89a0925b5", func := "loop.example/g03305/laws.FnExactSideOf", spec := "fnExactSideOf", apart := false }
def FnExactSideOfSaid : Prop := fnExactSideOfRow.holds Try.pinned (OpenSpec.ofChange fnExactSideOfSpec)

/-- ITS FALSE NEIGHBOUR: 'it returns false'. Refute it at one input. -/
def fnExactSideOfWrong : ChangeSpec := { name := "fnExactSideOf", fn := fun _ => fun
  | [d1, d2, d3] => { results := [.lit (.bool false)], args := [d1, d2, d3] }
  | _ => none }
def FnExactSideOfWrongFalsely : Prop := fnExactSideOfRow.holds Try.pinned (OpenSpec.ofChange fnExactSideOfWrong)

/-- 'laws.FnExactSheetOfPage': WHATEVER THE INPUT: true; the input reads as it did. -/
def fnExactSheetOfPageSpec : ChangeSpec := { name := "fnExactSheetOfPage", fn := fun _ => fun
  | [d1, d2] => { results := [.lit (.bool true)], args := [d1, d2] }
  | _ => none }
def fnExactSheetOfPageRow : OpenClaim := { program := "ytfekgafcbohmeaa", sum := "32e27f3d521b4a71711f0d2d9f4903bfbf50d9fc1a700fa080e3bed89a0925b5", func := "loop.example/g03305/laws.FnExactSheetOfPage", spec := "fnExactSheetOfPage", apart := false }
def FnExactSheetOfPageSaid : Prop := fnExactSheetOfPageRow.holds Try.pinned (OpenSpec.ofChange fnExactSheetOfPageSpec)

/-- ITS FALSE NEIGHBOUR: 'it returns false'. Refute it at one input. -/
def fnExactSheetOfPageWrong : ChangeSpec := { name := "fnExactSheetOfPage", fn := fun _ => fun
  | [d1, d2] => { results := [.lit (.bool false)], args := [d1, d2] }
  | _ => none }
def FnExactSheetOfPageWrongFalsely : Prop := fnExactSheetOfPageRow.holds Try.pinned (OpenSpec.ofChange fnExactSheetOfPageWrong)

/-- 'laws.FnPages': WHATEVER THE INPUT: true; the input reads as it did. -/
def fnPagesSpec : ChangeSpec := { name := "fnPages", fn := fun _ => fun
  | [d] => { results := [.lit (.bool true)], args := [d] }
  | _ => none }
def fnPagesRow : OpenClaim := { program := "ytfekgafcbohmeaa", sum := "32e27f3d521b4a71711f0d2d9f4903bfbf50d9fc1a700fa080e3bed89a0925b5", func := "loop.example/g03305/laws.FnPages", spec := "fnPages", apart := false }
def FnPagesSaid : Prop := fnPagesRow.holds Try.pinned (OpenSpec.ofChange fnPagesSpec)

/-- ITS FALSE NEIGHBOUR: 'it returns false'. Refute it at one input. -/
def fnPagesWrong : ChangeSpec := { name := "fnPages", fn := fun _ => fun
  | [d] => { results := [.lit (.bool false)], args := [d] }
  | _ => none }
def FnPagesWrongFalsely : Prop := fnPagesRow.holds Try.pinned (OpenSpec.ofChange fnPagesWrong)

/-- 'laws.FnExactPaperOk': WHATEVER THE INPUT: true; the input reads as it did. -/
def fnExactPaperOkSpec : ChangeSpec := { name := "fnExactPaperOk", fn := fun _ => fun
  | [d] => { results := [.lit (.bool true)], args := [d] }
  | _ => none }
def fnExactPaperOkRow : OpenClaim := { program := "ytfekgafcbohmeaa", sum := "32e27f3d521b4a71711f0d2d9f4903bfbf50d9fc1a700fa080e3bed89a0925b5", func := "loop.example/g03305/laws.FnExactPaperOk", spec := "fnExactPaperOk", apart := false }
def FnExactPaperOkSaid : Prop := fnExactPaperOkRow.holds Try.pinned (OpenSpec.ofChange fnExactPaperOkSpec)

/-- ITS FALSE NEIGHBOUR: 'it returns false'. Refute it at one input. -/
def fnExactPaperOkWrong : ChangeSpec := { name := "fnExactPaperOk", fn := fun _ => fun
  | [d] => { results := [.lit (.bool false)], args := [d] }
  | _ => none }
def FnExactPaperOkWrongFalsely : Prop := fnExactPaperOkRow.holds Try.pinned (OpenSpec.ofChange fnExactPaperOkWrong)

/-- 'laws.FnExactFoldsAllowed': WHATEVER THE INPUT: true; the input reads as it did. -/
def fnExactFoldsAllowedSpec : ChangeSpec := { name := "fnExactFoldsAllowed", fn := fun _ => fun
  | [d1, d2] => { results := [.lit (.bool true)], args := [d1, d2] }
  | _ => none }
def fnExactFoldsAllowedRow : OpenClaim := { program := "ytfekgafcbohmeaa", sum := "32e27f3d521b4a71711f0d2d9f4903bfbf50d9fc1a700fa080e3bed89a0925b5", func := "loop.example/g03305/laws.FnExactFoldsAllowed", spec := "fnExactFoldsAllowed", apart := false }
def FnExactFoldsAllowedSaid : Prop := fnExactFoldsAllowedRow.holds Try.pinned (OpenSpec.ofChange fnExactFoldsAllowedSpec)

/-- ITS FALSE NEIGHBOUR: 'it returns false'. Refute it at one input. -/
def fnExactFoldsAllowedWrong : ChangeSpec := { name := "fnExactFoldsAllowed", fn := fun _ => fun
  | [d1, d2] => { results := [.lit (.bool false)], args := [d1, d2] }
  | _ => none }
def FnExactFoldsAllowedWrongFalsely : Prop := fnExactFoldsAllowedRow.holds Try.pinned (OpenSpec.ofChange fnExactFoldsAllowedWrong)

/-- 'laws.FnExactSheetsLeft': WHATEVER THE INPUT: true; the input reads as it did. -/
def fnExactSheetsLeftSpec : ChangeSpec := { name := "fnExactSheetsLeft", fn := fun _ => fun
  | [d1, d2] => { results := [.lit (.bool true)], args := [d1, d2] }
  | _ => none }
def fnExactSheetsLeftRow : OpenClaim := { program := "ytfekgafcbohmeaa", sum := "32e27f3d521b4a71711f0d2d9f4903bfbf50d9fc1a700fa080e3bed89a0925b5", func := "loop.example/g03305/laws.FnExactSheetsLeft", spec := "fnExactSheetsLeft", unfollowed := true, recurses := true, apart := false }
def FnExactSheetsLeftSaid : Prop := fnExactSheetsLeftRow.holds Try.pinned (OpenSpec.ofChange fnExactSheetsLeftSpec)

/-- ITS FALSE NEIGHBOUR: 'it returns false'. Refute it at one input. -/
def fnExactSheetsLeftWrong : ChangeSpec := { name := "fnExactSheetsLeft", fn := fun _ => fun
  | [d1, d2] => { results := [.lit (.bool false)], args := [d1, d2] }
  | _ => none }
def FnExactSheetsLeftWrongFalsely : Prop := fnExactSheetsLeftRow.holds Try.pinned (OpenSpec.ofChange fnExactSheetsLeftWrong)

/-- 'laws.FnExactHeaviestKind': WHATEVER THE INPUT: true; the input reads as it did. -/
def fnExactHeaviestKindSpec : ChangeSpec := { name := "fnExactHeaviestKind", fn := fun _ => fun
  | [d] => { results := [.lit (.bool true)], args := [d] }
  | _ => none }
def fnExactHeaviestKindRow : OpenClaim := { program := "ytfekgafcbohmeaa", sum := "32e27f3d521b4a71711f0d2d9f4903bfbf50d9fc1a700fa080e3bed89a0925b5", func := "loop.example/g03305/laws.FnExactHeaviestKind", spec := "fnExactHeaviestKind", unfollowed := true, recurses := true, apart := false }
def FnExactHeaviestKindSaid : Prop := fnExactHeaviestKindRow.holds Try.pinned (OpenSpec.ofChange fnExactHeaviestKindSpec)

/-- ITS FALSE NEIGHBOUR: 'it returns false'. Refute it at one input. -/
def fnExactHeaviestKindWrong : ChangeSpec := { name := "fnExactHeaviestKind", fn := fun _ => fun
  | [d] => { results := [.lit (.bool false)], args := [d] }
  | _ => none }
def FnExactHeaviestKindWrongFalsely : Prop := fnExactHeaviestKindRow.holds Try.pinned (OpenSpec.ofChange fnExactHeaviestKindWrong)

/-- 'laws.FnExactUsePaper': WHATEVER THE INPUT: true; the input reads as it did. -/
def fnExactUsePaperSpec : ChangeSpec := { name := "fnExactUsePaper", fn := fun _ => fun
  | [d1, d2, d3] => { results := [.lit (.bool true)], args := [d1, d2, d3] }
  | _ => none }
def fnExactUsePaperRow : OpenClaim := { program := "ytfekgafcbohmeaa", sum := "32e27f3d521b4a71711f0d2d9f4903bfbf50d9fc1a700fa080e3bed89a0925b5", func := "loop.example/g03305/laws.FnExactUsePaper", spec := "fnExactUsePaper", unfollowed := true, recurses := true, apart := false }
def FnExactUsePaperSaid : Prop := fnExactUsePaperRow.holds Try.pinned (OpenSpec.ofChange fnExactUsePaperSpec)

/-- ITS FALSE NEIGHBOUR: 'it returns false'. Refute it at one input. -/
def fnExactUsePaperWrong : ChangeSpec := { name := "fnExactUsePaper", fn := fun _ => fun
  | [d1, d2, d3] => { results := [.lit (.bool false)], args := [d1, d2, d3] }
  | _ => none }
def FnExactUsePaperWrongFalsely : Prop := fnExactUsePaperRow.holds Try.pinned (OpenSpec.ofChange fnExactUsePaperWrong)

/-- 'laws.FnExactTotalCut': WHATEVER THE INPUT: true; the input reads as it did. -/
def fnExactTotalCutSpec : ChangeSpec := { name := "fnExactTotalCut", fn := fun _ => fun
  | [d] => { results := [.lit (.bool true)], args := [d] }
  | _ => none }
def fnExactTotalCutRow : OpenClaim := { program := "ytfekgafcbohmeaa", sum := "32e27f3d521b4a71711f0d2d9f4903bfbf50d9fc1a700fa080e3bed89a0925b5", func := "loop.example/g03305/laws.FnExactTotalCut", spec := "fnExactTotalCut", apart := false }
def FnExactTotalCutSaid : Prop := fnExactTotalCutRow.holds Try.pinned (OpenSpec.ofChange fnExactTotalCutSpec)

/-- ITS FALSE NEIGHBOUR: 'it returns false'. Refute it at one input. -/
def fnExactTotalCutWrong : ChangeSpec := { name := "fnExactTotalCut", fn := fun _ => fun
  | [d] => { results := [.lit (.bool false)], args := [d] }
  | _ => none }
def FnExactTotalCutWrongFalsely : Prop := fnExactTotalCutRow.holds Try.pinned (OpenSpec.ofChange fnExactTotalCutWrong)

/- THE SECOND FORM. 'bulk': how many values and letters a reading holds, each counted each time it is reached (what is shared counts as often as it is met; a slice's spare places count too). A statement '..UptoSaid' is the law's where the arguments, and the package variables that the reading takes, are together of bulk at most 1048576: NARROWER than '..Said'. Prove '..Said' where nothing that the law and all that it calls make is longer than what came in: it says more and counts as full. Else prove '..UptoSaid'. A law counts once. -/
mutual
def uptoBulk {H : Type} : DataW H → Nat
  | .lit (.string bytes) => bytes.length + 1
  | .lit _ => 1
  | .nil => 1
  | .ptr d => uptoBulk d + 1
  | .slice elems spare => uptoBulkAll elems + uptoBulkAll spare + 1
  | .agg parts => uptoBulkAll parts + 1
  | .iface _ d => uptoBulk d + 1
  | .map entries => uptoBulkEntries entries + 1
  | .held _ => 1
def uptoBulkAll {H : Type} : List (DataW H) → Nat
  | [] => 0
  | d :: r => uptoBulk d + uptoBulkAll r
def uptoBulkEntries {H : Type} : List (Lit × DataW H) → Nat
  | [] => 0
  | x :: r => uptoBulkEntry x + uptoBulkEntries r
def uptoBulkEntry {H : Type} : Lit × DataW H → Nat
  | (.string bytes, d) => bytes.length + uptoBulk d + 1
  | (_, d) => uptoBulk d + 1
 end
def uptoSmall : (H : Type) → List (DataW H) → Bool := fun _ ds => decide (uptoBulkAll ds ≤ 1048576)
def OpenSpec.upto (s : _root_.Go.ChangeSpec) : _root_.Go.OpenSpec := { _root_.Go.OpenSpec.ofChange s with cond := some uptoSmall }

/-- 'laws.FnExactSheetsOfBook', WHERE WHAT IT READS IS OF BULK AT MOST 1048576: true; the input reads as it did. -/
def fnExactSheetsOfBookUptoRow : OpenClaim := { program := "ytfekgafcbohmeaa", sum := "32e27f3d521b4a71711f0d2d9f4903bfbf50d9fc1a700fa080e3bed89a0925b5", func := "loop.example/g03305/laws.FnExactSheetsOfBook", spec := "fnExactSheetsOfBook", apart := false, narrowed := true }
def FnExactSheetsOfBookUptoSaid : Prop := fnExactSheetsOfBookUptoRow.holds Try.pinned (OpenSpec.upto fnExactSheetsOfBookSpec)

/-- 'laws.FnExactBlankPages', WHERE WHAT IT READS IS OF BULK AT MOST 1048576: true; the input reads as it did. -/
def fnExactBlankPagesUptoRow : OpenClaim := { program := "ytfekgafcbohmeaa", sum := "32e27f3d521b4a71711f0d2d9f4903bfbf50d9fc1a700fa080e3bed89a0925b5", func := "loop.example/g03305/laws.FnExactBlankPages", spec := "fnExactBlankPages", apart := false, narrowed := true }
def FnExactBlankPagesUptoSaid : Prop := fnExactBlankPagesUptoRow.holds Try.pinned (OpenSpec.upto fnExactBlankPagesSpec)

/-- 'laws.FnExactOpensWith', WHERE WHAT IT READS IS OF BULK AT MOST 1048576: true; the input reads as it did. -/
def fnExactOpensWithUptoRow : OpenClaim := { program := "ytfekgafcbohmeaa", sum := "32e27f3d521b4a71711f0d2d9f4903bfbf50d9fc1a700fa080e3bed89a0925b5", func := "loop.example/g03305/laws.FnExactOpensWith", spec := "fnExactOpensWith", apart := false, narrowed := true }
def FnExactOpensWithUptoSaid : Prop := fnExactOpensWithUptoRow.holds Try.pinned (OpenSpec.upto fnExactOpensWithSpec)

/-- 'laws.FnExactSideOf', WHERE WHAT IT READS IS OF BULK AT MOST 1048576: true; the input reads as it did. -/
def fnExactSideOfUptoRow : OpenClaim := { program := "ytfekgafcbohmeaa", sum := "32e27f3d521b4a71711f0d2d9f4903bfbf50d9fc1a700fa080e3bed89a0925b5", func := "loop.example/g03305/laws.FnExactSideOf", spec := "fnExactSideOf", apart := false, narrowed := true }
def FnExactSideOfUptoSaid : Prop := fnExactSideOfUptoRow.holds Try.pinned (OpenSpec.upto fnExactSideOfSpec)

/-- 'laws.FnExactSheetOfPage', WHERE WHAT IT READS IS OF BULK AT MOST 1048576: true; the input reads as it did. -/
def fnExactSheetOfPageUptoRow : OpenClaim := { program := "ytfekgafcbohmeaa", sum := "32e27f3d521b4a71711f0d2d9f4903bfbf50d9fc1a700fa080e3bed89a0925b5", func := "loop.example/g03305/laws.FnExactSheetOfPage", spec := "fnExactSheetOfPage", apart := false, narrowed := true }
def FnExactSheetOfPageUptoSaid : Prop := fnExactSheetOfPageUptoRow.holds Try.pinned (OpenSpec.upto fnExactSheetOfPageSpec)

/-- 'laws.FnPages', WHERE WHAT IT READS IS OF BULK AT MOST 1048576: true; the input reads as it did. -/
def fnPagesUptoRow : OpenClaim := { program := "ytfekgafcbohmeaa", sum := "32e27f3d521b4a71711f0d2d9f4903bfbf50d9fc1a700fa080e3bed89a0925b5", func := "loop.example/g03305/laws.FnPages", spec := "fnPages", apart := false, narrowed := true }
def FnPagesUptoSaid : Prop := fnPagesUptoRow.holds Try.pinned (OpenSpec.upto fnPagesSpec)

/-- 'laws.FnExactPaperOk', WHERE WHAT IT READS IS OF BULK AT MOST 1048576: true; the input reads as it did. -/
def fnExactPaperOkUptoRow : OpenClaim := { program := "ytfekgafcbohmeaa", sum := "32e27f3d521b4a71711f0d2d9f4903bfbf50d9fc1a700fa080e3bed89a0925b5", func := "loop.example/g03305/laws.FnExactPaperOk", spec := "fnExactPaperOk", apart := false, narrowed := true }
def FnExactPaperOkUptoSaid : Prop := fnExactPaperOkUptoRow.holds Try.pinned (OpenSpec.upto fnExactPaperOkSpec)

/-- 'laws.FnExactFoldsAllowed', WHERE WHAT IT READS IS OF BULK AT MOST 1048576: true; the input reads as it did. -/
def fnExactFoldsAllowedUptoRow : OpenClaim := { program := "ytfekgafcbohmeaa", sum := "32e27f3d521b4a71711f0d2d9f4903bfbf50d9fc1a700fa080e3bed89a0925b5", func := "loop.example/g03305/laws.FnExactFoldsAllowed", spec := "fnExactFoldsAllowed", apart := false, narrowed := true }
def FnExactFoldsAllowedUptoSaid : Prop := fnExactFoldsAllowedUptoRow.holds Try.pinned (OpenSpec.upto fnExactFoldsAllowedSpec)

/-- 'laws.FnExactSheetsLeft', WHERE WHAT IT READS IS OF BULK AT MOST 1048576: true; the input reads as it did. -/
def fnExactSheetsLeftUptoRow : OpenClaim := { program := "ytfekgafcbohmeaa", sum := "32e27f3d521b4a71711f0d2d9f4903bfbf50d9fc1a700fa080e3bed89a0925b5", func := "loop.example/g03305/laws.FnExactSheetsLeft", spec := "fnExactSheetsLeft", unfollowed := true, recurses := true, apart := false, narrowed := true }
def FnExactSheetsLeftUptoSaid : Prop := fnExactSheetsLeftUptoRow.holds Try.pinned (OpenSpec.upto fnExactSheetsLeftSpec)

/-- 'laws.FnExactHeaviestKind', WHERE WHAT IT READS IS OF BULK AT MOST 1048576: true; the input reads as it did. -/
def fnExactHeaviestKindUptoRow : OpenClaim := { program := "ytfekgafcbohmeaa", sum := "32e27f3d521b4a71711f0d2d9f4903bfbf50d9fc1a700fa080e3bed89a0925b5", func := "loop.example/g03305/laws.FnExactHeaviestKind", spec := "fnExactHeaviestKind", unfollowed := true, recurses := true, apart := false, narrowed := true }
def FnExactHeaviestKindUptoSaid : Prop := fnExactHeaviestKindUptoRow.holds Try.pinned (OpenSpec.upto fnExactHeaviestKindSpec)

/-- 'laws.FnExactUsePaper', WHERE WHAT IT READS IS OF BULK AT MOST 1048576: true; the input reads as it did. -/
def fnExactUsePaperUptoRow : OpenClaim := { program := "ytfekgafcbohmeaa", sum := "32e27f3d521b4a71711f0d2d9f4903bfbf50d9fc1a700fa080e3bed89a0925b5", func := "loop.example/g03305/laws.FnExactUsePaper", spec := "fnExactUsePaper", unfollowed := true, recurses := true, apart := false, narrowed := true }
def FnExactUsePaperUptoSaid : Prop := fnExactUsePaperUptoRow.holds Try.pinned (OpenSpec.upto fnExactUsePaperSpec)

/-- 'laws.FnExactTotalCut', WHERE WHAT IT READS IS OF BULK AT MOST 1048576: true; the input reads as it did. -/
def fnExactTotalCutUptoRow : OpenClaim := { program := "ytfekgafcbohmeaa", sum := "32e27f3d521b4a71711f0d2d9f4903bfbf50d9fc1a700fa080e3bed89a0925b5", func := "loop.example/g03305/laws.FnExactTotalCut", spec := "fnExactTotalCut", apart := false, narrowed := true }
def FnExactTotalCutUptoSaid : Prop := fnExactTotalCutUptoRow.holds Try.pinned (OpenSpec.upto fnExactTotalCutSpec)

end Rows
end Go.Proofs.Ytfekgafcbohmeaa
