/-
  No cell of these rows narrows 'for every input' (looked for: loops, veiled, ifaces, maps, wideKeys, modest, calm, conditions, laid).
  DERIVED. THE GIVEN ROWS OF THIS SEAT. 12 by the template 'for every input the law returns true; each argument reads behind the call as it read before'; 0 by the template 'total and deterministic' (their statements: YtjffhbcikdcahaaTotals.lean).
  GIVEN WITH THE SEED: the statements are not yours to turn. If you find one false, say at which input.
  Laid BY PROGRAM, IN A SANDBOX (cutbox-rows.mjs): the forced cells as the released guide's own fill.sh prints them over the translation 83f1d9982440ab48… (all of the seat's roots in one cut). By AI agents, Wed Nov 11 2026. No macro, syntax, notation, axiom, sorry.
-/
import Derived.Test.YtjffhbcikdcahaaChecked
import GoSem.Claim
import GoSem.ClaimJoined
import GoSem.ClaimMapViews
import Derived.JoinedTies
import Derived.KernelRfl
namespace Go.Proofs.Ytjffhbcikdcahaa
/- THE CELL 'sum', in the pinned program and in every row, IS THE sha256 OF THE DUMP (.gsa) THAT YtjffhbcikdcahaaProg.lean LOADS. Nothing in Lean hashes anything: it is a label: what it is worth is what the hold of that sum in a sandbox is worth. -/
noncomputable def Try.pinned : Pinned := { name := "ytjffhbcikdcahaa", sum := "83f1d9982440ab48bce2840c02717f5b5a9163728b0decbadd806b671810b1d6", checked := Try.checked }
namespace Rows
def none {H : Type} : Left H := { results := [], args := [] }

/-- 'laws.FnExactFirstFit': WHATEVER THE INPUT: true; the input reads as it did. -/
def fnExactFirstFitSpec : ChangeSpec := { name := "fnExactFirstFit", fn := fun _ => fun
  | [d1, d2] => { results := [.lit (.bool true)], args := [d1, d2] }
  | _ => none }
def fnExactFirstFitRow : OpenClaim := { program := "ytjffhbcikdcahaa", sum := "83f1d9982440ab48bce2840c02717f5b5a9163728b0decbadd806b671810b1d6", func := "loop.example/g03305/laws.FnExactFirstFit", spec := "fnExactFirstFit", unfollowed := true, recurses := true, apart := false }
def FnExactFirstFitSaid : Prop := fnExactFirstFitRow.holds Try.pinned (OpenSpec.ofChange fnExactFirstFitSpec)

/-- ITS FALSE NEIGHBOUR: 'it returns false'. Refute it at one input. -/
def fnExactFirstFitWrong : ChangeSpec := { name := "fnExactFirstFit", fn := fun _ => fun
  | [d1, d2] => { results := [.lit (.bool false)], args := [d1, d2] }
  | _ => none }
def FnExactFirstFitWrongFalsely : Prop := fnExactFirstFitRow.holds Try.pinned (OpenSpec.ofChange fnExactFirstFitWrong)

/-- 'laws.FnSheets': WHATEVER THE INPUT: true; the input reads as it did. -/
def fnSheetsSpec : ChangeSpec := { name := "fnSheets", fn := fun _ => fun
  | [d] => { results := [.lit (.bool true)], args := [d] }
  | _ => none }
def fnSheetsRow : OpenClaim := { program := "ytjffhbcikdcahaa", sum := "83f1d9982440ab48bce2840c02717f5b5a9163728b0decbadd806b671810b1d6", func := "loop.example/g03305/laws.FnSheets", spec := "fnSheets", inPlace := ["internal/bytealg.CountString", "internal/bytealg.IndexByteString", "internal/bytealg.IndexString"], unfollowed := true, recurses := true, named := ["internal/bytealg.MaxLen"], apart := false }
def FnSheetsSaid : Prop := fnSheetsRow.holds Try.pinned (OpenSpec.ofChange fnSheetsSpec)

/-- ITS FALSE NEIGHBOUR: 'it returns false'. Refute it at one input. -/
def fnSheetsWrong : ChangeSpec := { name := "fnSheets", fn := fun _ => fun
  | [d] => { results := [.lit (.bool false)], args := [d] }
  | _ => none }
def FnSheetsWrongFalsely : Prop := fnSheetsRow.holds Try.pinned (OpenSpec.ofChange fnSheetsWrong)

/-- 'laws.FnExactBlankOf': WHATEVER THE INPUT: true; the input reads as it did. -/
def fnExactBlankOfSpec : ChangeSpec := { name := "fnExactBlankOf", fn := fun _ => fun
  | [d] => { results := [.lit (.bool true)], args := [d] }
  | _ => none }
def fnExactBlankOfRow : OpenClaim := { program := "ytjffhbcikdcahaa", sum := "83f1d9982440ab48bce2840c02717f5b5a9163728b0decbadd806b671810b1d6", func := "loop.example/g03305/laws.FnExactBlankOf", spec := "fnExactBlankOf", inPlace := ["internal/bytealg.CountString", "internal/bytealg.IndexByteString", "internal/bytealg.IndexString"], named := ["internal/bytealg.MaxLen"], apart := false }
def FnExactBlankOfSaid : Prop := fnExactBlankOfRow.holds Try.pinned (OpenSpec.ofChange fnExactBlankOfSpec)

/-- ITS FALSE NEIGHBOUR: 'it returns false'. Refute it at one input. -/
def fnExactBlankOfWrong : ChangeSpec := { name := "fnExactBlankOf", fn := fun _ => fun
  | [d] => { results := [.lit (.bool false)], args := [d] }
  | _ => none }
def FnExactBlankOfWrongFalsely : Prop := fnExactBlankOfRow.holds Try.pinned (OpenSpec.ofChange fnExactBlankOfWrong)

/-- 'laws.FnExactFitOn': WHATEVER THE INPUT: true; the input reads as it did. -/
def fnExactFitOnSpec : ChangeSpec := { name := "fnExactFitOn", fn := fun _ => fun
  | [d1, d2, d3] => { results := [.lit (.bool true)], args := [d1, d2, d3] }
  | _ => none }
def fnExactFitOnRow : OpenClaim := { program := "ytjffhbcikdcahaa", sum := "83f1d9982440ab48bce2840c02717f5b5a9163728b0decbadd806b671810b1d6", func := "loop.example/g03305/laws.FnExactFitOn", spec := "fnExactFitOn", inPlace := ["internal/bytealg.CountString", "internal/bytealg.IndexByteString", "internal/bytealg.IndexString"], named := ["internal/bytealg.MaxLen"], apart := false }
def FnExactFitOnSaid : Prop := fnExactFitOnRow.holds Try.pinned (OpenSpec.ofChange fnExactFitOnSpec)

/-- ITS FALSE NEIGHBOUR: 'it returns false'. Refute it at one input. -/
def fnExactFitOnWrong : ChangeSpec := { name := "fnExactFitOn", fn := fun _ => fun
  | [d1, d2, d3] => { results := [.lit (.bool false)], args := [d1, d2, d3] }
  | _ => none }
def FnExactFitOnWrongFalsely : Prop := fnExactFitOnRow.holds Try.pinned (OpenSpec.ofChange fnExactFitOnWrong)

/-- 'laws.FnExactBestFit': WHATEVER THE INPUT: true; the input reads as it did. -/
def fnExactBestFitSpec : ChangeSpec := { name := "fnExactBestFit", fn := fun _ => fun
  | [d1, d2, d3] => { results := [.lit (.bool true)], args := [d1, d2, d3] }
  | _ => none }
def fnExactBestFitRow : OpenClaim := { program := "ytjffhbcikdcahaa", sum := "83f1d9982440ab48bce2840c02717f5b5a9163728b0decbadd806b671810b1d6", func := "loop.example/g03305/laws.FnExactBestFit", spec := "fnExactBestFit", inPlace := ["internal/bytealg.CountString", "internal/bytealg.IndexByteString", "internal/bytealg.IndexString"], named := ["internal/bytealg.MaxLen"], apart := false }
def FnExactBestFitSaid : Prop := fnExactBestFitRow.holds Try.pinned (OpenSpec.ofChange fnExactBestFitSpec)

/-- ITS FALSE NEIGHBOUR: 'it returns false'. Refute it at one input. -/
def fnExactBestFitWrong : ChangeSpec := { name := "fnExactBestFit", fn := fun _ => fun
  | [d1, d2, d3] => { results := [.lit (.bool false)], args := [d1, d2, d3] }
  | _ => none }
def FnExactBestFitWrongFalsely : Prop := fnExactBestFitRow.holds Try.pinned (OpenSpec.ofChange fnExactBestFitWrong)

/-- 'laws.FnExactSheetsFor': WHATEVER THE INPUT: true; the input reads as it did. -/
def fnExactSheetsForSpec : ChangeSpec := { name := "fnExactSheetsFor", fn := fun _ => fun
  | [d1, d2, d3, d4] => { results := [.lit (.bool true)], args := [d1, d2, d3, d4] }
  | _ => none }
def fnExactSheetsForRow : OpenClaim := { program := "ytjffhbcikdcahaa", sum := "83f1d9982440ab48bce2840c02717f5b5a9163728b0decbadd806b671810b1d6", func := "loop.example/g03305/laws.FnExactSheetsFor", spec := "fnExactSheetsFor", inPlace := ["internal/bytealg.CountString", "internal/bytealg.IndexByteString", "internal/bytealg.IndexString"], named := ["internal/bytealg.MaxLen"], apart := false }
def FnExactSheetsForSaid : Prop := fnExactSheetsForRow.holds Try.pinned (OpenSpec.ofChange fnExactSheetsForSpec)

/-- ITS FALSE NEIGHBOUR: 'it returns false'. Refute it at one input. -/
def fnExactSheetsForWrong : ChangeSpec := { name := "fnExactSheetsFor", fn := fun _ => fun
  | [d1, d2, d3, d4] => { results := [.lit (.bool false)], args := [d1, d2, d3, d4] }
  | _ => none }
def FnExactSheetsForWrongFalsely : Prop := fnExactSheetsForRow.holds Try.pinned (OpenSpec.ofChange fnExactSheetsForWrong)

/-- 'laws.FnExactWeightOf': WHATEVER THE INPUT: true; the input reads as it did. -/
def fnExactWeightOfSpec : ChangeSpec := { name := "fnExactWeightOf", fn := fun _ => fun
  | [d1, d2] => { results := [.lit (.bool true)], args := [d1, d2] }
  | _ => none }
def fnExactWeightOfRow : OpenClaim := { program := "ytjffhbcikdcahaa", sum := "83f1d9982440ab48bce2840c02717f5b5a9163728b0decbadd806b671810b1d6", func := "loop.example/g03305/laws.FnExactWeightOf", spec := "fnExactWeightOf", inPlace := ["internal/bytealg.CountString", "internal/bytealg.IndexByteString", "internal/bytealg.IndexString"], named := ["internal/bytealg.MaxLen"], apart := false }
def FnExactWeightOfSaid : Prop := fnExactWeightOfRow.holds Try.pinned (OpenSpec.ofChange fnExactWeightOfSpec)

/-- ITS FALSE NEIGHBOUR: 'it returns false'. Refute it at one input. -/
def fnExactWeightOfWrong : ChangeSpec := { name := "fnExactWeightOf", fn := fun _ => fun
  | [d1, d2] => { results := [.lit (.bool false)], args := [d1, d2] }
  | _ => none }
def FnExactWeightOfWrongFalsely : Prop := fnExactWeightOfRow.holds Try.pinned (OpenSpec.ofChange fnExactWeightOfWrong)

/-- 'laws.FnExactCopyOk': WHATEVER THE INPUT: true; the input reads as it did. -/
def fnExactCopyOkSpec : ChangeSpec := { name := "fnExactCopyOk", fn := fun _ => fun
  | [d] => { results := [.lit (.bool true)], args := [d] }
  | _ => none }
def fnExactCopyOkRow : OpenClaim := { program := "ytjffhbcikdcahaa", sum := "83f1d9982440ab48bce2840c02717f5b5a9163728b0decbadd806b671810b1d6", func := "loop.example/g03305/laws.FnExactCopyOk", spec := "fnExactCopyOk", inPlace := ["internal/bytealg.CountString", "internal/bytealg.IndexByteString", "internal/bytealg.IndexString"], named := ["internal/bytealg.MaxLen"], apart := false }
def FnExactCopyOkSaid : Prop := fnExactCopyOkRow.holds Try.pinned (OpenSpec.ofChange fnExactCopyOkSpec)

/-- ITS FALSE NEIGHBOUR: 'it returns false'. Refute it at one input. -/
def fnExactCopyOkWrong : ChangeSpec := { name := "fnExactCopyOk", fn := fun _ => fun
  | [d] => { results := [.lit (.bool false)], args := [d] }
  | _ => none }
def FnExactCopyOkWrongFalsely : Prop := fnExactCopyOkRow.holds Try.pinned (OpenSpec.ofChange fnExactCopyOkWrong)

/-- 'laws.FnPapers': WHATEVER THE INPUT: true; the input reads as it did. -/
def fnPapersSpec : ChangeSpec := { name := "fnPapers", fn := fun _ => fun
  | [d] => { results := [.lit (.bool true)], args := [d] }
  | _ => none }
def fnPapersRow : OpenClaim := { program := "ytjffhbcikdcahaa", sum := "83f1d9982440ab48bce2840c02717f5b5a9163728b0decbadd806b671810b1d6", func := "loop.example/g03305/laws.FnPapers", spec := "fnPapers", inPlace := ["internal/bytealg.CountString", "internal/bytealg.IndexByteString", "internal/bytealg.IndexString"], unfollowed := true, recurses := true, named := ["internal/bytealg.MaxLen"], apart := false }
def FnPapersSaid : Prop := fnPapersRow.holds Try.pinned (OpenSpec.ofChange fnPapersSpec)

/-- ITS FALSE NEIGHBOUR: 'it returns false'. Refute it at one input. -/
def fnPapersWrong : ChangeSpec := { name := "fnPapers", fn := fun _ => fun
  | [d] => { results := [.lit (.bool false)], args := [d] }
  | _ => none }
def FnPapersWrongFalsely : Prop := fnPapersRow.holds Try.pinned (OpenSpec.ofChange fnPapersWrong)

/-- 'laws.FnExactCutsOf': WHATEVER THE INPUT: true; the input reads as it did. -/
def fnExactCutsOfSpec : ChangeSpec := { name := "fnExactCutsOf", fn := fun _ => fun
  | [d] => { results := [.lit (.bool true)], args := [d] }
  | _ => none }
def fnExactCutsOfRow : OpenClaim := { program := "ytjffhbcikdcahaa", sum := "83f1d9982440ab48bce2840c02717f5b5a9163728b0decbadd806b671810b1d6", func := "loop.example/g03305/laws.FnExactCutsOf", spec := "fnExactCutsOf", inPlace := ["internal/bytealg.CountString", "internal/bytealg.IndexByteString", "internal/bytealg.IndexString"], named := ["internal/bytealg.MaxLen"], apart := false }
def FnExactCutsOfSaid : Prop := fnExactCutsOfRow.holds Try.pinned (OpenSpec.ofChange fnExactCutsOfSpec)

/-- ITS FALSE NEIGHBOUR: 'it returns false'. Refute it at one input. -/
def fnExactCutsOfWrong : ChangeSpec := { name := "fnExactCutsOf", fn := fun _ => fun
  | [d] => { results := [.lit (.bool false)], args := [d] }
  | _ => none }
def FnExactCutsOfWrongFalsely : Prop := fnExactCutsOfRow.holds Try.pinned (OpenSpec.ofChange fnExactCutsOfWrong)

/-- 'laws.FnExactLeftOf': WHATEVER THE INPUT: true; the input reads as it did. -/
def fnExactLeftOfSpec : ChangeSpec := { name := "fnExactLeftOf", fn := fun _ => fun
  | [d] => { results := [.lit (.bool true)], args := [d] }
  | _ => none }
def fnExactLeftOfRow : OpenClaim := { program := "ytjffhbcikdcahaa", sum := "83f1d9982440ab48bce2840c02717f5b5a9163728b0decbadd806b671810b1d6", func := "loop.example/g03305/laws.FnExactLeftOf", spec := "fnExactLeftOf", inPlace := ["internal/bytealg.CountString", "internal/bytealg.IndexByteString", "internal/bytealg.IndexString"], named := ["internal/bytealg.MaxLen"], apart := false }
def FnExactLeftOfSaid : Prop := fnExactLeftOfRow.holds Try.pinned (OpenSpec.ofChange fnExactLeftOfSpec)

/-- ITS FALSE NEIGHBOUR: 'it returns false'. Refute it at one input. -/
def fnExactLeftOfWrong : ChangeSpec := { name := "fnExactLeftOf", fn := fun _ => fun
  | [d] => { results := [.lit (.bool false)], args := [d] }
  | _ => none }
def FnExactLeftOfWrongFalsely : Prop := fnExactLeftOfRow.holds Try.pinned (OpenSpec.ofChange fnExactLeftOfWrong)

/-- 'laws.FnExactWeakestStrip': WHATEVER THE INPUT: true; the input reads as it did. -/
def fnExactWeakestStripSpec : ChangeSpec := { name := "fnExactWeakestStrip", fn := fun _ => fun
  | [d] => { results := [.lit (.bool true)], args := [d] }
  | _ => none }
def fnExactWeakestStripRow : OpenClaim := { program := "ytjffhbcikdcahaa", sum := "83f1d9982440ab48bce2840c02717f5b5a9163728b0decbadd806b671810b1d6", func := "loop.example/g03305/laws.FnExactWeakestStrip", spec := "fnExactWeakestStrip", inPlace := ["internal/bytealg.CountString", "internal/bytealg.IndexByteString", "internal/bytealg.IndexString"], named := ["internal/bytealg.MaxLen"], apart := false }
def FnExactWeakestStripSaid : Prop := fnExactWeakestStripRow.holds Try.pinned (OpenSpec.ofChange fnExactWeakestStripSpec)

/-- ITS FALSE NEIGHBOUR: 'it returns false'. Refute it at one input. -/
def fnExactWeakestStripWrong : ChangeSpec := { name := "fnExactWeakestStrip", fn := fun _ => fun
  | [d] => { results := [.lit (.bool false)], args := [d] }
  | _ => none }
def FnExactWeakestStripWrongFalsely : Prop := fnExactWeakestStripRow.holds Try.pinned (OpenSpec.ofChange fnExactWeakestStripWrong)

/- THE SECOND FORM. 'bulk': how many values and letters a reading holds, each counted each time it is reached (what is shared counts as often as it is met; a slice's spare places count too). A statement '..UptoSaid' is the law's where the arguments, and the package variables that the reading takes, are together of bulk at most 1048576: NARROWER than '..Said'. Prove '..Said' where nothing that the law and all that it calls make is longer than what came in: it says more and counts as full. Else prove '..UptoSaid'. A law counts once. -/
mutual
def uptoBulk {H : Type} : DataW H → Nat
  | .lit (.string bytes) => bytes.length + 1
  | .lit _ => 1
  | .nil => 1
  | .ptr d => uptoBulk d + 1
  | .slice elems spare => uptoBulkAll elems + uptoBulkAll spare + 1
  | .agg parts => uptoBulkAll parts + 1
  | .iface _ d => uptoBulk d + 1
  | .map entries => uptoBulkEntries entries + 1
  | .held _ => 1
def uptoBulkAll {H : Type} : List (DataW H) → Nat
  | [] => 0
  | d :: r => uptoBulk d + uptoBulkAll r
def uptoBulkEntries {H : Type} : List (Lit × DataW H) → Nat
  | [] => 0
  | x :: r => uptoBulkEntry x + uptoBulkEntries r
def uptoBulkEntry {H : Type} : Lit × DataW H → Nat
  | (.string bytes, d) => bytes.length + uptoBulk d + 1
  | (_, d) => uptoBulk d + 1
 end
def uptoSmall : (H : Type) → List (DataW H) → Bool := fun _ ds => decide (uptoBulkAll ds ≤ 1048576)
def OpenSpec.upto (s : _root_.Go.ChangeSpec) : _root_.Go.OpenSpec := { _root_.Go.OpenSpec.ofChange s with cond := some uptoSmall }

/-- 'laws.FnExactFirstFit', WHERE WHAT IT READS IS OF BULK AT MOST 1048576: true; the input reads as it did. -/
def fnExactFirstFitUptoRow : OpenClaim := { program := "ytjffhbcikdcahaa", sum := "83f1d9982440ab48bce2840c02717f5b5a9163728b0decbadd806b671810b1d6", func := "loop.example/g03305/laws.FnExactFirstFit", spec := "fnExactFirstFit", unfollowed := true, recurses := true, apart := false, narrowed := true }
def FnExactFirstFitUptoSaid : Prop := fnExactFirstFitUptoRow.holds Try.pinned (OpenSpec.upto fnExactFirstFitSpec)

/-- 'laws.FnSheets', WHERE WHAT IT READS IS OF BULK AT MOST 1048576: true; the input reads as it did. -/
def fnSheetsUptoRow : OpenClaim := { program := "ytjffhbcikdcahaa", sum := "83f1d9982440ab48bce2840c02717f5b5a9163728b0decbadd806b671810b1d6", func := "loop.example/g03305/laws.FnSheets", spec := "fnSheets", inPlace := ["internal/bytealg.CountString", "internal/bytealg.IndexByteString", "internal/bytealg.IndexString"], unfollowed := true, recurses := true, named := ["internal/bytealg.MaxLen"], apart := false, narrowed := true }
def FnSheetsUptoSaid : Prop := fnSheetsUptoRow.holds Try.pinned (OpenSpec.upto fnSheetsSpec)

/-- 'laws.FnExactBlankOf', WHERE WHAT IT READS IS OF BULK AT MOST 1048576: true; the input reads as it did. -/
def fnExactBlankOfUptoRow : OpenClaim := { program := "ytjffhbcikdcahaa", sum := "83f1d9982440ab48bce2840c02717f5b5a9163728b0decbadd806b671810b1d6", func := "loop.example/g03305/laws.FnExactBlankOf", spec := "fnExactBlankOf", inPlace := ["internal/bytealg.CountString", "internal/bytealg.IndexByteString", "internal/bytealg.IndexString"], named := ["internal/bytealg.MaxLen"], apart := false, narrowed := true }
def FnExactBlankOfUptoSaid : Prop := fnExactBlankOfUptoRow.holds Try.pinned (OpenSpec.upto fnExactBlankOfSpec)

/-- 'laws.FnExactFitOn', WHERE WHAT IT READS IS OF BULK AT MOST 1048576: true; the input reads as it did. -/
def fnExactFitOnUptoRow : OpenClaim := { program := "ytjffhbcikdcahaa", sum := "83f1d9982440ab48bce2840c02717f5b5a9163728b0decbadd806b671810b1d6", func := "loop.example/g03305/laws.FnExactFitOn", spec := "fnExactFitOn", inPlace := ["internal/bytealg.CountString", "internal/bytealg.IndexByteString", "internal/bytealg.IndexString"], named := ["internal/bytealg.MaxLen"], apart := false, narrowed := true }
def FnExactFitOnUptoSaid : Prop := fnExactFitOnUptoRow.holds Try.pinned (OpenSpec.upto fnExactFitOnSpec)

/-- 'laws.FnExactBestFit', WHERE WHAT IT READS IS OF BULK AT MOST 1048576: true; the input reads as it did. -/
def fnExactBestFitUptoRow : OpenClaim := { program := "ytjffhbcikdcahaa", sum := "83f1d9982440ab48bce2840c02717f5b5a9163728b0decbadd806b671810b1d6", func := "loop.example/g03305/laws.FnExactBestFit", spec := "fnExactBestFit", inPlace := ["internal/bytealg.CountString", "internal/bytealg.IndexByteString", "internal/bytealg.IndexString"], named := ["internal/bytealg.MaxLen"], apart := false, narrowed := true }
def FnExactBestFitUptoSaid : Prop := fnExactBestFitUptoRow.holds Try.pinned (OpenSpec.upto fnExactBestFitSpec)

/-- 'laws.FnExactSheetsFor', WHERE WHAT IT READS IS OF BULK AT MOST 1048576: true; the input reads as it did. -/
def fnExactSheetsForUptoRow : OpenClaim := { program := "ytjffhbcikdcahaa", sum := "83f1d9982440ab48bce2840c02717f5b5a9163728b0decbadd806b671810b1d6", func := "loop.example/g03305/laws.FnExactSheetsFor", spec := "fnExactSheetsFor", inPlace := ["internal/bytealg.CountString", "internal/bytealg.IndexByteString", "internal/bytealg.IndexString"], named := ["internal/bytealg.MaxLen"], apart := false, narrowed := true }
def FnExactSheetsForUptoSaid : Prop := fnExactSheetsForUptoRow.holds Try.pinned (OpenSpec.upto fnExactSheetsForSpec)

/-- 'laws.FnExactWeightOf', WHERE WHAT IT READS IS OF BULK AT MOST 1048576: true; the input reads as it did. -/
def fnExactWeightOfUptoRow : OpenClaim := { program := "ytjffhbcikdcahaa", sum := "83f1d9982440ab48bce2840c02717f5b5a9163728b0decbadd806b671810b1d6", func := "loop.example/g03305/laws.FnExactWeightOf", spec := "fnExactWeightOf", inPlace := ["internal/bytealg.CountString", "internal/bytealg.IndexByteString", "internal/bytealg.IndexString"], named := ["internal/bytealg.MaxLen"], apart := false, narrowed := true }
def FnExactWeightOfUptoSaid : Prop := fnExactWeightOfUptoRow.holds Try.pinned (OpenSpec.upto fnExactWeightOfSpec)

/-- 'laws.FnExactCopyOk', WHERE WHAT IT READS IS OF BULK AT MOST 1048576: true; the input reads as it did. -/
def fnExactCopyOkUptoRow : OpenClaim := { program := "ytjffhbcikdcahaa", sum := "83f1d9982440ab48bce2840c02717f5b5a9163728b0decbadd806b671810b1d6", func := "loop.example/g03305/laws.FnExactCopyOk", spec := "fnExactCopyOk", inPlace := ["internal/bytealg.CountString", "internal/bytealg.IndexByteString", "internal/bytealg.IndexString"], named := ["internal/bytealg.MaxLen"], apart := false, narrowed := true }
def FnExactCopyOkUptoSaid : Prop := fnExactCopyOkUptoRow.holds Try.pinned (OpenSpec.upto fnExactCopyOkSpec)

/-- 'laws.FnPapers', WHERE WHAT IT READS IS OF BULK AT MOST 1048576: true; the input reads as it did. -/
def fnPapersUptoRow : OpenClaim := { program := "ytjffhbcikdcahaa", sum := "83f1d9982440ab48bce2840c02717f5b5a9163728b0decbadd806b671810b1d6", func := "loop.example/g03305/laws.FnPapers", spec := "fnPapers", inPlace := ["internal/bytealg.CountString", "internal/bytealg.IndexByteString", "internal/bytealg.IndexString"], unfollowed := true, recurses := true, named := ["internal/bytealg.MaxLen"], apart := false, narrowed := true }
def FnPapersUptoSaid : Prop := fnPapersUptoRow.holds Try.pinned (OpenSpec.upto fnPapersSpec)

/-- 'laws.FnExactCutsOf', WHERE WHAT IT READS IS OF BULK AT MOST 1048576: true; the input reads as it did. -/
def fnExactCutsOfUptoRow : OpenClaim := { program := "ytjffhbcikdcahaa", sum := "83f1d9982440ab48bce2840c02717f5b5a9163728b0decbadd806b671810b1d6", func := "loop.example/g03305/laws.FnExactCutsOf", spec := "fnExactCutsOf", inPlace := ["internal/bytealg.CountString", "internal/bytealg.IndexByteString", "internal/bytealg.IndexString"], named := ["internal/bytealg.MaxLen"], apart := false, narrowed := true }
def FnExactCutsOfUptoSaid : Prop := fnExactCutsOfUptoRow.holds Try.pinned (OpenSpec.upto fnExactCutsOfSpec)

/-- 'laws.FnExactLeftOf', WHERE WHAT IT READS IS OF BULK AT MOST 1048576: true; the input reads as it did. -/
def fnExactLeftOfUptoRow : OpenClaim := { program := "ytjffhbcikdcahaa", sum := "83f1d9982440ab48bce2840c02717f5b5a9163728b0decbadd806b671810b1d6", func := "loop.example/g03305/laws.FnExactLeftOf", spec := "fnExactLeftOf", inPlace := ["internal/bytealg.CountString", "internal/bytealg.IndexByteString", "internal/bytealg.IndexString"], named := ["internal/bytealg.MaxLen"], apart := false, narrowed := true }
def FnExactLeftOfUptoSaid : Prop := fnExactLeftOfUptoRow.holds Try.pinned (OpenSpec.upto fnExactLeftOfSpec)

/-- 'laws.FnExactWeakestStrip', WHERE WHAT IT READS IS OF BULK AT MOST 1048576: true; the input reads as it did. -/
def fnExactWeakestStripUptoRow : OpenClaim := { program := "ytjffhbcikdcahaa", sum := "83f1d9982440ab48bce2840c02717f5b5a9163728b0decbadd806b671810b1d6", func := "loop.example/g03305/laws.FnExactWeakestStrip", spec := "fnExactWeakestStrip", inPlace := ["internal/bytealg.CountString", "internal/bytealg.IndexByteString", "internal/bytealg.IndexString"], named := ["internal/bytealg.MaxLen"], apart := false, narrowed := true }
def FnExactWeakestStripUptoSaid : Prop := fnExactWeakestStripUptoRow.holds Try.pinned (OpenSpec.upto fnExactWeakestStripSpec)

end Rows
end Go.Proofs.Ytjffhbcikdcahaa
