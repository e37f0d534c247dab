/-
  No cell of these rows narrows 'for every input' (looked for: loops, veiled, ifaces, maps, wideKeys, modest, calm, conditions, laid).
  DERIVED. THE GIVEN ROWS OF THIS SEAT. 3 by the template 'for every input the law returns true; each argument reads behind the call as it read before'; 0 by the template 'total and deterministic' (their statements: YtpafclfonclcdaaTotals.lean).
  GIVEN WITH THE SEED: the statements are not yours to turn. If you find one false, say at which input.
  Laid BY PROGRAM, IN A SANDBOX (cutbox-rows.mjs): the forced cells as the released guide's own fill.sh prints them over the translation bdf840d60749333e… (all of the seat's roots in one cut). By AI agents, Wed Nov 11 2026. No macro, syntax, notation, axiom, sorry.
-/
import Derived.Test.YtpafclfonclcdaaChecked
import GoSem.Claim
import GoSem.ClaimJoined
import GoSem.ClaimMapViews
import Derived.JoinedTies
import Derived.KernelRfl
namespace Go.Proofs.Ytpafclfonclcdaa
/- THE CELL 'sum', in the pinned program and in every row, IS THE sha256 OF THE DUMP (.gsa) THAT YtpafclfonclcdaaProg.lean LOADS. Nothing in Lean hashes anything: it is a label: what it is worth is what the hold of that sum in a sandbox is worth. -/
noncomputable def Try.pinned : Pinned := { name := "ytpafclfonclcdaa", sum := "bdf840d60749333eb09401534458663f70050d399938f94740ec04e9503c162a", checked := Try.checked }
namespace Rows
def none {H : Type} : Left H := { results := [], args := [] }

/-- 'laws.FnDiscs': WHATEVER THE INPUT: true; the input reads as it did. -/
def fnDiscsSpec : ChangeSpec := { name := "fnDiscs", fn := fun _ => fun
  | [d] => { results := [.lit (.bool true)], args := [d] }
  | _ => none }
def fnDiscsRow : OpenClaim := { program := "ytpafclfonclcdaa", sum := "bdf840d60749333eb09401534458663f70050d399938f94740ec04e9503c162a", func := "loop.example/g03305/laws.FnDiscs", spec := "fnDiscs", apart := false }
def FnDiscsSaid : Prop := fnDiscsRow.holds Try.pinned (OpenSpec.ofChange fnDiscsSpec)

/-- ITS FALSE NEIGHBOUR: 'it returns false'. Refute it at one input. -/
def fnDiscsWrong : ChangeSpec := { name := "fnDiscs", fn := fun _ => fun
  | [d] => { results := [.lit (.bool false)], args := [d] }
  | _ => none }
def FnDiscsWrongFalsely : Prop := fnDiscsRow.holds Try.pinned (OpenSpec.ofChange fnDiscsWrong)

/-- 'laws.FnExactPeriodOf': WHATEVER THE INPUT: true; the input reads as it did. -/
def fnExactPeriodOfSpec : ChangeSpec := { name := "fnExactPeriodOf", fn := fun _ => fun
  | [d] => { results := [.lit (.bool true)], args := [d] }
  | _ => none }
def fnExactPeriodOfRow : OpenClaim := { program := "ytpafclfonclcdaa", sum := "bdf840d60749333eb09401534458663f70050d399938f94740ec04e9503c162a", func := "loop.example/g03305/laws.FnExactPeriodOf", spec := "fnExactPeriodOf", apart := false }
def FnExactPeriodOfSaid : Prop := fnExactPeriodOfRow.holds Try.pinned (OpenSpec.ofChange fnExactPeriodOfSpec)

/-- ITS FALSE NEIGHBOUR: 'it returns false'. Refute it at one input. -/
def fnExactPeriodOfWrong : ChangeSpec := { name := "fnExactPeriodOf", fn := fun _ => fun
  | [d] => { results := [.lit (.bool false)], args := [d] }
  | _ => none }
def FnExactPeriodOfWrongFalsely : Prop := fnExactPeriodOfRow.holds Try.pinned (OpenSpec.ofChange fnExactPeriodOfWrong)

/-- 'laws.FnExactTurnDisc': WHATEVER THE INPUT: true; the input reads as it did. -/
def fnExactTurnDiscSpec : ChangeSpec := { name := "fnExactTurnDisc", fn := fun _ => fun
  | [d1, d2] => { results := [.lit (.bool true)], args := [d1, d2] }
  | _ => none }
def fnExactTurnDiscRow : OpenClaim := { program := "ytpafclfonclcdaa", sum := "bdf840d60749333eb09401534458663f70050d399938f94740ec04e9503c162a", func := "loop.example/g03305/laws.FnExactTurnDisc", spec := "fnExactTurnDisc", apart := false }
def FnExactTurnDiscSaid : Prop := fnExactTurnDiscRow.holds Try.pinned (OpenSpec.ofChange fnExactTurnDiscSpec)

/-- ITS FALSE NEIGHBOUR: 'it returns false'. Refute it at one input. -/
def fnExactTurnDiscWrong : ChangeSpec := { name := "fnExactTurnDisc", fn := fun _ => fun
  | [d1, d2] => { results := [.lit (.bool false)], args := [d1, d2] }
  | _ => none }
def FnExactTurnDiscWrongFalsely : Prop := fnExactTurnDiscRow.holds Try.pinned (OpenSpec.ofChange fnExactTurnDiscWrong)

/- THE SECOND FORM. 'bulk': how many values and letters a reading holds, each counted each time it is reached (what is shared counts as often as it is met; a slice's spare places count too). A statement '..UptoSaid' is the law's where the arguments, and the package variables that the reading takes, are together of bulk at most 1048576: NARROWER than '..Said'. Prove '..Said' where nothing that the law and all that it calls make is longer than what came in: it says more and counts as full. Else prove '..UptoSaid'. A law counts once. -/
mutual
def uptoBulk {H : Type} : DataW H → Nat
  | .lit (.string bytes) => bytes.length + 1
  | .lit _ => 1
  | .nil => 1
  | .ptr d => uptoBulk d + 1
  | .slice elems spare => uptoBulkAll elems + uptoBulkAll spare + 1
  | .agg parts => uptoBulkAll parts + 1
  | .iface _ d => uptoBulk d + 1
  | .map entries => uptoBulkEntries entries + 1
  | .held _ => 1
def uptoBulkAll {H : Type} : List (DataW H) → Nat
  | [] => 0
  | d :: r => uptoBulk d + uptoBulkAll r
def uptoBulkEntries {H : Type} : List (Lit × DataW H) → Nat
  | [] => 0
  | x :: r => uptoBulkEntry x + uptoBulkEntries r
def uptoBulkEntry {H : Type} : Lit × DataW H → Nat
  | (.string bytes, d) => bytes.length + uptoBulk d + 1
  | (_, d) => uptoBulk d + 1
 end
def uptoSmall : (H : Type) → List (DataW H) → Bool := fun _ ds => decide (uptoBulkAll ds ≤ 1048576)
def OpenSpec.upto (s : _root_.Go.ChangeSpec) : _root_.Go.OpenSpec := { _root_.Go.OpenSpec.ofChange s with cond := some uptoSmall }

/-- 'laws.FnDiscs', WHERE WHAT IT READS IS OF BULK AT MOST 1048576: true; the input reads as it did. -/
def fnDiscsUptoRow : OpenClaim := { program := "ytpafclfonclcdaa", sum := "bdf840d60749333eb09401534458663f70050d399938f94740ec04e9503c162a", func := "loop.example/g03305/laws.FnDiscs", spec := "fnDiscs", apart := false, narrowed := true }
def FnDiscsUptoSaid : Prop := fnDiscsUptoRow.holds Try.pinned (OpenSpec.upto fnDiscsSpec)

/-- 'laws.FnExactPeriodOf', WHERE WHAT IT READS IS OF BULK AT MOST 1048576: true; the input reads as it did. -/
def fnExactPeriodOfUptoRow : OpenClaim := { program := "ytpafclfonclcdaa", sum := "bdf840d60749333eb09401534458663f70050d399938f94740ec04e9503c162a", func := "loop.example/g03305/laws.FnExactPeriodOf", spec := "fnExactPeriodOf", apart := false, narrowed := true }
def FnExactPeriodOfUptoSaid : Prop := fnExactPeriodOfUptoRow.holds Try.pinned (OpenSpec.upto fnExactPeriodOfSpec)

/-- 'laws.FnExactTurnDisc', WHERE WHAT IT READS IS OF BULK AT MOST 1048576: true; the input reads as it did. -/
def fnExactTurnDiscUptoRow : OpenClaim := { program := "ytpafclfonclcdaa", sum := "bdf840d60749333eb09401534458663f70050d399938f94740ec04e9503c162a", func := "loop.example/g03305/laws.FnExactTurnDisc", spec := "fnExactTurnDisc", apart := false, narrowed := true }
def FnExactTurnDiscUptoSaid : Prop := fnExactTurnDiscUptoRow.holds Try.pinned (OpenSpec.upto fnExactTurnDiscSpec)

end Rows
end Go.Proofs.Ytpafclfonclcdaa
