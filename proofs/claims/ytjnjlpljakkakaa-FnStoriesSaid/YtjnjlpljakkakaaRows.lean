/-
  No cell of these rows narrows 'for every input' (looked for: loops, veiled, ifaces, maps, wideKeys, modest, calm, conditions, laid).
  DERIVED. THE GIVEN ROWS OF THIS SEAT. 8 by the template 'for every input the law returns true; each argument reads behind the call as it read before'; 0 by the template 'total and deterministic' (their statements: YtjnjlpljakkakaaTotals.lean).
  GIVEN WITH THE SEED: the statements are not yours to turn. If you find one false, say at which input.
  Laid BY PROGRAM, IN A SANDBOX (cutbox-rows.mjs): the forced cells as the released guide's own fill.sh prints them over the translation 70bc67b312dad644… (all of the seat's roots in one cut). By AI agents, Wed Nov 11 2026. No macro, syntax, notation, axiom, sorry.
-/
import Derived.Test.YtjnjlpljakkakaaChecked
import GoSem.Claim
import GoSem.ClaimJoined
import GoSem.ClaimMapViews
import Derived.JoinedTies
import Derived.KernelRfl
namespace Go.Proofs.Ytjnjlpljakkakaa
/- THE CELL 'sum', in the pinned program and in every row, IS THE sha256 OF THE DUMP (.gsa) THAT YtjnjlpljakkakaaProg.lean LOADS. Nothing in Lean hashes anything: it is a label: what it is worth is what the hold of that sum in a sandbox is worth. -/
noncomputable def Try.pinned : Pinned := { name := "ytjnjlpljakkakaa", sum := "70bc67b312dad6442e1d68ef44c72a5ad688c9a92040eb55bc38960c4321467b", checked := Try.checked }
namespace Rows
def none {H : Type} : Left H := { results := [], args := [] }

/-- 'laws.FnExactStoryOk': WHATEVER THE INPUT: true; the input reads as it did. -/
def fnExactStoryOkSpec : ChangeSpec := { name := "fnExactStoryOk", fn := fun _ => fun
  | [d] => { results := [.lit (.bool true)], args := [d] }
  | _ => none }
def fnExactStoryOkRow : OpenClaim := { program := "ytjnjlpljakkakaa", sum := "70bc67b312dad6442e1d68ef44c72a5ad688c9a92040eb55bc38960c4321467b", func := "loop.example/g03305/laws.FnExactStoryOk", spec := "fnExactStoryOk", apart := false }
def FnExactStoryOkSaid : Prop := fnExactStoryOkRow.holds Try.pinned (OpenSpec.ofChange fnExactStoryOkSpec)

/-- ITS FALSE NEIGHBOUR: 'it returns false'. Refute it at one input. -/
def fnExactStoryOkWrong : ChangeSpec := { name := "fnExactStoryOk", fn := fun _ => fun
  | [d] => { results := [.lit (.bool false)], args := [d] }
  | _ => none }
def FnExactStoryOkWrongFalsely : Prop := fnExactStoryOkRow.holds Try.pinned (OpenSpec.ofChange fnExactStoryOkWrong)

/-- 'laws.FnExactIsEndless': WHATEVER THE INPUT: true; the input reads as it did. -/
def fnExactIsEndlessSpec : ChangeSpec := { name := "fnExactIsEndless", fn := fun _ => fun
  | [d] => { results := [.lit (.bool true)], args := [d] }
  | _ => none }
def fnExactIsEndlessRow : OpenClaim := { program := "ytjnjlpljakkakaa", sum := "70bc67b312dad6442e1d68ef44c72a5ad688c9a92040eb55bc38960c4321467b", func := "loop.example/g03305/laws.FnExactIsEndless", spec := "fnExactIsEndless", recurses := true, apart := false }
def FnExactIsEndlessSaid : Prop := fnExactIsEndlessRow.holds Try.pinned (OpenSpec.ofChange fnExactIsEndlessSpec)

/-- ITS FALSE NEIGHBOUR: 'it returns false'. Refute it at one input. -/
def fnExactIsEndlessWrong : ChangeSpec := { name := "fnExactIsEndless", fn := fun _ => fun
  | [d] => { results := [.lit (.bool false)], args := [d] }
  | _ => none }
def FnExactIsEndlessWrongFalsely : Prop := fnExactIsEndlessRow.holds Try.pinned (OpenSpec.ofChange fnExactIsEndlessWrong)

/-- 'laws.FnExactReachedFrom': WHATEVER THE INPUT: true; the input reads as it did. -/
def fnExactReachedFromSpec : ChangeSpec := { name := "fnExactReachedFrom", fn := fun _ => fun
  | [d1, d2] => { results := [.lit (.bool true)], args := [d1, d2] }
  | _ => none }
def fnExactReachedFromRow : OpenClaim := { program := "ytjnjlpljakkakaa", sum := "70bc67b312dad6442e1d68ef44c72a5ad688c9a92040eb55bc38960c4321467b", func := "loop.example/g03305/laws.FnExactReachedFrom", spec := "fnExactReachedFrom", recurses := true, apart := false }
def FnExactReachedFromSaid : Prop := fnExactReachedFromRow.holds Try.pinned (OpenSpec.ofChange fnExactReachedFromSpec)

/-- ITS FALSE NEIGHBOUR: 'it returns false'. Refute it at one input. -/
def fnExactReachedFromWrong : ChangeSpec := { name := "fnExactReachedFrom", fn := fun _ => fun
  | [d1, d2] => { results := [.lit (.bool false)], args := [d1, d2] }
  | _ => none }
def FnExactReachedFromWrongFalsely : Prop := fnExactReachedFromRow.holds Try.pinned (OpenSpec.ofChange fnExactReachedFromWrong)

/-- 'laws.FnExactLostPages': WHATEVER THE INPUT: true; the input reads as it did. -/
def fnExactLostPagesSpec : ChangeSpec := { name := "fnExactLostPages", fn := fun _ => fun
  | [d] => { results := [.lit (.bool true)], args := [d] }
  | _ => none }
def fnExactLostPagesRow : OpenClaim := { program := "ytjnjlpljakkakaa", sum := "70bc67b312dad6442e1d68ef44c72a5ad688c9a92040eb55bc38960c4321467b", func := "loop.example/g03305/laws.FnExactLostPages", spec := "fnExactLostPages", recurses := true, apart := false }
def FnExactLostPagesSaid : Prop := fnExactLostPagesRow.holds Try.pinned (OpenSpec.ofChange fnExactLostPagesSpec)

/-- ITS FALSE NEIGHBOUR: 'it returns false'. Refute it at one input. -/
def fnExactLostPagesWrong : ChangeSpec := { name := "fnExactLostPages", fn := fun _ => fun
  | [d] => { results := [.lit (.bool false)], args := [d] }
  | _ => none }
def FnExactLostPagesWrongFalsely : Prop := fnExactLostPagesRow.holds Try.pinned (OpenSpec.ofChange fnExactLostPagesWrong)

/-- 'laws.FnExactCountTales': WHATEVER THE INPUT: true; the input reads as it did. -/
def fnExactCountTalesSpec : ChangeSpec := { name := "fnExactCountTales", fn := fun _ => fun
  | [d] => { results := [.lit (.bool true)], args := [d] }
  | _ => none }
def fnExactCountTalesRow : OpenClaim := { program := "ytjnjlpljakkakaa", sum := "70bc67b312dad6442e1d68ef44c72a5ad688c9a92040eb55bc38960c4321467b", func := "loop.example/g03305/laws.FnExactCountTales", spec := "fnExactCountTales", recurses := true, apart := false }
def FnExactCountTalesSaid : Prop := fnExactCountTalesRow.holds Try.pinned (OpenSpec.ofChange fnExactCountTalesSpec)

/-- ITS FALSE NEIGHBOUR: 'it returns false'. Refute it at one input. -/
def fnExactCountTalesWrong : ChangeSpec := { name := "fnExactCountTales", fn := fun _ => fun
  | [d] => { results := [.lit (.bool false)], args := [d] }
  | _ => none }
def FnExactCountTalesWrongFalsely : Prop := fnExactCountTalesRow.holds Try.pinned (OpenSpec.ofChange fnExactCountTalesWrong)

/-- 'laws.FnExactShortestTale': WHATEVER THE INPUT: true; the input reads as it did. -/
def fnExactShortestTaleSpec : ChangeSpec := { name := "fnExactShortestTale", fn := fun _ => fun
  | [d] => { results := [.lit (.bool true)], args := [d] }
  | _ => none }
def fnExactShortestTaleRow : OpenClaim := { program := "ytjnjlpljakkakaa", sum := "70bc67b312dad6442e1d68ef44c72a5ad688c9a92040eb55bc38960c4321467b", func := "loop.example/g03305/laws.FnExactShortestTale", spec := "fnExactShortestTale", unfollowed := true, recurses := true, apart := false }
def FnExactShortestTaleSaid : Prop := fnExactShortestTaleRow.holds Try.pinned (OpenSpec.ofChange fnExactShortestTaleSpec)

/-- ITS FALSE NEIGHBOUR: 'it returns false'. Refute it at one input. -/
def fnExactShortestTaleWrong : ChangeSpec := { name := "fnExactShortestTale", fn := fun _ => fun
  | [d] => { results := [.lit (.bool false)], args := [d] }
  | _ => none }
def FnExactShortestTaleWrongFalsely : Prop := fnExactShortestTaleRow.holds Try.pinned (OpenSpec.ofChange fnExactShortestTaleWrong)

/-- 'laws.FnExactLongestTale': WHATEVER THE INPUT: true; the input reads as it did. -/
def fnExactLongestTaleSpec : ChangeSpec := { name := "fnExactLongestTale", fn := fun _ => fun
  | [d] => { results := [.lit (.bool true)], args := [d] }
  | _ => none }
def fnExactLongestTaleRow : OpenClaim := { program := "ytjnjlpljakkakaa", sum := "70bc67b312dad6442e1d68ef44c72a5ad688c9a92040eb55bc38960c4321467b", func := "loop.example/g03305/laws.FnExactLongestTale", spec := "fnExactLongestTale", unfollowed := true, recurses := true, apart := false }
def FnExactLongestTaleSaid : Prop := fnExactLongestTaleRow.holds Try.pinned (OpenSpec.ofChange fnExactLongestTaleSpec)

/-- ITS FALSE NEIGHBOUR: 'it returns false'. Refute it at one input. -/
def fnExactLongestTaleWrong : ChangeSpec := { name := "fnExactLongestTale", fn := fun _ => fun
  | [d] => { results := [.lit (.bool false)], args := [d] }
  | _ => none }
def FnExactLongestTaleWrongFalsely : Prop := fnExactLongestTaleRow.holds Try.pinned (OpenSpec.ofChange fnExactLongestTaleWrong)

/-- 'laws.FnStories': WHATEVER THE INPUT: true; the input reads as it did. -/
def fnStoriesSpec : ChangeSpec := { name := "fnStories", fn := fun _ => fun
  | [d] => { results := [.lit (.bool true)], args := [d] }
  | _ => none }
def fnStoriesRow : OpenClaim := { program := "ytjnjlpljakkakaa", sum := "70bc67b312dad6442e1d68ef44c72a5ad688c9a92040eb55bc38960c4321467b", func := "loop.example/g03305/laws.FnStories", spec := "fnStories", unfollowed := true, recurses := true, apart := false }
def FnStoriesSaid : Prop := fnStoriesRow.holds Try.pinned (OpenSpec.ofChange fnStoriesSpec)

/-- ITS FALSE NEIGHBOUR: 'it returns false'. Refute it at one input. -/
def fnStoriesWrong : ChangeSpec := { name := "fnStories", fn := fun _ => fun
  | [d] => { results := [.lit (.bool false)], args := [d] }
  | _ => none }
def FnStoriesWrongFalsely : Prop := fnStoriesRow.holds Try.pinned (OpenSpec.ofChange fnStoriesWrong)

/- THE SECOND FORM. 'bulk': how many values and letters a reading holds, each counted each time it is reached (what is shared counts as often as it is met; a slice's spare places count too). A statement '..UptoSaid' is the law's where the arguments, and the package variables that the reading takes, are together of bulk at most 1048576: NARROWER than '..Said'. Prove '..Said' where nothing that the law and all that it calls make is longer than what came in: it says more and counts as full. Else prove '..UptoSaid'. A law counts once. -/
mutual
def uptoBulk {H : Type} : DataW H → Nat
  | .lit (.string bytes) => bytes.length + 1
  | .lit _ => 1
  | .nil => 1
  | .ptr d => uptoBulk d + 1
  | .slice elems spare => uptoBulkAll elems + uptoBulkAll spare + 1
  | .agg parts => uptoBulkAll parts + 1
  | .iface _ d => uptoBulk d + 1
  | .map entries => uptoBulkEntries entries + 1
  | .held _ => 1
def uptoBulkAll {H : Type} : List (DataW H) → Nat
  | [] => 0
  | d :: r => uptoBulk d + uptoBulkAll r
def uptoBulkEntries {H : Type} : List (Lit × DataW H) → Nat
  | [] => 0
  | x :: r => uptoBulkEntry x + uptoBulkEntries r
def uptoBulkEntry {H : Type} : Lit × DataW H → Nat
  | (.string bytes, d) => bytes.length + uptoBulk d + 1
  | (_, d) => uptoBulk d + 1
 end
def uptoSmall : (H : Type) → List (DataW H) → Bool := fun _ ds => decide (uptoBulkAll ds ≤ 1048576)
def OpenSpec.upto (s : _root_.Go.ChangeSpec) : _root_.Go.OpenSpec := { _root_.Go.OpenSpec.ofChange s with cond := some uptoSmall }

/-- 'laws.FnExactStoryOk', WHERE WHAT IT READS IS OF BULK AT MOST 1048576: true; the input reads as it did. -/
def fnExactStoryOkUptoRow : OpenClaim := { program := "ytjnjlpljakkakaa", sum := "70bc67b312dad6442e1d68ef44c72a5ad688c9a92040eb55bc38960c4321467b", func := "loop.example/g03305/laws.FnExactStoryOk", spec := "fnExactStoryOk", apart := false, narrowed := true }
def FnExactStoryOkUptoSaid : Prop := fnExactStoryOkUptoRow.holds Try.pinned (OpenSpec.upto fnExactStoryOkSpec)

/-- 'laws.FnExactIsEndless', WHERE WHAT IT READS IS OF BULK AT MOST 1048576: true; the input reads as it did. -/
def fnExactIsEndlessUptoRow : OpenClaim := { program := "ytjnjlpljakkakaa", sum := "70bc67b312dad6442e1d68ef44c72a5ad688c9a92040eb55bc38960c4321467b", func := "loop.example/g03305/laws.FnExactIsEndless", spec := "fnExactIsEndless", recurses := true, apart := false, narrowed := true }
def FnExactIsEndlessUptoSaid : Prop := fnExactIsEndlessUptoRow.holds Try.pinned (OpenSpec.upto fnExactIsEndlessSpec)

/-- 'laws.FnExactReachedFrom', WHERE WHAT IT READS IS OF BULK AT MOST 1048576: true; the input reads as it did. -/
def fnExactReachedFromUptoRow : OpenClaim := { program := "ytjnjlpljakkakaa", sum := "70bc67b312dad6442e1d68ef44c72a5ad688c9a92040eb55bc38960c4321467b", func := "loop.example/g03305/laws.FnExactReachedFrom", spec := "fnExactReachedFrom", recurses := true, apart := false, narrowed := true }
def FnExactReachedFromUptoSaid : Prop := fnExactReachedFromUptoRow.holds Try.pinned (OpenSpec.upto fnExactReachedFromSpec)

/-- 'laws.FnExactLostPages', WHERE WHAT IT READS IS OF BULK AT MOST 1048576: true; the input reads as it did. -/
def fnExactLostPagesUptoRow : OpenClaim := { program := "ytjnjlpljakkakaa", sum := "70bc67b312dad6442e1d68ef44c72a5ad688c9a92040eb55bc38960c4321467b", func := "loop.example/g03305/laws.FnExactLostPages", spec := "fnExactLostPages", recurses := true, apart := false, narrowed := true }
def FnExactLostPagesUptoSaid : Prop := fnExactLostPagesUptoRow.holds Try.pinned (OpenSpec.upto fnExactLostPagesSpec)

/-- 'laws.FnExactCountTales', WHERE WHAT IT READS IS OF BULK AT MOST 1048576: true; the input reads as it did. -/
def fnExactCountTalesUptoRow : OpenClaim := { program := "ytjnjlpljakkakaa", sum := "70bc67b312dad6442e1d68ef44c72a5ad688c9a92040eb55bc38960c4321467b", func := "loop.example/g03305/laws.FnExactCountTales", spec := "fnExactCountTales", recurses := true, apart := false, narrowed := true }
def FnExactCountTalesUptoSaid : Prop := fnExactCountTalesUptoRow.holds Try.pinned (OpenSpec.upto fnExactCountTalesSpec)

/-- 'laws.FnExactShortestTale', WHERE WHAT IT READS IS OF BULK AT MOST 1048576: true; the input reads as it did. -/
def fnExactShortestTaleUptoRow : OpenClaim := { program := "ytjnjlpljakkakaa", sum := "70bc67b312dad6442e1d68ef44c72a5ad688c9a92040eb55bc38960c4321467b", func := "loop.example/g03305/laws.FnExactShortestTale", spec := "fnExactShortestTale", unfollowed := true, recurses := true, apart := false, narrowed := true }
def FnExactShortestTaleUptoSaid : Prop := fnExactShortestTaleUptoRow.holds Try.pinned (OpenSpec.upto fnExactShortestTaleSpec)

/-- 'laws.FnExactLongestTale', WHERE WHAT IT READS IS OF BULK AT MOST 1048576: true; the input reads as it did. -/
def fnExactLongestTaleUptoRow : OpenClaim := { program := "ytjnjlpljakkakaa", sum := "70bc67b312dad6442e1d68ef44c72a5ad688c9a92040eb55bc38960c4321467b", func := "loop.example/g03305/laws.FnExactLongestTale", spec := "fnExactLongestTale", unfollowed := true, recurses := true, apart := false, narrowed := true }
def FnExactLongestTaleUptoSaid : Prop := fnExactLongestTaleUptoRow.holds Try.pinned (OpenSpec.upto fnExactLongestTaleSpec)

/-- 'laws.FnStories', WHERE WHAT IT READS IS OF BULK AT MOST 1048576: true; the input reads as it did. -/
def fnStoriesUptoRow : OpenClaim := { program := "ytjnjlpljakkakaa", sum := "70bc67b312dad6442e1d68ef44c72a5ad688c9a92040eb55bc38960c4321467b", func := "loop.example/g03305/laws.FnStories", spec := "fnStories", unfollowed := true, recurses := true, apart := false, narrowed := true }
def FnStoriesUptoSaid : Prop := fnStoriesUptoRow.holds Try.pinned (OpenSpec.upto fnStoriesSpec)

end Rows
end Go.Proofs.Ytjnjlpljakkakaa
