/-
  No cell of these rows narrows 'for every input' (looked for: loops, veiled, ifaces, maps, wideKeys, modest, calm, conditions, laid).
  DERIVED. THE GIVEN ROWS OF THIS SEAT. 12 by the template 'for every input the law returns true; each argument reads behind the call as it read before'; 0 by the template 'total and deterministic' (their statements: YtlniclcfmaofhaaTotals.lean).
  GIVEN WITH THE SEED: the statements are not yours to turn. If you find one false, say at which input.
  Laid BY PROGRAM, IN A SANDBOX (cutbox-rows.mjs): the forced cells as the released guide's own fill.sh prints them over the translation 64b431a794b78904… (all of the seat's roots in one cut). By AI agents, Wed Nov 11 2026. No macro, syntax, notation, axiom, sorry.
-/
import Derived.Test.YtlniclcfmaofhaaChecked
import GoSem.Claim
import GoSem.ClaimJoined
import GoSem.ClaimMapViews
import Derived.JoinedTies
import Derived.KernelRfl
namespace Go.Proofs.Ytlniclcfmaofhaa
/- THE CELL 'sum', in the pinned program and in every row, IS THE sha256 OF THE DUMP (.gsa) THAT YtlniclcfmaofhaaProg.lean LOADS. Nothing in Lean hashes anything: it is a label: what it is worth is what the hold of that sum in a sandbox is worth. -/
noncomputable def Try.pinned : Pinned := { name := "ytlniclcfmaofhaa", sum := "64b431a794b78904938866ced3c0c18a3cd61e952fdcf86a41590939b8f6222f", checked := Try.checked }
namespace Rows
def none {H : Type} : Left H := { results := [], args := [] }

/-- 'laws.FnExactSameQuery': WHATEVER THE INPUT: true; the input reads as it did. -/
def fnExactSameQuerySpec : ChangeSpec := { name := "fnExactSameQuery", fn := fun _ => fun
  | [d1, d2] => { results := [.lit (.bool true)], args := [d1, d2] }
  | _ => none }
def fnExactSameQueryRow : OpenClaim := { program := "ytlniclcfmaofhaa", sum := "64b431a794b78904938866ced3c0c18a3cd61e952fdcf86a41590939b8f6222f", func := "loop.example/g01618/laws.FnExactSameQuery", spec := "fnExactSameQuery", apart := false }
def FnExactSameQuerySaid : Prop := fnExactSameQueryRow.holds Try.pinned (OpenSpec.ofChange fnExactSameQuerySpec)

/-- ITS FALSE NEIGHBOUR: 'it returns false'. Refute it at one input. -/
def fnExactSameQueryWrong : ChangeSpec := { name := "fnExactSameQuery", fn := fun _ => fun
  | [d1, d2] => { results := [.lit (.bool false)], args := [d1, d2] }
  | _ => none }
def FnExactSameQueryWrongFalsely : Prop := fnExactSameQueryRow.holds Try.pinned (OpenSpec.ofChange fnExactSameQueryWrong)

/-- 'laws.FnExactQueryOk': WHATEVER THE INPUT: true; the input reads as it did. -/
def fnExactQueryOkSpec : ChangeSpec := { name := "fnExactQueryOk", fn := fun _ => fun
  | [d] => { results := [.lit (.bool true)], args := [d] }
  | _ => none }
def fnExactQueryOkRow : OpenClaim := { program := "ytlniclcfmaofhaa", sum := "64b431a794b78904938866ced3c0c18a3cd61e952fdcf86a41590939b8f6222f", func := "loop.example/g01618/laws.FnExactQueryOk", spec := "fnExactQueryOk", unfollowed := true, recurses := true, apart := false }
def FnExactQueryOkSaid : Prop := fnExactQueryOkRow.holds Try.pinned (OpenSpec.ofChange fnExactQueryOkSpec)

/-- ITS FALSE NEIGHBOUR: 'it returns false'. Refute it at one input. -/
def fnExactQueryOkWrong : ChangeSpec := { name := "fnExactQueryOk", fn := fun _ => fun
  | [d] => { results := [.lit (.bool false)], args := [d] }
  | _ => none }
def FnExactQueryOkWrongFalsely : Prop := fnExactQueryOkRow.holds Try.pinned (OpenSpec.ofChange fnExactQueryOkWrong)

/-- 'laws.FnExactRepoSize': WHATEVER THE INPUT: true; the input reads as it did. -/
def fnExactRepoSizeSpec : ChangeSpec := { name := "fnExactRepoSize", fn := fun _ => fun
  | [d] => { results := [.lit (.bool true)], args := [d] }
  | _ => none }
def fnExactRepoSizeRow : OpenClaim := { program := "ytlniclcfmaofhaa", sum := "64b431a794b78904938866ced3c0c18a3cd61e952fdcf86a41590939b8f6222f", func := "loop.example/g01618/laws.FnExactRepoSize", spec := "fnExactRepoSize", apart := false }
def FnExactRepoSizeSaid : Prop := fnExactRepoSizeRow.holds Try.pinned (OpenSpec.ofChange fnExactRepoSizeSpec)

/-- ITS FALSE NEIGHBOUR: 'it returns false'. Refute it at one input. -/
def fnExactRepoSizeWrong : ChangeSpec := { name := "fnExactRepoSize", fn := fun _ => fun
  | [d] => { results := [.lit (.bool false)], args := [d] }
  | _ => none }
def FnExactRepoSizeWrongFalsely : Prop := fnExactRepoSizeRow.holds Try.pinned (OpenSpec.ofChange fnExactRepoSizeWrong)

/-- 'laws.FnExactSameShape': WHATEVER THE INPUT: true; the input reads as it did. -/
def fnExactSameShapeSpec : ChangeSpec := { name := "fnExactSameShape", fn := fun _ => fun
  | [d1, d2] => { results := [.lit (.bool true)], args := [d1, d2] }
  | _ => none }
def fnExactSameShapeRow : OpenClaim := { program := "ytlniclcfmaofhaa", sum := "64b431a794b78904938866ced3c0c18a3cd61e952fdcf86a41590939b8f6222f", func := "loop.example/g01618/laws.FnExactSameShape", spec := "fnExactSameShape", apart := false }
def FnExactSameShapeSaid : Prop := fnExactSameShapeRow.holds Try.pinned (OpenSpec.ofChange fnExactSameShapeSpec)

/-- ITS FALSE NEIGHBOUR: 'it returns false'. Refute it at one input. -/
def fnExactSameShapeWrong : ChangeSpec := { name := "fnExactSameShape", fn := fun _ => fun
  | [d1, d2] => { results := [.lit (.bool false)], args := [d1, d2] }
  | _ => none }
def FnExactSameShapeWrongFalsely : Prop := fnExactSameShapeRow.holds Try.pinned (OpenSpec.ofChange fnExactSameShapeWrong)

/-- 'laws.FnExactQueryText': WHATEVER THE INPUT: true; the input reads as it did. -/
def fnExactQueryTextSpec : ChangeSpec := { name := "fnExactQueryText", fn := fun _ => fun
  | [d] => { results := [.lit (.bool true)], args := [d] }
  | _ => none }
def fnExactQueryTextRow : OpenClaim := { program := "ytlniclcfmaofhaa", sum := "64b431a794b78904938866ced3c0c18a3cd61e952fdcf86a41590939b8f6222f", func := "loop.example/g01618/laws.FnExactQueryText", spec := "fnExactQueryText", unfollowed := true, recurses := true, apart := false }
def FnExactQueryTextSaid : Prop := fnExactQueryTextRow.holds Try.pinned (OpenSpec.ofChange fnExactQueryTextSpec)

/-- ITS FALSE NEIGHBOUR: 'it returns false'. Refute it at one input. -/
def fnExactQueryTextWrong : ChangeSpec := { name := "fnExactQueryText", fn := fun _ => fun
  | [d] => { results := [.lit (.bool false)], args := [d] }
  | _ => none }
def FnExactQueryTextWrongFalsely : Prop := fnExactQueryTextRow.holds Try.pinned (OpenSpec.ofChange fnExactQueryTextWrong)

/-- 'laws.FnExactCountBound': WHATEVER THE INPUT: true; the input reads as it did. -/
def fnExactCountBoundSpec : ChangeSpec := { name := "fnExactCountBound", fn := fun _ => fun
  | [d1, d2] => { results := [.lit (.bool true)], args := [d1, d2] }
  | _ => none }
def fnExactCountBoundRow : OpenClaim := { program := "ytlniclcfmaofhaa", sum := "64b431a794b78904938866ced3c0c18a3cd61e952fdcf86a41590939b8f6222f", func := "loop.example/g01618/laws.FnExactCountBound", spec := "fnExactCountBound", apart := false }
def FnExactCountBoundSaid : Prop := fnExactCountBoundRow.holds Try.pinned (OpenSpec.ofChange fnExactCountBoundSpec)

/-- ITS FALSE NEIGHBOUR: 'it returns false'. Refute it at one input. -/
def fnExactCountBoundWrong : ChangeSpec := { name := "fnExactCountBound", fn := fun _ => fun
  | [d1, d2] => { results := [.lit (.bool false)], args := [d1, d2] }
  | _ => none }
def FnExactCountBoundWrongFalsely : Prop := fnExactCountBoundRow.holds Try.pinned (OpenSpec.ofChange fnExactCountBoundWrong)

/-- 'laws.FnExactPreLabels': WHATEVER THE INPUT: true; the input reads as it did. -/
def fnExactPreLabelsSpec : ChangeSpec := { name := "fnExactPreLabels", fn := fun _ => fun
  | [d] => { results := [.lit (.bool true)], args := [d] }
  | _ => none }
def fnExactPreLabelsRow : OpenClaim := { program := "ytlniclcfmaofhaa", sum := "64b431a794b78904938866ced3c0c18a3cd61e952fdcf86a41590939b8f6222f", func := "loop.example/g01618/laws.FnExactPreLabels", spec := "fnExactPreLabels", apart := false }
def FnExactPreLabelsSaid : Prop := fnExactPreLabelsRow.holds Try.pinned (OpenSpec.ofChange fnExactPreLabelsSpec)

/-- ITS FALSE NEIGHBOUR: 'it returns false'. Refute it at one input. -/
def fnExactPreLabelsWrong : ChangeSpec := { name := "fnExactPreLabels", fn := fun _ => fun
  | [d] => { results := [.lit (.bool false)], args := [d] }
  | _ => none }
def FnExactPreLabelsWrongFalsely : Prop := fnExactPreLabelsRow.holds Try.pinned (OpenSpec.ofChange fnExactPreLabelsWrong)

/-- 'laws.FnExactLabelCounts': WHATEVER THE INPUT: true; the input reads as it did. -/
def fnExactLabelCountsSpec : ChangeSpec := { name := "fnExactLabelCounts", fn := fun _ => fun
  | [d] => { results := [.lit (.bool true)], args := [d] }
  | _ => none }
def fnExactLabelCountsRow : OpenClaim := { program := "ytlniclcfmaofhaa", sum := "64b431a794b78904938866ced3c0c18a3cd61e952fdcf86a41590939b8f6222f", func := "loop.example/g01618/laws.FnExactLabelCounts", spec := "fnExactLabelCounts", apart := false }
def FnExactLabelCountsSaid : Prop := fnExactLabelCountsRow.holds Try.pinned (OpenSpec.ofChange fnExactLabelCountsSpec)

/-- ITS FALSE NEIGHBOUR: 'it returns false'. Refute it at one input. -/
def fnExactLabelCountsWrong : ChangeSpec := { name := "fnExactLabelCounts", fn := fun _ => fun
  | [d] => { results := [.lit (.bool false)], args := [d] }
  | _ => none }
def FnExactLabelCountsWrongFalsely : Prop := fnExactLabelCountsRow.holds Try.pinned (OpenSpec.ofChange fnExactLabelCountsWrong)

/-- 'laws.FnExactDepthCounts': WHATEVER THE INPUT: true; the input reads as it did. -/
def fnExactDepthCountsSpec : ChangeSpec := { name := "fnExactDepthCounts", fn := fun _ => fun
  | [d] => { results := [.lit (.bool true)], args := [d] }
  | _ => none }
def fnExactDepthCountsRow : OpenClaim := { program := "ytlniclcfmaofhaa", sum := "64b431a794b78904938866ced3c0c18a3cd61e952fdcf86a41590939b8f6222f", func := "loop.example/g01618/laws.FnExactDepthCounts", spec := "fnExactDepthCounts", apart := false }
def FnExactDepthCountsSaid : Prop := fnExactDepthCountsRow.holds Try.pinned (OpenSpec.ofChange fnExactDepthCountsSpec)

/-- ITS FALSE NEIGHBOUR: 'it returns false'. Refute it at one input. -/
def fnExactDepthCountsWrong : ChangeSpec := { name := "fnExactDepthCounts", fn := fun _ => fun
  | [d] => { results := [.lit (.bool false)], args := [d] }
  | _ => none }
def FnExactDepthCountsWrongFalsely : Prop := fnExactDepthCountsRow.holds Try.pinned (OpenSpec.ofChange fnExactDepthCountsWrong)

/-- 'laws.FnExactStrDist': WHATEVER THE INPUT: true; the input reads as it did. -/
def fnExactStrDistSpec : ChangeSpec := { name := "fnExactStrDist", fn := fun _ => fun
  | [d1, d2, d3] => { results := [.lit (.bool true)], args := [d1, d2, d3] }
  | _ => none }
def fnExactStrDistRow : OpenClaim := { program := "ytlniclcfmaofhaa", sum := "64b431a794b78904938866ced3c0c18a3cd61e952fdcf86a41590939b8f6222f", func := "loop.example/g01618/laws.FnExactStrDist", spec := "fnExactStrDist", unfollowed := true, recurses := true, apart := false }
def FnExactStrDistSaid : Prop := fnExactStrDistRow.holds Try.pinned (OpenSpec.ofChange fnExactStrDistSpec)

/-- ITS FALSE NEIGHBOUR: 'it returns false'. Refute it at one input. -/
def fnExactStrDistWrong : ChangeSpec := { name := "fnExactStrDist", fn := fun _ => fun
  | [d1, d2, d3] => { results := [.lit (.bool false)], args := [d1, d2, d3] }
  | _ => none }
def FnExactStrDistWrongFalsely : Prop := fnExactStrDistRow.holds Try.pinned (OpenSpec.ofChange fnExactStrDistWrong)

/-- 'laws.FnExactDelTree': WHATEVER THE INPUT: true; the input reads as it did. -/
def fnExactDelTreeSpec : ChangeSpec := { name := "fnExactDelTree", fn := fun _ => fun
  | [d1, d2] => { results := [.lit (.bool true)], args := [d1, d2] }
  | _ => none }
def fnExactDelTreeRow : OpenClaim := { program := "ytlniclcfmaofhaa", sum := "64b431a794b78904938866ced3c0c18a3cd61e952fdcf86a41590939b8f6222f", func := "loop.example/g01618/laws.FnExactDelTree", spec := "fnExactDelTree", unfollowed := true, recurses := true, apart := false }
def FnExactDelTreeSaid : Prop := fnExactDelTreeRow.holds Try.pinned (OpenSpec.ofChange fnExactDelTreeSpec)

/-- ITS FALSE NEIGHBOUR: 'it returns false'. Refute it at one input. -/
def fnExactDelTreeWrong : ChangeSpec := { name := "fnExactDelTree", fn := fun _ => fun
  | [d1, d2] => { results := [.lit (.bool false)], args := [d1, d2] }
  | _ => none }
def FnExactDelTreeWrongFalsely : Prop := fnExactDelTreeRow.holds Try.pinned (OpenSpec.ofChange fnExactDelTreeWrong)

/-- 'laws.FnExactInsTree': WHATEVER THE INPUT: true; the input reads as it did. -/
def fnExactInsTreeSpec : ChangeSpec := { name := "fnExactInsTree", fn := fun _ => fun
  | [d1, d2] => { results := [.lit (.bool true)], args := [d1, d2] }
  | _ => none }
def fnExactInsTreeRow : OpenClaim := { program := "ytlniclcfmaofhaa", sum := "64b431a794b78904938866ced3c0c18a3cd61e952fdcf86a41590939b8f6222f", func := "loop.example/g01618/laws.FnExactInsTree", spec := "fnExactInsTree", unfollowed := true, recurses := true, apart := false }
def FnExactInsTreeSaid : Prop := fnExactInsTreeRow.holds Try.pinned (OpenSpec.ofChange fnExactInsTreeSpec)

/-- ITS FALSE NEIGHBOUR: 'it returns false'. Refute it at one input. -/
def fnExactInsTreeWrong : ChangeSpec := { name := "fnExactInsTree", fn := fun _ => fun
  | [d1, d2] => { results := [.lit (.bool false)], args := [d1, d2] }
  | _ => none }
def FnExactInsTreeWrongFalsely : Prop := fnExactInsTreeRow.holds Try.pinned (OpenSpec.ofChange fnExactInsTreeWrong)

/- THE SECOND FORM. 'bulk': how many values and letters a reading holds, each counted each time it is reached (what is shared counts as often as it is met; a slice's spare places count too). A statement '..UptoSaid' is the law's where the arguments, and the package variables that the reading takes, are together of bulk at most 1048576: NARROWER than '..Said'. Prove '..Said' where nothing that the law and all that it calls make is longer than what came in: it says more and counts as full. Else prove '..UptoSaid'. A law counts once. -/
mutual
def uptoBulk {H : Type} : DataW H → Nat
  | .lit (.string bytes) => bytes.length + 1
  | .lit _ => 1
  | .nil => 1
  | .ptr d => uptoBulk d + 1
  | .slice elems spare => uptoBulkAll elems + uptoBulkAll spare + 1
  | .agg parts => uptoBulkAll parts + 1
  | .iface _ d => uptoBulk d + 1
  | .map entries => uptoBulkEntries entries + 1
  | .held _ => 1
def uptoBulkAll {H : Type} : List (DataW H) → Nat
  | [] => 0
  | d :: r => uptoBulk d + uptoBulkAll r
def uptoBulkEntries {H : Type} : List (Lit × DataW H) → Nat
  | [] => 0
  | x :: r => uptoBulkEntry x + uptoBulkEntries r
def uptoBulkEntry {H : Type} : Lit × DataW H → Nat
  | (.string bytes, d) => bytes.length + uptoBulk d + 1
  | (_, d) => uptoBulk d + 1
 end
def uptoSmall : (H : Type) → List (DataW H) → Bool := fun _ ds => decide (uptoBulkAll ds ≤ 1048576)
def OpenSpec.upto (s : _root_.Go.ChangeSpec) : _root_.Go.OpenSpec := { _root_.Go.OpenSpec.ofChange s with cond := some uptoSmall }

/-- 'laws.FnExactSameQuery', WHERE WHAT IT READS IS OF BULK AT MOST 1048576: true; the input reads as it did. -/
def fnExactSameQueryUptoRow : OpenClaim := { program := "ytlniclcfmaofhaa", sum := "64b431a794b78904938866ced3c0c18a3cd61e952fdcf86a41590939b8f6222f", func := "loop.example/g01618/laws.FnExactSameQuery", spec := "fnExactSameQuery", apart := false, narrowed := true }
def FnExactSameQueryUptoSaid : Prop := fnExactSameQueryUptoRow.holds Try.pinned (OpenSpec.upto fnExactSameQuerySpec)

/-- 'laws.FnExactQueryOk', WHERE WHAT IT READS IS OF BULK AT MOST 1048576: true; the input reads as it did. -/
def fnExactQueryOkUptoRow : OpenClaim := { program := "ytlniclcfmaofhaa", sum := "64b431a794b78904938866ced3c0c18a3cd61e952fdcf86a41590939b8f6222f", func := "loop.example/g01618/laws.FnExactQueryOk", spec := "fnExactQueryOk", unfollowed := true, recurses := true, apart := false, narrowed := true }
def FnExactQueryOkUptoSaid : Prop := fnExactQueryOkUptoRow.holds Try.pinned (OpenSpec.upto fnExactQueryOkSpec)

/-- 'laws.FnExactRepoSize', WHERE WHAT IT READS IS OF BULK AT MOST 1048576: true; the input reads as it did. -/
def fnExactRepoSizeUptoRow : OpenClaim := { program := "ytlniclcfmaofhaa", sum := "64b431a794b78904938866ced3c0c18a3cd61e952fdcf86a41590939b8f6222f", func := "loop.example/g01618/laws.FnExactRepoSize", spec := "fnExactRepoSize", apart := false, narrowed := true }
def FnExactRepoSizeUptoSaid : Prop := fnExactRepoSizeUptoRow.holds Try.pinned (OpenSpec.upto fnExactRepoSizeSpec)

/-- 'laws.FnExactSameShape', WHERE WHAT IT READS IS OF BULK AT MOST 1048576: true; the input reads as it did. -/
def fnExactSameShapeUptoRow : OpenClaim := { program := "ytlniclcfmaofhaa", sum := "64b431a794b78904938866ced3c0c18a3cd61e952fdcf86a41590939b8f6222f", func := "loop.example/g01618/laws.FnExactSameShape", spec := "fnExactSameShape", apart := false, narrowed := true }
def FnExactSameShapeUptoSaid : Prop := fnExactSameShapeUptoRow.holds Try.pinned (OpenSpec.upto fnExactSameShapeSpec)

/-- 'laws.FnExactQueryText', WHERE WHAT IT READS IS OF BULK AT MOST 1048576: true; the input reads as it did. -/
def fnExactQueryTextUptoRow : OpenClaim := { program := "ytlniclcfmaofhaa", sum := "64b431a794b78904938866ced3c0c18a3cd61e952fdcf86a41590939b8f6222f", func := "loop.example/g01618/laws.FnExactQueryText", spec := "fnExactQueryText", unfollowed := true, recurses := true, apart := false, narrowed := true }
def FnExactQueryTextUptoSaid : Prop := fnExactQueryTextUptoRow.holds Try.pinned (OpenSpec.upto fnExactQueryTextSpec)

/-- 'laws.FnExactCountBound', WHERE WHAT IT READS IS OF BULK AT MOST 1048576: true; the input reads as it did. -/
def fnExactCountBoundUptoRow : OpenClaim := { program := "ytlniclcfmaofhaa", sum := "64b431a794b78904938866ced3c0c18a3cd61e952fdcf86a41590939b8f6222f", func := "loop.example/g01618/laws.FnExactCountBound", spec := "fnExactCountBound", apart := false, narrowed := true }
def FnExactCountBoundUptoSaid : Prop := fnExactCountBoundUptoRow.holds Try.pinned (OpenSpec.upto fnExactCountBoundSpec)

/-- 'laws.FnExactPreLabels', WHERE WHAT IT READS IS OF BULK AT MOST 1048576: true; the input reads as it did. -/
def fnExactPreLabelsUptoRow : OpenClaim := { program := "ytlniclcfmaofhaa", sum := "64b431a794b78904938866ced3c0c18a3cd61e952fdcf86a41590939b8f6222f", func := "loop.example/g01618/laws.FnExactPreLabels", spec := "fnExactPreLabels", apart := false, narrowed := true }
def FnExactPreLabelsUptoSaid : Prop := fnExactPreLabelsUptoRow.holds Try.pinned (OpenSpec.upto fnExactPreLabelsSpec)

/-- 'laws.FnExactLabelCounts', WHERE WHAT IT READS IS OF BULK AT MOST 1048576: true; the input reads as it did. -/
def fnExactLabelCountsUptoRow : OpenClaim := { program := "ytlniclcfmaofhaa", sum := "64b431a794b78904938866ced3c0c18a3cd61e952fdcf86a41590939b8f6222f", func := "loop.example/g01618/laws.FnExactLabelCounts", spec := "fnExactLabelCounts", apart := false, narrowed := true }
def FnExactLabelCountsUptoSaid : Prop := fnExactLabelCountsUptoRow.holds Try.pinned (OpenSpec.upto fnExactLabelCountsSpec)

/-- 'laws.FnExactDepthCounts', WHERE WHAT IT READS IS OF BULK AT MOST 1048576: true; the input reads as it did. -/
def fnExactDepthCountsUptoRow : OpenClaim := { program := "ytlniclcfmaofhaa", sum := "64b431a794b78904938866ced3c0c18a3cd61e952fdcf86a41590939b8f6222f", func := "loop.example/g01618/laws.FnExactDepthCounts", spec := "fnExactDepthCounts", apart := false, narrowed := true }
def FnExactDepthCountsUptoSaid : Prop := fnExactDepthCountsUptoRow.holds Try.pinned (OpenSpec.upto fnExactDepthCountsSpec)

/-- 'laws.FnExactStrDist', WHERE WHAT IT READS IS OF BULK AT MOST 1048576: true; the input reads as it did. -/
def fnExactStrDistUptoRow : OpenClaim := { program := "ytlniclcfmaofhaa", sum := "64b431a794b78904938866ced3c0c18a3cd61e952fdcf86a41590939b8f6222f", func := "loop.example/g01618/laws.FnExactStrDist", spec := "fnExactStrDist", unfollowed := true, recurses := true, apart := false, narrowed := true }
def FnExactStrDistUptoSaid : Prop := fnExactStrDistUptoRow.holds Try.pinned (OpenSpec.upto fnExactStrDistSpec)

/-- 'laws.FnExactDelTree', WHERE WHAT IT READS IS OF BULK AT MOST 1048576: true; the input reads as it did. -/
def fnExactDelTreeUptoRow : OpenClaim := { program := "ytlniclcfmaofhaa", sum := "64b431a794b78904938866ced3c0c18a3cd61e952fdcf86a41590939b8f6222f", func := "loop.example/g01618/laws.FnExactDelTree", spec := "fnExactDelTree", unfollowed := true, recurses := true, apart := false, narrowed := true }
def FnExactDelTreeUptoSaid : Prop := fnExactDelTreeUptoRow.holds Try.pinned (OpenSpec.upto fnExactDelTreeSpec)

/-- 'laws.FnExactInsTree', WHERE WHAT IT READS IS OF BULK AT MOST 1048576: true; the input reads as it did. -/
def fnExactInsTreeUptoRow : OpenClaim := { program := "ytlniclcfmaofhaa", sum := "64b431a794b78904938866ced3c0c18a3cd61e952fdcf86a41590939b8f6222f", func := "loop.example/g01618/laws.FnExactInsTree", spec := "fnExactInsTree", unfollowed := true, recurses := true, apart := false, narrowed := true }
def FnExactInsTreeUptoSaid : Prop := fnExactInsTreeUptoRow.holds Try.pinned (OpenSpec.upto fnExactInsTreeSpec)

end Rows
end Go.Proofs.Ytlniclcfmaofhaa
