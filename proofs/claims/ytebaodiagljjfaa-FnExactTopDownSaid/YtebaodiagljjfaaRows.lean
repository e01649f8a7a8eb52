/-
  No cell of these rows narrows 'for every input' (looked for: loops, veiled, ifaces, maps, wideKeys, modest, calm, conditions, laid).
  DERIVED. THE GIVEN ROWS OF THIS SEAT. 4 by the template 'for every input the law returns true; each argument reads behind the call as it read before'; 0 by the template 'total and deterministic' (their statements: YtebaodiagljjfaaTotals.lean).
  GIVEN WITH THE SEED: the statements are not yours to turn. If you find one false, say at which input.
  Laid BY PROGRAM, IN A SANDBOX (cutbox-rows.mjs): the forced cells as the released guide's own fill.sh prints them over the translation 11ee629bc6fe0ace… (all of the seat's roots in one cut). By AI agents, Wed Nov 11 2026. No macro, syntax, notation, axiom, sorry.
-/
import Derived.Test.YtebaodiagljjfaaChecked
import GoSem.Claim
import GoSem.ClaimJoined
import GoSem.ClaimMapViews
import Derived.JoinedTies
import Derived.KernelRfl
namespace Go.Proofs.Ytebaodiagljjfaa
/- THE CELL 'sum', in the pinned program and in every row, IS THE sha256 OF THE DUMP (.gsa) THAT YtebaodiagljjfaaProg.lean LOADS. Nothing in Lean hashes anything: it is a label: what it is worth is what the hold of that sum in a sandbox is worth. -/
noncomputable def Try.pinned : Pinned := { name := "ytebaodiagljjfaa", sum := "11ee629bc6fe0acee06aefb751e89916756c27678513be0e1c971396594ebe6d", checked := Try.checked }
namespace Rows
def none {H : Type} : Left H := { results := [], args := [] }

/-- 'laws.FnExactMergeLabels': WHATEVER THE INPUT: true; the input reads as it did. -/
def fnExactMergeLabelsSpec : ChangeSpec := { name := "fnExactMergeLabels", fn := fun _ => fun
  | [d1, d2, d3] => { results := [.lit (.bool true)], args := [d1, d2, d3] }
  | _ => none }
def fnExactMergeLabelsRow : OpenClaim := { program := "ytebaodiagljjfaa", sum := "11ee629bc6fe0acee06aefb751e89916756c27678513be0e1c971396594ebe6d", func := "loop.example/g01618/laws.FnExactMergeLabels", spec := "fnExactMergeLabels", apart := false }
def FnExactMergeLabelsSaid : Prop := fnExactMergeLabelsRow.holds Try.pinned (OpenSpec.ofChange fnExactMergeLabelsSpec)

/-- ITS FALSE NEIGHBOUR: 'it returns false'. Refute it at one input. -/
def fnExactMergeLabelsWrong : ChangeSpec := { name := "fnExactMergeLabels", fn := fun _ => fun
  | [d1, d2, d3] => { results := [.lit (.bool false)], args := [d1, d2, d3] }
  | _ => none }
def FnExactMergeLabelsWrongFalsely : Prop := fnExactMergeLabelsRow.holds Try.pinned (OpenSpec.ofChange fnExactMergeLabelsWrong)

/-- 'laws.FnExactTopDown': WHATEVER THE INPUT: true; the input reads as it did. -/
def fnExactTopDownSpec : ChangeSpec := { name := "fnExactTopDown", fn := fun _ => fun
  | [d1, d2, d3] => { results := [.lit (.bool true)], args := [d1, d2, d3] }
  | _ => none }
def fnExactTopDownRow : OpenClaim := { program := "ytebaodiagljjfaa", sum := "11ee629bc6fe0acee06aefb751e89916756c27678513be0e1c971396594ebe6d", func := "loop.example/g01618/laws.FnExactTopDown", spec := "fnExactTopDown", apart := false }
def FnExactTopDownSaid : Prop := fnExactTopDownRow.holds Try.pinned (OpenSpec.ofChange fnExactTopDownSpec)

/-- ITS FALSE NEIGHBOUR: 'it returns false'. Refute it at one input. -/
def fnExactTopDownWrong : ChangeSpec := { name := "fnExactTopDown", fn := fun _ => fun
  | [d1, d2, d3] => { results := [.lit (.bool false)], args := [d1, d2, d3] }
  | _ => none }
def FnExactTopDownWrongFalsely : Prop := fnExactTopDownRow.holds Try.pinned (OpenSpec.ofChange fnExactTopDownWrong)

/-- 'laws.FnExactSelect': WHATEVER THE INPUT: true; the input reads as it did. -/
def fnExactSelectSpec : ChangeSpec := { name := "fnExactSelect", fn := fun _ => fun
  | [d1, d2] => { results := [.lit (.bool true)], args := [d1, d2] }
  | _ => none }
def fnExactSelectRow : OpenClaim := { program := "ytebaodiagljjfaa", sum := "11ee629bc6fe0acee06aefb751e89916756c27678513be0e1c971396594ebe6d", func := "loop.example/g01618/laws.FnExactSelect", spec := "fnExactSelect", unfollowed := true, recurses := true, apart := false }
def FnExactSelectSaid : Prop := fnExactSelectRow.holds Try.pinned (OpenSpec.ofChange fnExactSelectSpec)

/-- ITS FALSE NEIGHBOUR: 'it returns false'. Refute it at one input. -/
def fnExactSelectWrong : ChangeSpec := { name := "fnExactSelect", fn := fun _ => fun
  | [d1, d2] => { results := [.lit (.bool false)], args := [d1, d2] }
  | _ => none }
def FnExactSelectWrongFalsely : Prop := fnExactSelectRow.holds Try.pinned (OpenSpec.ofChange fnExactSelectWrong)

/-- 'laws.FnExactRenamed': WHATEVER THE INPUT: true; the input reads as it did. -/
def fnExactRenamedSpec : ChangeSpec := { name := "fnExactRenamed", fn := fun _ => fun
  | [d1, d2] => { results := [.lit (.bool true)], args := [d1, d2] }
  | _ => none }
def fnExactRenamedRow : OpenClaim := { program := "ytebaodiagljjfaa", sum := "11ee629bc6fe0acee06aefb751e89916756c27678513be0e1c971396594ebe6d", func := "loop.example/g01618/laws.FnExactRenamed", spec := "fnExactRenamed", apart := false }
def FnExactRenamedSaid : Prop := fnExactRenamedRow.holds Try.pinned (OpenSpec.ofChange fnExactRenamedSpec)

/-- ITS FALSE NEIGHBOUR: 'it returns false'. Refute it at one input. -/
def fnExactRenamedWrong : ChangeSpec := { name := "fnExactRenamed", fn := fun _ => fun
  | [d1, d2] => { results := [.lit (.bool false)], args := [d1, d2] }
  | _ => none }
def FnExactRenamedWrongFalsely : Prop := fnExactRenamedRow.holds Try.pinned (OpenSpec.ofChange fnExactRenamedWrong)

/- THE SECOND FORM. 'bulk': how many values and letters a reading holds, each counted each time it is reached (what is shared counts as often as it is met; a slice's spare places count too). A statement '..UptoSaid' is the law's where the arguments, and the package variables that the reading takes, are together of bulk at most 1048576: NARROWER than '..Said'. Prove '..Said' where nothing that the law and all that it calls make is longer than what came in: it says more and counts as full. Else prove '..UptoSaid'. A law counts once. -/
mutual
def uptoBulk {H : Type} : DataW H → Nat
  | .lit (.string bytes) => bytes.length + 1
  | .lit _ => 1
  | .nil => 1
  | .ptr d => uptoBulk d + 1
  | .slice elems spare => uptoBulkAll elems + uptoBulkAll spare + 1
  | .agg parts => uptoBulkAll parts + 1
  | .iface _ d => uptoBulk d + 1
  | .map entries => uptoBulkEntries entries + 1
  | .held _ => 1
def uptoBulkAll {H : Type} : List (DataW H) → Nat
  | [] => 0
  | d :: r => uptoBulk d + uptoBulkAll r
def uptoBulkEntries {H : Type} : List (Lit × DataW H) → Nat
  | [] => 0
  | x :: r => uptoBulkEntry x + uptoBulkEntries r
def uptoBulkEntry {H : Type} : Lit × DataW H → Nat
  | (.string bytes, d) => bytes.length + uptoBulk d + 1
  | (_, d) => uptoBulk d + 1
 end
def uptoSmall : (H : Type) → List (DataW H) → Bool := fun _ ds => decide (uptoBulkAll ds ≤ 1048576)
def OpenSpec.upto (s : _root_.Go.ChangeSpec) : _root_.Go.OpenSpec := { _root_.Go.OpenSpec.ofChange s with cond := some uptoSmall }

/-- 'laws.FnExactMergeLabels', WHERE WHAT IT READS IS OF BULK AT MOST 1048576: true; the input reads as it did. -/
def fnExactMergeLabelsUptoRow : OpenClaim := { program := "ytebaodiagljjfaa", sum := "11ee629bc6fe0acee06aefb751e89916756c27678513be0e1c971396594ebe6d", func := "loop.example/g01618/laws.FnExactMergeLabels", spec := "fnExactMergeLabels", apart := false, narrowed := true }
def FnExactMergeLabelsUptoSaid : Prop := fnExactMergeLabelsUptoRow.holds Try.pinned (OpenSpec.upto fnExactMergeLabelsSpec)

/-- 'laws.FnExactTopDown', WHERE WHAT IT READS IS OF BULK AT MOST 1048576: true; the input reads as it did. -/
def fnExactTopDownUptoRow : OpenClaim := { program := "ytebaodiagljjfaa", sum := "11ee629bc6fe0acee06aefb751e89916756c27678513be0e1c971396594ebe6d", func := "loop.example/g01618/laws.FnExactTopDown", spec := "fnExactTopDown", apart := false, narrowed := true }
def FnExactTopDownUptoSaid : Prop := fnExactTopDownUptoRow.holds Try.pinned (OpenSpec.upto fnExactTopDownSpec)

/-- 'laws.FnExactSelect', WHERE WHAT IT READS IS OF BULK AT MOST 1048576: true; the input reads as it did. -/
def fnExactSelectUptoRow : OpenClaim := { program := "ytebaodiagljjfaa", sum := "11ee629bc6fe0acee06aefb751e89916756c27678513be0e1c971396594ebe6d", func := "loop.example/g01618/laws.FnExactSelect", spec := "fnExactSelect", unfollowed := true, recurses := true, apart := false, narrowed := true }
def FnExactSelectUptoSaid : Prop := fnExactSelectUptoRow.holds Try.pinned (OpenSpec.upto fnExactSelectSpec)

/-- 'laws.FnExactRenamed', WHERE WHAT IT READS IS OF BULK AT MOST 1048576: true; the input reads as it did. -/
def fnExactRenamedUptoRow : OpenClaim := { program := "ytebaodiagljjfaa", sum := "11ee629bc6fe0acee06aefb751e89916756c27678513be0e1c971396594ebe6d", func := "loop.example/g01618/laws.FnExactRenamed", spec := "fnExactRenamed", apart := false, narrowed := true }
def FnExactRenamedUptoSaid : Prop := fnExactRenamedUptoRow.holds Try.pinned (OpenSpec.upto fnExactRenamedSpec)

end Rows
end Go.Proofs.Ytebaodiagljjfaa
