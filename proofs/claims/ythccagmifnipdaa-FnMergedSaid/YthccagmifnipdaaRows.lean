/-
  No cell of these rows narrows 'for every input' (looked for: loops, veiled, ifaces, maps, wideKeys, modest, calm, conditions, laid).
  DERIVED. THE GIVEN ROWS OF THIS SEAT. 4 by the template 'for every input the law returns true; each argument reads behind the call as it read before'; 0 by the template 'total and deterministic' (their statements: YthccagmifnipdaaTotals.lean).
  GIVEN WITH THE SEED: the statements are not yours to turn. If you find one false, say at which input.
  Laid BY PROGRAM, IN A SANDBOX (cutbox-rows.mjs): the forced cells as the released guide's own fill.sh prints them over the translation de5aaa02bf391e4c… (all of the seat's roots in one cut). By AI agents, Wed Nov 11 2026. No macro, syntax, notation, axiom, sorry.
-/
import Derived.Test.YthccagmifnipdaaChecked
import GoSem.Claim
import GoSem.ClaimJoined
import GoSem.ClaimMapViews
import Derived.JoinedTies
import Derived.KernelRfl
namespace Go.Proofs.Ythccagmifnipdaa
/- THE CELL 'sum', in the pinned program and in every row, IS THE sha256 OF THE DUMP (.gsa) THAT YthccagmifnipdaaProg.lean LOADS. Nothing in Lean hashes anything: it is a label: what it is worth is what the hold of that sum in a sandbox is worth. -/
noncomputable def Try.pinned : Pinned := { name := "ythccagmifnipdaa", sum := "de5aaa02bf391e4c01ea61fe0b245e7ce352d032ff56a47655c8849e0bfad54b", checked := Try.checked }
namespace Rows
def none {H : Type} : Left H := { results := [], args := [] }

/-- 'laws.FnMerged': WHATEVER THE INPUT: true; the input reads as it did. -/
def fnMergedSpec : ChangeSpec := { name := "fnMerged", fn := fun _ => fun
  | [d] => { results := [.lit (.bool true)], args := [d] }
  | _ => none }
def fnMergedRow : OpenClaim := { program := "ythccagmifnipdaa", sum := "de5aaa02bf391e4c01ea61fe0b245e7ce352d032ff56a47655c8849e0bfad54b", func := "loop.example/g01618/laws.FnMerged", spec := "fnMerged", plainKeys := false, apart := false }
def FnMergedSaid : Prop := fnMergedRow.holds Try.pinned (OpenSpec.ofChange fnMergedSpec)

/-- ITS FALSE NEIGHBOUR: 'it returns false'. Refute it at one input. -/
def fnMergedWrong : ChangeSpec := { name := "fnMerged", fn := fun _ => fun
  | [d] => { results := [.lit (.bool false)], args := [d] }
  | _ => none }
def FnMergedWrongFalsely : Prop := fnMergedRow.holds Try.pinned (OpenSpec.ofChange fnMergedWrong)

/-- 'laws.FnExactBounds': WHATEVER THE INPUT: true; the input reads as it did. -/
def fnExactBoundsSpec : ChangeSpec := { name := "fnExactBounds", fn := fun _ => fun
  | [d1, d2] => { results := [.lit (.bool true)], args := [d1, d2] }
  | _ => none }
def fnExactBoundsRow : OpenClaim := { program := "ythccagmifnipdaa", sum := "de5aaa02bf391e4c01ea61fe0b245e7ce352d032ff56a47655c8849e0bfad54b", func := "loop.example/g01618/laws.FnExactBounds", spec := "fnExactBounds", unfollowed := true, recurses := true, plainKeys := false, apart := false }
def FnExactBoundsSaid : Prop := fnExactBoundsRow.holds Try.pinned (OpenSpec.ofChange fnExactBoundsSpec)

/-- ITS FALSE NEIGHBOUR: 'it returns false'. Refute it at one input. -/
def fnExactBoundsWrong : ChangeSpec := { name := "fnExactBounds", fn := fun _ => fun
  | [d1, d2] => { results := [.lit (.bool false)], args := [d1, d2] }
  | _ => none }
def FnExactBoundsWrongFalsely : Prop := fnExactBoundsRow.holds Try.pinned (OpenSpec.ofChange fnExactBoundsWrong)

/-- 'laws.FnExactTopMap': WHATEVER THE INPUT: true; the input reads as it did. -/
def fnExactTopMapSpec : ChangeSpec := { name := "fnExactTopMap", fn := fun _ => fun
  | [d1, d2, d3] => { results := [.lit (.bool true)], args := [d1, d2, d3] }
  | _ => none }
def fnExactTopMapRow : OpenClaim := { program := "ythccagmifnipdaa", sum := "de5aaa02bf391e4c01ea61fe0b245e7ce352d032ff56a47655c8849e0bfad54b", func := "loop.example/g01618/laws.FnExactTopMap", spec := "fnExactTopMap", unfollowed := true, recurses := true, plainKeys := false, apart := false }
def FnExactTopMapSaid : Prop := fnExactTopMapRow.holds Try.pinned (OpenSpec.ofChange fnExactTopMapSpec)

/-- ITS FALSE NEIGHBOUR: 'it returns false'. Refute it at one input. -/
def fnExactTopMapWrong : ChangeSpec := { name := "fnExactTopMap", fn := fun _ => fun
  | [d1, d2, d3] => { results := [.lit (.bool false)], args := [d1, d2, d3] }
  | _ => none }
def FnExactTopMapWrongFalsely : Prop := fnExactTopMapRow.holds Try.pinned (OpenSpec.ofChange fnExactTopMapWrong)

/-- 'laws.FnTopLeast': WHATEVER THE INPUT: true; the input reads as it did. -/
def fnTopLeastSpec : ChangeSpec := { name := "fnTopLeast", fn := fun _ => fun
  | [d] => { results := [.lit (.bool true)], args := [d] }
  | _ => none }
def fnTopLeastRow : OpenClaim := { program := "ythccagmifnipdaa", sum := "de5aaa02bf391e4c01ea61fe0b245e7ce352d032ff56a47655c8849e0bfad54b", func := "loop.example/g01618/laws.FnTopLeast", spec := "fnTopLeast", unfollowed := true, recurses := true, plainKeys := false, apart := false }
def FnTopLeastSaid : Prop := fnTopLeastRow.holds Try.pinned (OpenSpec.ofChange fnTopLeastSpec)

/-- ITS FALSE NEIGHBOUR: 'it returns false'. Refute it at one input. -/
def fnTopLeastWrong : ChangeSpec := { name := "fnTopLeast", fn := fun _ => fun
  | [d] => { results := [.lit (.bool false)], args := [d] }
  | _ => none }
def FnTopLeastWrongFalsely : Prop := fnTopLeastRow.holds Try.pinned (OpenSpec.ofChange fnTopLeastWrong)

/- THE SECOND FORM. 'bulk': how many values and letters a reading holds, each counted each time it is reached (what is shared counts as often as it is met; a slice's spare places count too). A statement '..UptoSaid' is the law's where the arguments, and the package variables that the reading takes, are together of bulk at most 1048576: NARROWER than '..Said'. Prove '..Said' where nothing that the law and all that it calls make is longer than what came in: it says more and counts as full. Else prove '..UptoSaid'. A law counts once. -/
mutual
def uptoBulk {H : Type} : DataW H → Nat
  | .lit (.string bytes) => bytes.length + 1
  | .lit _ => 1
  | .nil => 1
  | .ptr d => uptoBulk d + 1
  | .slice elems spare => uptoBulkAll elems + uptoBulkAll spare + 1
  | .agg parts => uptoBulkAll parts + 1
  | .iface _ d => uptoBulk d + 1
  | .map entries => uptoBulkEntries entries + 1
  | .held _ => 1
def uptoBulkAll {H : Type} : List (DataW H) → Nat
  | [] => 0
  | d :: r => uptoBulk d + uptoBulkAll r
def uptoBulkEntries {H : Type} : List (Lit × DataW H) → Nat
  | [] => 0
  | x :: r => uptoBulkEntry x + uptoBulkEntries r
def uptoBulkEntry {H : Type} : Lit × DataW H → Nat
  | (.string bytes, d) => bytes.length + uptoBulk d + 1
  | (_, d) => uptoBulk d + 1
 end
def uptoSmall : (H : Type) → List (DataW H) → Bool := fun _ ds => decide (uptoBulkAll ds ≤ 1048576)
def OpenSpec.upto (s : _root_.Go.ChangeSpec) : _root_.Go.OpenSpec := { _root_.Go.OpenSpec.ofChange s with cond := some uptoSmall }

/-- 'laws.FnMerged', WHERE WHAT IT READS IS OF BULK AT MOST 1048576: true; the input reads as it did. -/
def fnMergedUptoRow : OpenClaim := { program := "ythccagmifnipdaa", sum := "de5aaa02bf391e4c01ea61fe0b245e7ce352d032ff56a47655c8849e0bfad54b", func := "loop.example/g01618/laws.FnMerged", spec := "fnMerged", plainKeys := false, apart := false, narrowed := true }
def FnMergedUptoSaid : Prop := fnMergedUptoRow.holds Try.pinned (OpenSpec.upto fnMergedSpec)

/-- 'laws.FnExactBounds', WHERE WHAT IT READS IS OF BULK AT MOST 1048576: true; the input reads as it did. -/
def fnExactBoundsUptoRow : OpenClaim := { program := "ythccagmifnipdaa", sum := "de5aaa02bf391e4c01ea61fe0b245e7ce352d032ff56a47655c8849e0bfad54b", func := "loop.example/g01618/laws.FnExactBounds", spec := "fnExactBounds", unfollowed := true, recurses := true, plainKeys := false, apart := false, narrowed := true }
def FnExactBoundsUptoSaid : Prop := fnExactBoundsUptoRow.holds Try.pinned (OpenSpec.upto fnExactBoundsSpec)

/-- 'laws.FnExactTopMap', WHERE WHAT IT READS IS OF BULK AT MOST 1048576: true; the input reads as it did. -/
def fnExactTopMapUptoRow : OpenClaim := { program := "ythccagmifnipdaa", sum := "de5aaa02bf391e4c01ea61fe0b245e7ce352d032ff56a47655c8849e0bfad54b", func := "loop.example/g01618/laws.FnExactTopMap", spec := "fnExactTopMap", unfollowed := true, recurses := true, plainKeys := false, apart := false, narrowed := true }
def FnExactTopMapUptoSaid : Prop := fnExactTopMapUptoRow.holds Try.pinned (OpenSpec.upto fnExactTopMapSpec)

/-- 'laws.FnTopLeast', WHERE WHAT IT READS IS OF BULK AT MOST 1048576: true; the input reads as it did. -/
def fnTopLeastUptoRow : OpenClaim := { program := "ythccagmifnipdaa", sum := "de5aaa02bf391e4c01ea61fe0b245e7ce352d032ff56a47655c8849e0bfad54b", func := "loop.example/g01618/laws.FnTopLeast", spec := "fnTopLeast", unfollowed := true, recurses := true, plainKeys := false, apart := false, narrowed := true }
def FnTopLeastUptoSaid : Prop := fnTopLeastUptoRow.holds Try.pinned (OpenSpec.upto fnTopLeastSpec)

end Rows
end Go.Proofs.Ythccagmifnipdaa
