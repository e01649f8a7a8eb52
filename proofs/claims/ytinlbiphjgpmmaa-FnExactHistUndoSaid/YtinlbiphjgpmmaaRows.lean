/-
  No cell of these rows narrows 'for every input' (looked for: loops, veiled, ifaces, maps, wideKeys, modest, calm, conditions, laid).
  DERIVED. THE GIVEN ROWS OF THIS SEAT. 5 by the template 'for every input the law returns true; each argument reads behind the call as it read before'; 0 by the template 'total and deterministic' (their statements: YtinlbiphjgpmmaaTotals.lean).
  GIVEN WITH THE SEED: the statements are not yours to turn. If you find one false, say at which input.
  Laid BY PROGRAM, IN A SANDBOX (cutbox-rows.mjs): the forced cells as the released guide's own fill.sh prints them over the translation b9149075b097d822… (all of the seat's roots in one cut). By AI agents, Wed Nov 11 2026. No macro, syntax, notation, axiom, sorry.
-/
import Derived.Test.YtinlbiphjgpmmaaChecked
import GoSem.Claim
import GoSem.ClaimJoined
import GoSem.ClaimMapViews
import Derived.JoinedTies
import Derived.KernelRfl
namespace Go.Proofs.Ytinlbiphjgpmmaa
/- THE CELL 'sum', in the pinned program and in every row, IS THE sha256 OF THE DUMP (.gsa) THAT YtinlbiphjgpmmaaProg.lean LOADS. Nothing in Lean hashes anything: it is a label: what it is worth is what the hold of that sum in a sandbox is worth. -/
noncomputable def Try.pinned : Pinned := { name := "ytinlbiphjgpmmaa", sum := "b9149075b097d8220bb870821b89850c71a6c3eb03a4afd16affdd4d6872179a", checked := Try.checked }
namespace Rows
def none {H : Type} : Left H := { results := [], args := [] }

/-- 'laws.FnExactRepoGet': WHATEVER THE INPUT: true; the input reads as it did. -/
def fnExactRepoGetSpec : ChangeSpec := { name := "fnExactRepoGet", fn := fun _ => fun
  | [d1, d2] => { results := [.lit (.bool true)], args := [d1, d2] }
  | _ => none }
def fnExactRepoGetRow : OpenClaim := { program := "ytinlbiphjgpmmaa", sum := "b9149075b097d8220bb870821b89850c71a6c3eb03a4afd16affdd4d6872179a", func := "loop.example/g01618/laws.FnExactRepoGet", spec := "fnExactRepoGet", inPlace := ["slices.overlaps[loop.example/g01618/impl.Node]"], recurses := true, apart := false }
def FnExactRepoGetSaid : Prop := fnExactRepoGetRow.holds Try.pinned (OpenSpec.ofChange fnExactRepoGetSpec)

/-- ITS FALSE NEIGHBOUR: 'it returns false'. Refute it at one input. -/
def fnExactRepoGetWrong : ChangeSpec := { name := "fnExactRepoGet", fn := fun _ => fun
  | [d1, d2] => { results := [.lit (.bool false)], args := [d1, d2] }
  | _ => none }
def FnExactRepoGetWrongFalsely : Prop := fnExactRepoGetRow.holds Try.pinned (OpenSpec.ofChange fnExactRepoGetWrong)

/-- 'laws.FnExactRepoOk': WHATEVER THE INPUT: true; the input reads as it did. -/
def fnExactRepoOkSpec : ChangeSpec := { name := "fnExactRepoOk", fn := fun _ => fun
  | [d] => { results := [.lit (.bool true)], args := [d] }
  | _ => none }
def fnExactRepoOkRow : OpenClaim := { program := "ytinlbiphjgpmmaa", sum := "b9149075b097d8220bb870821b89850c71a6c3eb03a4afd16affdd4d6872179a", func := "loop.example/g01618/laws.FnExactRepoOk", spec := "fnExactRepoOk", inPlace := ["slices.overlaps[loop.example/g01618/impl.Node]"], recurses := true, apart := false }
def FnExactRepoOkSaid : Prop := fnExactRepoOkRow.holds Try.pinned (OpenSpec.ofChange fnExactRepoOkSpec)

/-- ITS FALSE NEIGHBOUR: 'it returns false'. Refute it at one input. -/
def fnExactRepoOkWrong : ChangeSpec := { name := "fnExactRepoOk", fn := fun _ => fun
  | [d] => { results := [.lit (.bool false)], args := [d] }
  | _ => none }
def FnExactRepoOkWrongFalsely : Prop := fnExactRepoOkRow.holds Try.pinned (OpenSpec.ofChange fnExactRepoOkWrong)

/-- 'laws.FnExactFlat': WHATEVER THE INPUT: true; the input reads as it did. -/
def fnExactFlatSpec : ChangeSpec := { name := "fnExactFlat", fn := fun _ => fun
  | [d1, d2] => { results := [.lit (.bool true)], args := [d1, d2] }
  | _ => none }
def fnExactFlatRow : OpenClaim := { program := "ytinlbiphjgpmmaa", sum := "b9149075b097d8220bb870821b89850c71a6c3eb03a4afd16affdd4d6872179a", func := "loop.example/g01618/laws.FnExactFlat", spec := "fnExactFlat", inPlace := ["slices.overlaps[loop.example/g01618/impl.Node]"], recurses := true, apart := false }
def FnExactFlatSaid : Prop := fnExactFlatRow.holds Try.pinned (OpenSpec.ofChange fnExactFlatSpec)

/-- ITS FALSE NEIGHBOUR: 'it returns false'. Refute it at one input. -/
def fnExactFlatWrong : ChangeSpec := { name := "fnExactFlat", fn := fun _ => fun
  | [d1, d2] => { results := [.lit (.bool false)], args := [d1, d2] }
  | _ => none }
def FnExactFlatWrongFalsely : Prop := fnExactFlatRow.holds Try.pinned (OpenSpec.ofChange fnExactFlatWrong)

/-- 'laws.FnExactHistAdd': WHATEVER THE INPUT: true; the input reads as it did. -/
def fnExactHistAddSpec : ChangeSpec := { name := "fnExactHistAdd", fn := fun _ => fun
  | [d1, d2] => { results := [.lit (.bool true)], args := [d1, d2] }
  | _ => none }
def fnExactHistAddRow : OpenClaim := { program := "ytinlbiphjgpmmaa", sum := "b9149075b097d8220bb870821b89850c71a6c3eb03a4afd16affdd4d6872179a", func := "loop.example/g01618/laws.FnExactHistAdd", spec := "fnExactHistAdd", inPlace := ["slices.overlaps[loop.example/g01618/impl.Node]"], unfollowed := true, recurses := true, apart := false }
def FnExactHistAddSaid : Prop := fnExactHistAddRow.holds Try.pinned (OpenSpec.ofChange fnExactHistAddSpec)

/-- ITS FALSE NEIGHBOUR: 'it returns false'. Refute it at one input. -/
def fnExactHistAddWrong : ChangeSpec := { name := "fnExactHistAdd", fn := fun _ => fun
  | [d1, d2] => { results := [.lit (.bool false)], args := [d1, d2] }
  | _ => none }
def FnExactHistAddWrongFalsely : Prop := fnExactHistAddRow.holds Try.pinned (OpenSpec.ofChange fnExactHistAddWrong)

/-- 'laws.FnExactHistUndo': WHATEVER THE INPUT: true; the input reads as it did. -/
def fnExactHistUndoSpec : ChangeSpec := { name := "fnExactHistUndo", fn := fun _ => fun
  | [d] => { results := [.lit (.bool true)], args := [d] }
  | _ => none }
def fnExactHistUndoRow : OpenClaim := { program := "ytinlbiphjgpmmaa", sum := "b9149075b097d8220bb870821b89850c71a6c3eb03a4afd16affdd4d6872179a", func := "loop.example/g01618/laws.FnExactHistUndo", spec := "fnExactHistUndo", inPlace := ["slices.overlaps[loop.example/g01618/impl.Node]"], unfollowed := true, recurses := true, apart := false }
def FnExactHistUndoSaid : Prop := fnExactHistUndoRow.holds Try.pinned (OpenSpec.ofChange fnExactHistUndoSpec)

/-- ITS FALSE NEIGHBOUR: 'it returns false'. Refute it at one input. -/
def fnExactHistUndoWrong : ChangeSpec := { name := "fnExactHistUndo", fn := fun _ => fun
  | [d] => { results := [.lit (.bool false)], args := [d] }
  | _ => none }
def FnExactHistUndoWrongFalsely : Prop := fnExactHistUndoRow.holds Try.pinned (OpenSpec.ofChange fnExactHistUndoWrong)

/- THE SECOND FORM. 'bulk': how many values and letters a reading holds, each counted each time it is reached (what is shared counts as often as it is met; a slice's spare places count too). A statement '..UptoSaid' is the law's where the arguments, and the package variables that the reading takes, are together of bulk at most 1048576: NARROWER than '..Said'. Prove '..Said' where nothing that the law and all that it calls make is longer than what came in: it says more and counts as full. Else prove '..UptoSaid'. A law counts once. -/
mutual
def uptoBulk {H : Type} : DataW H → Nat
  | .lit (.string bytes) => bytes.length + 1
  | .lit _ => 1
  | .nil => 1
  | .ptr d => uptoBulk d + 1
  | .slice elems spare => uptoBulkAll elems + uptoBulkAll spare + 1
  | .agg parts => uptoBulkAll parts + 1
  | .iface _ d => uptoBulk d + 1
  | .map entries => uptoBulkEntries entries + 1
  | .held _ => 1
def uptoBulkAll {H : Type} : List (DataW H) → Nat
  | [] => 0
  | d :: r => uptoBulk d + uptoBulkAll r
def uptoBulkEntries {H : Type} : List (Lit × DataW H) → Nat
  | [] => 0
  | x :: r => uptoBulkEntry x + uptoBulkEntries r
def uptoBulkEntry {H : Type} : Lit × DataW H → Nat
  | (.string bytes, d) => bytes.length + uptoBulk d + 1
  | (_, d) => uptoBulk d + 1
 end
def uptoSmall : (H : Type) → List (DataW H) → Bool := fun _ ds => decide (uptoBulkAll ds ≤ 1048576)
def OpenSpec.upto (s : _root_.Go.ChangeSpec) : _root_.Go.OpenSpec := { _root_.Go.OpenSpec.ofChange s with cond := some uptoSmall }

/-- 'laws.FnExactRepoGet', WHERE WHAT IT READS IS OF BULK AT MOST 1048576: true; the input reads as it did. -/
def fnExactRepoGetUptoRow : OpenClaim := { program := "ytinlbiphjgpmmaa", sum := "b9149075b097d8220bb870821b89850c71a6c3eb03a4afd16affdd4d6872179a", func := "loop.example/g01618/laws.FnExactRepoGet", spec := "fnExactRepoGet", inPlace := ["slices.overlaps[loop.example/g01618/impl.Node]"], recurses := true, apart := false, narrowed := true }
def FnExactRepoGetUptoSaid : Prop := fnExactRepoGetUptoRow.holds Try.pinned (OpenSpec.upto fnExactRepoGetSpec)

/-- 'laws.FnExactRepoOk', WHERE WHAT IT READS IS OF BULK AT MOST 1048576: true; the input reads as it did. -/
def fnExactRepoOkUptoRow : OpenClaim := { program := "ytinlbiphjgpmmaa", sum := "b9149075b097d8220bb870821b89850c71a6c3eb03a4afd16affdd4d6872179a", func := "loop.example/g01618/laws.FnExactRepoOk", spec := "fnExactRepoOk", inPlace := ["slices.overlaps[loop.example/g01618/impl.Node]"], recurses := true, apart := false, narrowed := true }
def FnExactRepoOkUptoSaid : Prop := fnExactRepoOkUptoRow.holds Try.pinned (OpenSpec.upto fnExactRepoOkSpec)

/-- 'laws.FnExactFlat', WHERE WHAT IT READS IS OF BULK AT MOST 1048576: true; the input reads as it did. -/
def fnExactFlatUptoRow : OpenClaim := { program := "ytinlbiphjgpmmaa", sum := "b9149075b097d8220bb870821b89850c71a6c3eb03a4afd16affdd4d6872179a", func := "loop.example/g01618/laws.FnExactFlat", spec := "fnExactFlat", inPlace := ["slices.overlaps[loop.example/g01618/impl.Node]"], recurses := true, apart := false, narrowed := true }
def FnExactFlatUptoSaid : Prop := fnExactFlatUptoRow.holds Try.pinned (OpenSpec.upto fnExactFlatSpec)

/-- 'laws.FnExactHistAdd', WHERE WHAT IT READS IS OF BULK AT MOST 1048576: true; the input reads as it did. -/
def fnExactHistAddUptoRow : OpenClaim := { program := "ytinlbiphjgpmmaa", sum := "b9149075b097d8220bb870821b89850c71a6c3eb03a4afd16affdd4d6872179a", func := "loop.example/g01618/laws.FnExactHistAdd", spec := "fnExactHistAdd", inPlace := ["slices.overlaps[loop.example/g01618/impl.Node]"], unfollowed := true, recurses := true, apart := false, narrowed := true }
def FnExactHistAddUptoSaid : Prop := fnExactHistAddUptoRow.holds Try.pinned (OpenSpec.upto fnExactHistAddSpec)

/-- 'laws.FnExactHistUndo', WHERE WHAT IT READS IS OF BULK AT MOST 1048576: true; the input reads as it did. -/
def fnExactHistUndoUptoRow : OpenClaim := { program := "ytinlbiphjgpmmaa", sum := "b9149075b097d8220bb870821b89850c71a6c3eb03a4afd16affdd4d6872179a", func := "loop.example/g01618/laws.FnExactHistUndo", spec := "fnExactHistUndo", inPlace := ["slices.overlaps[loop.example/g01618/impl.Node]"], unfollowed := true, recurses := true, apart := false, narrowed := true }
def FnExactHistUndoUptoSaid : Prop := fnExactHistUndoUptoRow.holds Try.pinned (OpenSpec.upto fnExactHistUndoSpec)

end Rows
end Go.Proofs.Ytinlbiphjgpmmaa
