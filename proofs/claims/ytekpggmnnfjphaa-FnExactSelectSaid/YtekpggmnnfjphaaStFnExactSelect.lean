/- What is left of the law FnExactSelect: a statement over numbers and lists. -/
import Derived.Test.YtekpggmnnfjphaaG7
import Derived.Test.YtekpggmnnfjphaaOpen
namespace Go.Proofs.Ytekpggmnnfjphaa.fnExactSelect
open Go.RowKit Go.Proofs.YtekpggmnnfjphaaW.PrintWords Go.Proofs.YtekpggmnnfjphaaW.PrintLast Go.Proofs.YtekpggmnnfjphaaW.PrintMore Go.Proofs.Ytekpggmnnfjphaa.P
def Ok91 (x : S91) : Prop := Opn.I64 x.f0 ∧ Opn.I64 x.f1
def Ok93 (x : S93) : Prop := True ∧ Opn.I64 x.f1
def Pure : Prop := ∀ (l0 : (List S91)) (l1 : (List S93)), ((l0.length ≤ maxLen ∧ ∀ x ∈ l0, Ok91 x)) → ((l1.length ≤ maxLen ∧ ∀ x ∈ l1, Ok93 x)) → ∃ k, laws_FnExactSelect.f k l0 l1 = some true
end Go.Proofs.Ytekpggmnnfjphaa.fnExactSelect
