/- What is left of the law FnExactRenamed: a statement over numbers and lists. -/
import Derived.Test.YtekpggmnnfjphaaG48
import Derived.Test.YtekpggmnnfjphaaOpen
namespace Go.Proofs.Ytekpggmnnfjphaa.fnExactRenamed
open Go.RowKit Go.Proofs.YtekpggmnnfjphaaW.PrintWords Go.Proofs.YtekpggmnnfjphaaW.PrintLast Go.Proofs.YtekpggmnnfjphaaW.PrintMore Go.Proofs.Ytekpggmnnfjphaa.P
def Ok91 (x : S91) : Prop := Opn.I64 x.f0 ∧ Opn.I64 x.f1
def Pure : Prop := ∀ (l0 : (List S91)) (l1 : (List S91)), ((l0.length ≤ maxLen ∧ ∀ x ∈ l0, Ok91 x)) → ((l1.length ≤ maxLen ∧ ∀ x ∈ l1, Ok91 x)) → ∃ k, laws_FnExactRenamed.f k l0 l1 = some true
end Go.Proofs.Ytekpggmnnfjphaa.fnExactRenamed
