/- What is left of the law FnExactRepoSize: a statement over numbers and lists. -/
import Derived.Test.YtlniclcfmaofhaaF5
import Derived.Test.YtlniclcfmaofhaaOpen
namespace Go.Proofs.Ytlniclcfmaofhaa.fnExactRepoSize
open Go.RowKit Go.Proofs.YtlniclcfmaofhaaW.PrintWords Go.Proofs.YtlniclcfmaofhaaW.PrintLast Go.Proofs.YtlniclcfmaofhaaW.PrintMore Go.Proofs.Ytlniclcfmaofhaa.P
def Ok93 (x : S93) : Prop := Opn.I64 x.f0 ∧ x.f1.size ≤ maxLen
def Pure : Prop := ∀ (l0_0 : (List S93)), ((l0_0.length ≤ maxLen ∧ ∀ x ∈ l0_0, Ok93 x)) → ∃ k, laws_FnExactRepoSize.f k l0_0 = some true
end Go.Proofs.Ytlniclcfmaofhaa.fnExactRepoSize
