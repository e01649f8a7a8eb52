/- What is left of the law FnExactSameQuery: a statement over numbers and lists. -/
import Derived.Test.YtlniclcfmaofhaaPFnExactSameQueryx3
import Derived.Test.YtlniclcfmaofhaaOpen
namespace Go.Proofs.Ytlniclcfmaofhaa.fnExactSameQuery
open Go.RowKit Go.Proofs.YtlniclcfmaofhaaW.PrintWords Go.Proofs.YtlniclcfmaofhaaW.PrintLast Go.Proofs.YtlniclcfmaofhaaW.PrintMore Go.Proofs.Ytlniclcfmaofhaa.PFnExactSameQuery
def Ok69 (x : S69) : Prop := True ∧ Opn.I64 x.f1
def Pure : Prop := ∀ (l0 : (List S69)) (l1 : (List S69)), ((l0.length ≤ maxLen ∧ ∀ x ∈ l0, Ok69 x)) → ((l1.length ≤ maxLen ∧ ∀ x ∈ l1, Ok69 x)) → ∃ k, laws_FnExactSameQuery.f k l0 l1 = some true
end Go.Proofs.Ytlniclcfmaofhaa.fnExactSameQuery
