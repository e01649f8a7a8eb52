/- What is left of the law FnExactStrDist: a statement over numbers and lists. -/
import Derived.Test.YtlniclcfmaofhaaG12
import Derived.Test.YtlniclcfmaofhaaOpen
namespace Go.Proofs.Ytlniclcfmaofhaa.fnExactStrDist
open Go.RowKit Go.Proofs.YtlniclcfmaofhaaW.PrintWords Go.Proofs.YtlniclcfmaofhaaW.PrintLast Go.Proofs.YtlniclcfmaofhaaW.PrintMore Go.Proofs.Ytlniclcfmaofhaa.P
def Pure : Prop := ∀ (l0 : (List Int)) (l1 : (List Int)) (l2_0 : (List Int)) (l2_1 : (List Int)) (l2_2 : (List Int)), ((l0.length ≤ maxLen ∧ ∀ x ∈ l0, Opn.I64 x)) → ((l1.length ≤ maxLen ∧ ∀ x ∈ l1, Opn.I64 x)) → ((l2_0.length ≤ maxLen ∧ ∀ x ∈ l2_0, Opn.I64 x)) → ((l2_1.length ≤ maxLen ∧ ∀ x ∈ l2_1, Opn.I64 x)) → ((l2_2.length ≤ maxLen ∧ ∀ x ∈ l2_2, Opn.I64 x)) → ∃ k, laws_FnExactStrDist.f k l0 l1 l2_0 l2_1 l2_2 = some true
end Go.Proofs.Ytlniclcfmaofhaa.fnExactStrDist
