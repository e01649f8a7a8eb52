/- What is left of the law FnExactQueryText: a statement over numbers and lists. -/
import Derived.Test.YtlniclcfmaofhaaG76
import Derived.Test.YtlniclcfmaofhaaOpen
namespace Go.Proofs.Ytlniclcfmaofhaa.fnExactQueryText
open Go.RowKit Go.Proofs.YtlniclcfmaofhaaW.PrintWords Go.Proofs.YtlniclcfmaofhaaW.PrintLast Go.Proofs.YtlniclcfmaofhaaW.PrintMore Go.Proofs.Ytlniclcfmaofhaa.P
def Ok69 (x : S69) : Prop := True ∧ Opn.I64 x.f1
def Pure : Prop := ∀ (l0 : (List S69)), ((l0.length ≤ maxLen ∧ ∀ x ∈ l0, Ok69 x)) → ∃ k, laws_FnExactQueryText.f k l0 = some true
end Go.Proofs.Ytlniclcfmaofhaa.fnExactQueryText
