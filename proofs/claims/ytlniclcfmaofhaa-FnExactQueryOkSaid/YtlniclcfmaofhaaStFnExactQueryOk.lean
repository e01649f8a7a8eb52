/- What is left of the law FnExactQueryOk: a statement over numbers and lists. -/
import Derived.Test.YtlniclcfmaofhaaG20
import Derived.Test.YtlniclcfmaofhaaOpen
namespace Go.Proofs.Ytlniclcfmaofhaa.fnExactQueryOk
open Go.RowKit Go.Proofs.YtlniclcfmaofhaaW.PrintWords Go.Proofs.YtlniclcfmaofhaaW.PrintLast Go.Proofs.YtlniclcfmaofhaaW.PrintMore Go.Proofs.Ytlniclcfmaofhaa.P
def Ok69 (x : S69) : Prop := True ∧ Opn.I64 x.f1
def Pure : Prop := ∀ (l0 : (List S69)), ((l0.length ≤ maxLen ∧ ∀ x ∈ l0, Ok69 x)) → ∃ k, laws_FnExactQueryOk.f k l0 = some true
end Go.Proofs.Ytlniclcfmaofhaa.fnExactQueryOk
