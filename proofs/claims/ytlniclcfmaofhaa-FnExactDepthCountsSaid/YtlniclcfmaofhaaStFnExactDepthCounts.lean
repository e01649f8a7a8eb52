/- What is left of the law FnExactDepthCounts: a statement over numbers and lists. -/
import Derived.Test.YtlniclcfmaofhaaG78
import Derived.Test.YtlniclcfmaofhaaOpen
namespace Go.Proofs.Ytlniclcfmaofhaa.fnExactDepthCounts
open Go.RowKit Go.Proofs.YtlniclcfmaofhaaW.PrintWords Go.Proofs.YtlniclcfmaofhaaW.PrintLast Go.Proofs.YtlniclcfmaofhaaW.PrintMore Go.Proofs.Ytlniclcfmaofhaa.P
def Ok84 (x : S84) : Prop := Opn.I64 x.f0 ∧ Opn.I64 x.f1
def Pure : Prop := ∀ (l0 : (List S84)), ((l0.length ≤ maxLen ∧ ∀ x ∈ l0, Ok84 x)) → ∃ k, laws_FnExactDepthCounts.f k l0 = some true
end Go.Proofs.Ytlniclcfmaofhaa.fnExactDepthCounts
