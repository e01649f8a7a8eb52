/- What is left of the law FnExactCountBound: a statement over numbers and lists. -/
import Derived.Test.YtlniclcfmaofhaaG34
import Derived.Test.YtlniclcfmaofhaaOpen
namespace Go.Proofs.Ytlniclcfmaofhaa.fnExactCountBound
open Go.RowKit Go.Proofs.YtlniclcfmaofhaaW.PrintWords Go.Proofs.YtlniclcfmaofhaaW.PrintLast Go.Proofs.YtlniclcfmaofhaaW.PrintMore Go.Proofs.Ytlniclcfmaofhaa.P
def Ok84 (x : S84) : Prop := Opn.I64 x.f0 ∧ Opn.I64 x.f1
def Pure : Prop := ∀ (l0 : (List S84)) (l1 : (List S84)), ((l0.length ≤ maxLen ∧ ∀ x ∈ l0, Ok84 x)) → ((l1.length ≤ maxLen ∧ ∀ x ∈ l1, Ok84 x)) → ∃ k, laws_FnExactCountBound.f k l0 l1 = some true
end Go.Proofs.Ytlniclcfmaofhaa.fnExactCountBound
