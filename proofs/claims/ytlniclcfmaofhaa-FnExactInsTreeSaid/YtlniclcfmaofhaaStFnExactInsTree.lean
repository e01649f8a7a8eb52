/- What is left of the law FnExactInsTree: a statement over numbers and lists. -/
import Derived.Test.YtlniclcfmaofhaaG87
import Derived.Test.YtlniclcfmaofhaaOpen
namespace Go.Proofs.Ytlniclcfmaofhaa.fnExactInsTree
open Go.RowKit Go.Proofs.YtlniclcfmaofhaaW.PrintWords Go.Proofs.YtlniclcfmaofhaaW.PrintLast Go.Proofs.YtlniclcfmaofhaaW.PrintMore Go.Proofs.Ytlniclcfmaofhaa.P
def Ok84 (x : S84) : Prop := Opn.I64 x.f0 ∧ Opn.I64 x.f1
def Pure : Prop := ∀ (l0 : (List S84)) (l1_0 : (List Int)) (l1_1 : (List Int)) (l1_2 : (List Int)), ((l0.length ≤ maxLen ∧ ∀ x ∈ l0, Ok84 x)) → ((l1_0.length ≤ maxLen ∧ ∀ x ∈ l1_0, Opn.I64 x)) → ((l1_1.length ≤ maxLen ∧ ∀ x ∈ l1_1, Opn.I64 x)) → ((l1_2.length ≤ maxLen ∧ ∀ x ∈ l1_2, Opn.I64 x)) → ∃ k, laws_FnExactInsTree.f k l0 l1_0 l1_1 l1_2 = some true
end Go.Proofs.Ytlniclcfmaofhaa.fnExactInsTree
