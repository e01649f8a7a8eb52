/- What is left of the law FnExactTopDist: a statement over numbers and lists. -/
import Derived.Test.YtockkelkdimehaaG5
import Derived.Test.YtockkelkdimehaaOpen
namespace Go.Proofs.Ytockkelkdimehaa.fnExactTopDist
open Go.RowKit Go.Proofs.YtockkelkdimehaaW.PrintWords Go.Proofs.YtockkelkdimehaaW.PrintLast Go.Proofs.YtockkelkdimehaaW.PrintMore Go.Proofs.Ytockkelkdimehaa.P
def Ok61 (x : S61) : Prop := Opn.I64 x.f0 ∧ Opn.I64 x.f1
def Pure : Prop := ∀ (l0 : (List S61)) (l1 : (List S61)) (l2_0 : (List Int)) (l2_1 : (List Int)) (l2_2 : (List Int)), ((l0.length ≤ maxLen ∧ ∀ x ∈ l0, Ok61 x)) → ((l1.length ≤ maxLen ∧ ∀ x ∈ l1, Ok61 x)) → ((l2_0.length ≤ maxLen ∧ ∀ x ∈ l2_0, Opn.I64 x)) → ((l2_1.length ≤ maxLen ∧ ∀ x ∈ l2_1, Opn.I64 x)) → ((l2_2.length ≤ maxLen ∧ ∀ x ∈ l2_2, Opn.I64 x)) → ∃ k, laws_FnExactTopDist.f k l0 l1 l2_0 l2_1 l2_2 = some true
end Go.Proofs.Ytockkelkdimehaa.fnExactTopDist
