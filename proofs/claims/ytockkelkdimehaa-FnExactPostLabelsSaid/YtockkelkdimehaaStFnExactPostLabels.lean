/- What is left of the law FnExactPostLabels: a statement over numbers and lists. -/
import Derived.Test.YtockkelkdimehaaG15
import Derived.Test.YtockkelkdimehaaOpen
namespace Go.Proofs.Ytockkelkdimehaa.fnExactPostLabels
open Go.RowKit Go.Proofs.YtockkelkdimehaaW.PrintWords Go.Proofs.YtockkelkdimehaaW.PrintLast Go.Proofs.YtockkelkdimehaaW.PrintMore Go.Proofs.Ytockkelkdimehaa.P
def Ok61 (x : S61) : Prop := Opn.I64 x.f0 ∧ Opn.I64 x.f1
def Pure : Prop := ∀ (l0 : (List S61)), ((l0.length ≤ maxLen ∧ ∀ x ∈ l0, Ok61 x)) → ∃ k, laws_FnExactPostLabels.f k l0 = some true
end Go.Proofs.Ytockkelkdimehaa.fnExactPostLabels
