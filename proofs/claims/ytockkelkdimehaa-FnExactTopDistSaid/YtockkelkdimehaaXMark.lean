/- Whether a number lies in a range; whether it is a label. -/
import Derived.Test.YtockkelkdimehaaXBase
import Derived.Test.YtockkelkdimehaaG102
import Derived.Test.YtockkelkdimehaaG99
namespace Go.Proofs.Ytockkelkdimehaa.X
open Go Go.RowKit Go.Proofs.YtockkelkdimehaaW.PrintWords Go.Proofs.YtockkelkdimehaaW.PrintLast Go.Proofs.YtockkelkdimehaaW.PrintMore Go.Proofs.Ytockkelkdimehaa.P

theorem l1In (a b c : Int) : spec_l1In.f a b c = some (decide (b ≤ a ∧ a ≤ c)) := by
  unfold spec_l1In.f
  by_cases h : b ≤ a <;> simp [h]
theorem within (a b c : Int) : impl_within.f a b c = some (decide (b ≤ a ∧ a ≤ c)) := by
  unfold impl_within.f
  by_cases h : b ≤ a <;> simp [h]
theorem specLabelOk (a : Int) : spec_LabelOk.f a = some (decide (0 ≤ a ∧ a ≤ 5)) := by unfold spec_LabelOk.f; rw [l1In]; rfl
theorem implLabelOk (a : Int) : impl_LabelOk.f a = some (decide (0 ≤ a ∧ a ≤ 5)) := by unfold impl_LabelOk.f; rw [within]; rfl
end Go.Proofs.Ytockkelkdimehaa.X
