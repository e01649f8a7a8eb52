/- The law FnExactQueryText, as a statement over numbers and lists: for any list of picks the law's function answers true. -/
import Derived.Test.YtlniclcfmaofhaaXQText
import Derived.Test.YtlniclcfmaofhaaStFnExactQueryText
namespace Go.Proofs.Ytlniclcfmaofhaa.Pure
open Go Go.RowKit Go.Proofs.YtlniclcfmaofhaaW.PrintWords Go.Proofs.YtlniclcfmaofhaaW.PrintLast Go.Proofs.YtlniclcfmaofhaaW.PrintMore Go.Proofs.Ytlniclcfmaofhaa.P Go.Proofs.Ytlniclcfmaofhaa.X
theorem FnExactQueryText : fnExactQueryText.Pure := by
  intro l0 h0
  refine ⟨6000000, ?_⟩
  unfold laws_FnExactQueryText.f
  rw [szPickS l0 _ (by omega) (by omega) h0.1]
  simp only [Option.bind_some]
  by_cases hs : (1048576 : Int) < (l0.length : Int)
  · rw [if_pos hs]; rfl
  have m0 : (l0.map pk).length ≤ 1048576 := by rw [List.length_map]; omega
  rw [if_neg hs, if_neg (by omega), toPickS l0 (by omega) _ (by omega)]
  simp only [Option.bind_some]
  rw [specQueryText _ m0 _ (by omega), implQueryText _ (by omega) _ (by omega), eqPickS _ (by omega) _ (by omega)]
  simp
end Go.Proofs.Ytlniclcfmaofhaa.Pure
