/- The law FnExactQueryOk, as a statement over numbers and lists: for any list of picks the law's function answers true. -/
import Derived.Test.YtlniclcfmaofhaaXPicks
import Derived.Test.YtlniclcfmaofhaaStFnExactQueryOk
namespace Go.Proofs.Ytlniclcfmaofhaa.Pure
open Go Go.RowKit Go.Proofs.YtlniclcfmaofhaaW.PrintWords Go.Proofs.YtlniclcfmaofhaaW.PrintLast Go.Proofs.YtlniclcfmaofhaaW.PrintMore Go.Proofs.Ytlniclcfmaofhaa.P Go.Proofs.Ytlniclcfmaofhaa.X
theorem FnExactQueryOk : fnExactQueryOk.Pure := by
  intro l0 h0
  refine ⟨4194306, ?_⟩
  unfold laws_FnExactQueryOk.f
  rw [szPickS l0 _ (by omega) (by omega) h0.1]
  simp only [Option.bind_some]
  by_cases hs : (1048576 : Int) < (l0.length : Int)
  · rw [if_pos hs]; rfl
  have m0 : (l0.map pk).length ≤ 4194304 := by rw [List.length_map]; omega
  rw [if_neg hs, if_neg (by omega), toPickS l0 (by omega) _ (by omega)]
  simp only [Option.bind_some]
  rw [specQueryOk _ m0 _ (by omega), implQueryOk _ m0 _ (by omega), eqPickS _ m0 _ (by omega)]
  simp
end Go.Proofs.Ytlniclcfmaofhaa.Pure
