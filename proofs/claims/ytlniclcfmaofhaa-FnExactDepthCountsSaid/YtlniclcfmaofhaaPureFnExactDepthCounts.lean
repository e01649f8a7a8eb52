/- The law FnExactDepthCounts, as a statement over numbers and lists: for any list of nodes the law's function answers true. -/
import Derived.Test.YtlniclcfmaofhaaXCounts
import Derived.Test.YtlniclcfmaofhaaXNodes
import Derived.Test.YtlniclcfmaofhaaStFnExactDepthCounts
namespace Go.Proofs.Ytlniclcfmaofhaa.Pure
open Go Go.RowKit Go.Proofs.YtlniclcfmaofhaaW.PrintWords Go.Proofs.YtlniclcfmaofhaaW.PrintLast Go.Proofs.YtlniclcfmaofhaaW.PrintMore Go.Proofs.Ytlniclcfmaofhaa.P Go.Proofs.Ytlniclcfmaofhaa.X
theorem FnExactDepthCounts : fnExactDepthCounts.Pure := by
  intro l0 h0
  refine ⟨4194306, ?_⟩
  unfold laws_FnExactDepthCounts.f
  rw [szNodeS l0 _ (by omega) (by omega) h0.1]
  simp only [Option.bind_some]
  by_cases hs : (1048576 : Int) < (l0.length : Int)
  · rw [if_pos hs]; rfl
  rw [if_neg hs, if_neg (by omega), toNodeS l0 (by omega) _ (by omega)]
  have m0 : (l0.map nd).length ≤ 1048576 := by rw [List.length_map]; omega
  have ml := show (depthCounts (l0.map nd)).length ≤ 24 from by have := depthCounts_length (l0.map nd); omega
  obtain ⟨l', hm⟩ := markNodeS (l0.map nd) 1 (by omega) (by omega) (by omega) 4194306 (by omega)
  simp only [Option.bind_some, specDepthCounts _ (show (l0.map nd).length ≤ 4194304 by omega) 4194306 (by omega), implDepthCounts _ (show (l0.map nd).length ≤ 4194304 by omega) 4194306 (by omega), eqIntS _ (show (depthCounts (l0.map nd)).length ≤ 4194304 by omega) 4194306 (by omega), eqNodeS _ (show (l0.map nd).length ≤ 4194304 by omega) 4194306 (by omega), hm, ↓reduceIte]
  rw [if_neg (by omega)]
  simp only [Bool.not_true, laws_FnExactDepthCounts.j0, Bool.false_eq_true, ↓reduceIte]
  simp only [markIntS _ 1 (show (depthCounts (l0.map nd)).length ≤ 4194304 by omega) (by omega) (by omega) 4194305 (by omega), heldIntS 1 _ (show (depthCounts (l0.map nd)).length ≤ 4194304 by omega) (by omega) (by omega) 4194305 (by omega), Option.bind_some, toNodeS l0 (by omega) 4194305 (by omega), implDepthCounts _ (show (l0.map nd).length ≤ 4194304 by omega) 4194305 (by omega), eqIntS _ (show (depthCounts (l0.map nd)).length ≤ 4194304 by omega) 4194305 (by omega), ↓reduceIte]
  rw [if_neg (by omega), if_neg (by omega)]
end Go.Proofs.Ytlniclcfmaofhaa.Pure
