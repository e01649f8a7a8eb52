/- The law FnExactLabelCounts, as a statement over numbers and lists: for any list of nodes the law's function answers true. -/
import Derived.Test.YtlniclcfmaofhaaXCounts
import Derived.Test.YtlniclcfmaofhaaXNodes
import Derived.Test.YtlniclcfmaofhaaStFnExactLabelCounts
namespace Go.Proofs.Ytlniclcfmaofhaa.Pure
open Go Go.RowKit Go.Proofs.YtlniclcfmaofhaaW.PrintWords Go.Proofs.YtlniclcfmaofhaaW.PrintLast Go.Proofs.YtlniclcfmaofhaaW.PrintMore Go.Proofs.Ytlniclcfmaofhaa.P Go.Proofs.Ytlniclcfmaofhaa.X
theorem FnExactLabelCounts : fnExactLabelCounts.Pure := by
  intro l0 h0
  refine ⟨4194306, ?_⟩
  unfold laws_FnExactLabelCounts.f
  rw [szNodeS l0 _ (by omega) (by omega) h0.1]
  simp only [Option.bind_some]
  by_cases hs : (1048576 : Int) < (l0.length : Int)
  · rw [if_pos hs]; rfl
  rw [if_neg hs, if_neg (by omega), toNodeS l0 (by omega) _ (by omega)]
  have m0 : (l0.map nd).length ≤ 1048576 := by rw [List.length_map]; omega
  have ml := show (labelCounts (l0.map nd)).length ≤ 24 from by have := labelCounts_length (l0.map nd); split at this <;> omega
  obtain ⟨l', hm⟩ := markNodeS (l0.map nd) 1 (by omega) (by omega) (by omega) 4194306 (by omega)
  simp only [Option.bind_some, specLabelCounts _ (show (l0.map nd).length ≤ 4194304 by omega) 4194306 (by omega), implLabelCounts _ (show (l0.map nd).length ≤ 4194304 by omega) 4194306 (by omega), eqIntS _ (show (labelCounts (l0.map nd)).length ≤ 4194304 by omega) 4194306 (by omega), eqNodeS _ (show (l0.map nd).length ≤ 4194304 by omega) 4194306 (by omega), hm, ↓reduceIte]
  rw [if_neg (by omega)]
  simp only [Bool.not_true, laws_FnExactLabelCounts.j0, Bool.false_eq_true, ↓reduceIte]
  simp only [markIntS _ 1 (show (labelCounts (l0.map nd)).length ≤ 4194304 by omega) (by omega) (by omega) 4194305 (by omega), heldIntS 1 _ (show (labelCounts (l0.map nd)).length ≤ 4194304 by omega) (by omega) (by omega) 4194305 (by omega), Option.bind_some, toNodeS l0 (by omega) 4194305 (by omega), implLabelCounts _ (show (l0.map nd).length ≤ 4194304 by omega) 4194305 (by omega), eqIntS _ (show (labelCounts (l0.map nd)).length ≤ 4194304 by omega) 4194305 (by omega), ↓reduceIte]
  rw [if_neg (by omega), if_neg (by omega)]
end Go.Proofs.Ytlniclcfmaofhaa.Pure
