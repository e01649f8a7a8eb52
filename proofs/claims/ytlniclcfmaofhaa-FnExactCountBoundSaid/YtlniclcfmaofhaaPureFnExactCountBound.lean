/- The law FnExactCountBound, as a statement over numbers and lists: for any two lists of nodes the law's function answers true. -/
import Derived.Test.YtlniclcfmaofhaaXCounts
import Derived.Test.YtlniclcfmaofhaaXNodes
import Derived.Test.YtlniclcfmaofhaaStFnExactCountBound
namespace Go.Proofs.Ytlniclcfmaofhaa.Pure
open Go Go.RowKit Go.Proofs.YtlniclcfmaofhaaW.PrintWords Go.Proofs.YtlniclcfmaofhaaW.PrintLast Go.Proofs.YtlniclcfmaofhaaW.PrintMore Go.Proofs.Ytlniclcfmaofhaa.P Go.Proofs.Ytlniclcfmaofhaa.X
theorem FnExactCountBound : fnExactCountBound.Pure := by
  intro l0 l1 h0 h1
  refine ⟨4194308, ?_⟩
  unfold laws_FnExactCountBound.f
  rw [szNodeS l0 _ (by omega) (by omega) h0.1]
  simp only [Option.bind_some]
  by_cases hs : (1048576 : Int) < (l0.length : Int)
  · rw [if_pos hs]; rfl
  rw [if_neg hs, if_neg (by omega), szNodeS l1 _ (by omega) (by omega) h1.1]
  simp only [Option.bind_some]
  by_cases hs1 : (1048576 : Int) - (l0.length : Int) < (l1.length : Int)
  · rw [if_pos hs1]; rfl
  rw [if_neg hs1, if_neg (by omega), toNodeS l0 (by omega) _ (by omega), toNodeS l1 (by omega) _ (by omega)]
  simp only [Option.bind_some]
  have m0 : (l0.map nd).length ≤ 4194304 := by rw [List.length_map]; omega
  have m1 : (l1.map nd).length ≤ 4194304 := by rw [List.length_map]; omega
  obtain ⟨r, e1, e2⟩ := countBound _ _ m0 m1 4194308 (by omega)
  rw [e1, e2, eqNodeS _ m0 _ (by omega), eqNodeS _ m1 _ (by omega)]
  simp
end Go.Proofs.Ytlniclcfmaofhaa.Pure
