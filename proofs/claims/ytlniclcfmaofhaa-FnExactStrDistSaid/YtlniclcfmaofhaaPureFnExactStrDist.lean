/- The law FnExactStrDist, as a statement over numbers and lists: for any two rows of labels and any costs the law's function answers true. -/
import Derived.Test.YtlniclcfmaofhaaXStr
import Derived.Test.YtlniclcfmaofhaaStFnExactStrDist
namespace Go.Proofs.Ytlniclcfmaofhaa.Pure
open Go Go.RowKit Go.Proofs.YtlniclcfmaofhaaW.PrintWords Go.Proofs.YtlniclcfmaofhaaW.PrintLast Go.Proofs.YtlniclcfmaofhaaW.PrintMore Go.Proofs.Ytlniclcfmaofhaa.P Go.Proofs.Ytlniclcfmaofhaa.X
theorem FnExactStrDist : fnExactStrDist.Pure := by
  intro a b d i r ha hb hd hi hr
  refine ⟨8000000, ?_⟩
  unfold laws_FnExactStrDist.f
  by_cases c1 : (a.length : Int) > 1048576
  · rw [if_pos c1]
  rw [if_neg c1]
  by_cases c2 : (b.length : Int) > 1048576
  · rw [if_pos c2]
  rw [if_neg c2]
  rcases szCost d i r 1048576 (by omega) (by omega) hd.1 hi.1 hr.1 with hz | ⟨hz, hz0⟩
  · rw [hz]; rfl
  rw [hz]
  simp only [Option.bind_some]
  rw [if_neg (by omega), toIntS a (by omega) _ (by omega), toIntS b (by omega) _ (by omega), toCost d i r (by omega) (by omega) (by omega) _ (by omega)]
  simp only [Option.bind_some]
  rw [specStrDist a b d i r (by omega) (by omega) (by omega) (by omega) (by omega) _ (by omega), implStrDist a b d i r (by omega) (by omega) (by omega) (by omega) (by omega) _ (by omega)]
  simp only [Option.bind_some, ↓reduceIte]
  rw [eqIntS a (by omega) _ (by omega), eqIntS b (by omega) _ (by omega), eqCost d i r (by omega) (by omega) (by omega) _ (by omega)]
  simp
end Go.Proofs.Ytlniclcfmaofhaa.Pure
