/- The law FnExactTopDist, as a statement over numbers and lists: for any two lists of nodes and any costs the law's function answers true. -/
import Derived.Test.YtockkelkdimehaaXTopD
import Derived.Test.YtockkelkdimehaaXNodes
import Derived.Test.YtockkelkdimehaaStFnExactTopDist
namespace Go.Proofs.Ytockkelkdimehaa.Pure
open Go Go.RowKit Go.Proofs.YtockkelkdimehaaW.PrintWords Go.Proofs.YtockkelkdimehaaW.PrintLast Go.Proofs.YtockkelkdimehaaW.PrintMore Go.Proofs.Ytockkelkdimehaa.P Go.Proofs.Ytockkelkdimehaa.X
theorem FnExactTopDist : fnExactTopDist.Pure := by
  intro l0 l1 d i r h0 h1 hd hi hr
  apply B.Ev.ex
  simp only [laws_FnExactTopDist.f]
  rw [szNodeS l0 _ (by omega) (by omega) h0.1]
  simp only [Option.bind_some]
  by_cases hs : (1048576 : Int) < (l0.length : Int)
  · simp only [hs, ↓reduceIte, show (-1 : Int) < 0 by decide]
    exact B.Ev.pure _
  simp only [hs, ↓reduceIte, show ¬ ((1048576 : Int) - (l0.length : Int) < 0) by omega]
  rw [szNodeS l1 _ (by omega) (by omega) h1.1]
  simp only [Option.bind_some]
  by_cases hs1 : (1048576 : Int) - (l0.length : Int) < (l1.length : Int)
  · simp only [hs1, ↓reduceIte, show (-1 : Int) < 0 by decide]
    exact B.Ev.pure _
  simp only [hs1, ↓reduceIte, show ¬ ((1048576 : Int) - (l0.length : Int) - (l1.length : Int) < 0) by omega]
  rcases szCost d i r ((1048576 : Int) - (l0.length : Int) - (l1.length : Int)) (by omega) (by omega) hd.1 hi.1 hr.1 with hz | ⟨hz, hz0⟩
  · rw [hz]
    simp only [Option.bind_some, show (-1 : Int) < 0 by decide, ↓reduceIte]
    exact B.Ev.pure _
  rw [hz]
  simp only [Option.bind_some]
  have m0 : (l0.map nd).length ≤ 4194304 := by rw [List.length_map]; omega
  have m1 : (l1.map nd).length ≤ 4194304 := by rw [List.length_map]; omega
  have t0 : B.Ev (fun k => laws_toNodeS.f k l0) (l0.map nd) := B.Ev.of _ (fun k hk => toNodeS l0 (by omega) k hk)
  have t1 : B.Ev (fun k => laws_toNodeS.f k l1) (l1.map nd) := B.Ev.of _ (fun k hk => toNodeS l1 (by omega) k hk)
  have t2 : B.Ev (fun k => laws_toCost.f k d i r) (d, i, r) := B.Ev.of _ (fun k hk => toCost d i r (by omega) (by omega) (by omega) k hk)
  refine B.Ev.ite (fun h => absurd h (by omega)) (fun _ => ?_)
  refine B.Ev.bind t0 (B.Ev.bind t1 (B.Ev.bind t2 (B.Ev.bind (evTop _ _ d i r m0 m1 (by omega) (by omega) (by omega)) (B.Ev.bind t0 (B.Ev.bind t1 (B.Ev.bind t2 (B.Ev.bind (evTop' _ _ d i r m0 m1 (by omega) (by omega) (by omega)) ?_)))))))
  simp only [↓reduceIte]
  refine B.Ev.bind t0 (B.Ev.bind (B.Ev.of _ (fun k hk => eqNodeS _ m0 k hk)) ?_)
  simp only [↓reduceIte]
  refine B.Ev.bind t1 (B.Ev.bind (B.Ev.of _ (fun k hk => eqNodeS _ m1 k hk)) ?_)
  simp only [↓reduceIte]
  refine B.Ev.bind t2 (B.Ev.bind (B.Ev.of _ (fun k hk => eqCost d i r (by omega) (by omega) (by omega) k hk)) ?_)
  simp only [↓reduceIte]
  exact B.Ev.pure _
end Go.Proofs.Ytockkelkdimehaa.Pure
