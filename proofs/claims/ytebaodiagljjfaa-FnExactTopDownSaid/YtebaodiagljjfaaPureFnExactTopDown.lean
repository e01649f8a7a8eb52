/- The law FnExactTopDown, as a statement over numbers and lists: for any two lists of nodes and any list of pairs the law's function answers true. -/
import Derived.Test.YtebaodiagljjfaaXTDown
import Derived.Test.YtebaodiagljjfaaXPairs
import Derived.Test.YtebaodiagljjfaaXNodes
import Derived.Test.YtebaodiagljjfaaStFnExactTopDown
namespace Go.Proofs.Ytebaodiagljjfaa.Pure
open Go Go.RowKit Go.Proofs.YtebaodiagljjfaaW.PrintWords Go.Proofs.YtebaodiagljjfaaW.PrintLast Go.Proofs.YtebaodiagljjfaaW.PrintMore Go.Proofs.Ytebaodiagljjfaa.P Go.Proofs.Ytebaodiagljjfaa.X
theorem FnExactTopDown : fnExactTopDown.Pure := by
  intro l0 l1 l2 h0 h1 h2
  apply B.Ev.ex
  simp only [laws_FnExactTopDown.f]
  rw [szNodeS l0 _ (by omega) (by omega) h0.1]
  simp only [Option.bind_some]
  by_cases hs : (1048576 : Int) < (l0.length : Int)
  · simp only [hs, ↓reduceIte, show (-1 : Int) < 0 by decide]
    exact B.Ev.pure _
  simp only [hs, ↓reduceIte, show ¬ ((1048576 : Int) - (l0.length : Int) < 0) by omega]
  rw [szNodeS l1 _ (by omega) (by omega) h1.1]
  simp only [Option.bind_some]
  by_cases hs1 : (1048576 : Int) - (l0.length : Int) < (l1.length : Int)
  · simp only [hs1, ↓reduceIte, show (-1 : Int) < 0 by decide]
    exact B.Ev.pure _
  simp only [hs1, ↓reduceIte, show ¬ ((1048576 : Int) - (l0.length : Int) - (l1.length : Int) < 0) by omega]
  rw [szPairS l2 _ (by omega) (by omega) h2.1]
  simp only [Option.bind_some]
  by_cases hs2 : (1048576 : Int) - (l0.length : Int) - (l1.length : Int) < (l2.length : Int)
  · simp only [hs2, ↓reduceIte, show (-1 : Int) < 0 by decide]
    exact B.Ev.pure _
  simp only [hs2, ↓reduceIte, show ¬ ((1048576 : Int) - (l0.length : Int) - (l1.length : Int) - (l2.length : Int) < 0) by omega]
  have m0 : (l0.map nd).length ≤ 4194304 := by rw [List.length_map]; omega
  have m1 : (l1.map nd).length ≤ 4194304 := by rw [List.length_map]; omega
  have m2 : (l2.map pd).length ≤ 4194304 := by rw [List.length_map]; omega
  have t0 : B.Ev (fun k => laws_toNodeS.f k l0) (l0.map nd) := B.Ev.of _ (fun k hk => toNodeS l0 (by omega) k hk)
  have t1 : B.Ev (fun k => laws_toNodeS.f k l1) (l1.map nd) := B.Ev.of _ (fun k hk => toNodeS l1 (by omega) k hk)
  have t2 : B.Ev (fun k => laws_toPairS.f k l2) (l2.map pd) := B.Ev.of _ (fun k hk => toPairS l2 (by omega) k hk)
  refine B.Ev.bind t0 (B.Ev.bind t1 (B.Ev.bind t2 (B.Ev.bind (evTD _ _ _ m0 m1 m2) (B.Ev.bind t0 (B.Ev.bind t1 (B.Ev.bind t2 (B.Ev.bind (evTD' _ _ _ m0 m1 m2) ?_)))))))
  simp only [bne_self_eq_false, Bool.false_eq_true, ↓reduceIte]
  refine B.Ev.bind t0 (B.Ev.bind (B.Ev.of _ (fun k hk => eqNodeS _ m0 k hk)) ?_)
  simp only [↓reduceIte]
  refine B.Ev.bind t1 (B.Ev.bind (B.Ev.of _ (fun k hk => eqNodeS _ m1 k hk)) ?_)
  simp only [↓reduceIte]
  refine B.Ev.bind t2 (B.Ev.bind (B.Ev.of _ (fun k hk => eqPairS _ m2 k hk)) ?_)
  simp only [↓reduceIte]
  exact B.Ev.pure _
end Go.Proofs.Ytebaodiagljjfaa.Pure
