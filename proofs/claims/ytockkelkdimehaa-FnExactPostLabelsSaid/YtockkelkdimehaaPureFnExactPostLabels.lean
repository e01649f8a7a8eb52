/- The law FnExactPostLabels, as a statement over numbers and lists: for any list of nodes the law's function answers true. -/
import Derived.Test.YtockkelkdimehaaXPostLab
import Derived.Test.YtockkelkdimehaaXInts
import Derived.Test.YtockkelkdimehaaXNodes
import Derived.Test.YtockkelkdimehaaXNodesMark
import Derived.Test.YtockkelkdimehaaStFnExactPostLabels
namespace Go.Proofs.Ytockkelkdimehaa.Pure
open Go Go.RowKit Go.Proofs.YtockkelkdimehaaW.PrintWords Go.Proofs.YtockkelkdimehaaW.PrintLast Go.Proofs.YtockkelkdimehaaW.PrintMore Go.Proofs.Ytockkelkdimehaa.P Go.Proofs.Ytockkelkdimehaa.X
theorem FnExactPostLabels : fnExactPostLabels.Pure := by
  intro l0 h0
  apply B.Ev.ex
  simp only [laws_FnExactPostLabels.f]
  rw [szNodeS l0 _ (by omega) (by omega) h0.1]
  simp only [Option.bind_some]
  by_cases hs : (1048576 : Int) < (l0.length : Int)
  · simp only [hs, ↓reduceIte, show (-1 : Int) < 0 by decide]
    exact B.Ev.pure _
  simp only [hs, ↓reduceIte, show ¬ ((1048576 : Int) - (l0.length : Int) < 0) by omega]
  have m0 : (l0.map nd).length ≤ 1048576 := by rw [List.length_map]; omega
  have t0 : B.Ev (fun k => laws_toNodeS.f k l0) (l0.map nd) := B.Ev.of _ (fun k hk => toNodeS l0 (by omega) k hk)
  have sl := postLab_len (l0.map nd)
  have es := evPostLab (l0.map nd) (by omega)
  have ei := evPostLab' (l0.map nd) (by omega)
  generalize postLab (l0.map nd) = s at sl es ei
  have q : B.Ev (fun k => laws_eqIntS.f k s s) true := B.Ev.of _ (fun k hk => eqIntS s (by omega) k hk)
  refine B.Ev.bind t0 (B.Ev.bind es (B.Ev.bind t0 (B.Ev.bind ei (B.Ev.bind q ?_))))
  simp only [↓reduceIte]
  refine B.Ev.bind t0 (B.Ev.bind (B.Ev.of _ (fun k hk => eqNodeS _ (by omega) k hk)) ?_)
  simp only [↓reduceIte]
  obtain ⟨v0, e0, ev0⟩ := evMarkN (l0.map nd) 1 (by omega) (by omega) (by omega)
  refine B.Ev.bind ev0 ?_
  simp only [show ¬ v0.1 < 0 by omega, ↓reduceIte]
  refine B.Ev.bind q ?_
  refine B.Ev.succ ?_
  simp only [laws_FnExactPostLabels.j0, Bool.not_true, Bool.false_eq_true, ↓reduceIte]
  refine B.Ev.bind (B.Ev.of _ (fun k hk => markIntS s 1 (by omega) (by omega) (by omega) k hk)) ?_
  have hh : B.Ev (fun k => laws_heldIntS.f k (B.run 1 s.length) 1) (1 + (s.length : Int)) := B.Ev.of _ (fun k hk => heldIntS 1 s.length (by omega) (by omega) (by omega) k hk)
  refine B.Ev.bind hh ?_
  simp only [show ¬ (1 + (s.length : Int) < 0) by omega, ↓reduceIte]
  refine B.Ev.bind t0 (B.Ev.bind ei (B.Ev.bind q ?_))
  simp only [↓reduceIte]
  refine B.Ev.bind hh ?_
  simp only [show ¬ (1 + (s.length : Int) < 0) by omega, ↓reduceIte]
  exact B.Ev.pure _
end Go.Proofs.Ytockkelkdimehaa.Pure
