/- The law FnExactSelect, as a statement over numbers and lists: for any list of nodes and any list of picks the law's function answers true. -/
import Derived.Test.YtekpggmnnfjphaaXSelImpl
import Derived.Test.YtekpggmnnfjphaaXNodes
import Derived.Test.YtekpggmnnfjphaaXNodesMark
import Derived.Test.YtekpggmnnfjphaaXPicksMark
import Derived.Test.YtekpggmnnfjphaaStFnExactSelect
namespace Go.Proofs.Ytekpggmnnfjphaa.Pure
open Go Go.RowKit Go.Proofs.YtekpggmnnfjphaaW.PrintWords Go.Proofs.YtekpggmnnfjphaaW.PrintLast Go.Proofs.YtekpggmnnfjphaaW.PrintMore Go.Proofs.Ytekpggmnnfjphaa.P Go.Proofs.Ytekpggmnnfjphaa.X
theorem FnExactSelect : fnExactSelect.Pure := by
  intro l0 l1 h0 h1
  apply B.Ev.ex
  simp only [laws_FnExactSelect.f]
  rw [szNodeS l0 _ (by omega) (by omega) h0.1]
  simp only [Option.bind_some]
  by_cases hs : (1048576 : Int) < (l0.length : Int)
  · simp only [hs, ↓reduceIte, show (-1 : Int) < 0 by decide]
    exact B.Ev.pure _
  simp only [hs, ↓reduceIte, show ¬ ((1048576 : Int) - (l0.length : Int) < 0) by omega]
  rw [szPickS l1 _ (by omega) (by omega) h1.1]
  simp only [Option.bind_some]
  by_cases hs1 : (1048576 : Int) - (l0.length : Int) < (l1.length : Int)
  · simp only [hs1, ↓reduceIte, show (-1 : Int) < 0 by decide]
    exact B.Ev.pure _
  simp only [hs1, ↓reduceIte, show ¬ ((1048576 : Int) - (l0.length : Int) - (l1.length : Int) < 0) by omega]
  have m0 : (l0.map nd).length ≤ 1048576 := by rw [List.length_map]; omega
  have m1 : (l1.map pk).length ≤ 1048576 := by rw [List.length_map]; omega
  have t0 : B.Ev (fun k => laws_toNodeS.f k l0) (l0.map nd) := B.Ev.of _ (fun k hk => toNodeS l0 (by omega) k hk)
  have t1 : B.Ev (fun k => laws_toPickS.f k l1) (l1.map pk) := B.Ev.of _ (fun k hk => toPickS l1 (by omega) k hk)
  have sl := sel_length (l0.map nd) (l1.map pk)
  have es := evSel (l0.map nd) (l1.map pk) (by omega) (by omega)
  have ei := evSel' (l0.map nd) (l1.map pk) (by omega) (by omega)
  generalize sel (l0.map nd) (l1.map pk) = s at sl es ei
  have q : B.Ev (fun k => laws_eqIntS.f k s s) true := B.Ev.of _ (fun k hk => eqIntS s (by omega) k hk)
  refine B.Ev.bind t0 (B.Ev.bind t1 (B.Ev.bind es (B.Ev.bind t0 (B.Ev.bind t1 (B.Ev.bind ei (B.Ev.bind q ?_))))))
  simp only [↓reduceIte]
  refine B.Ev.bind t0 (B.Ev.bind (B.Ev.of _ (fun k hk => eqNodeS _ (by omega) k hk)) ?_)
  simp only [↓reduceIte]
  refine B.Ev.bind t1 (B.Ev.bind (B.Ev.of _ (fun k hk => eqPickS _ (by omega) k hk)) ?_)
  simp only [↓reduceIte]
  obtain ⟨v0, e0, ev0⟩ := evMarkN (l0.map nd) 1 (by omega) (by omega) (by omega)
  refine B.Ev.bind ev0 ?_
  obtain ⟨v1, e1, ev1⟩ := evMarkPk (l1.map pk) v0.1 (by omega) (by omega) (by omega)
  refine B.Ev.bind ev1 ?_
  simp only [show ¬ v1.1 < 0 by omega, ↓reduceIte]
  refine B.Ev.bind q ?_
  refine B.Ev.succ ?_
  simp only [laws_FnExactSelect.j0, Bool.not_true, Bool.false_eq_true, ↓reduceIte]
  refine B.Ev.bind (B.Ev.of _ (fun k hk => markIntS s 1 (by omega) (by omega) (by omega) k hk)) ?_
  have hh : B.Ev (fun k => laws_heldIntS.f k (B.run 1 s.length) 1) (1 + (s.length : Int)) := B.Ev.of _ (fun k hk => heldIntS 1 s.length (by omega) (by omega) (by omega) k hk)
  refine B.Ev.bind hh ?_
  simp only [show ¬ (1 + (s.length : Int) < 0) by omega, ↓reduceIte]
  refine B.Ev.bind t0 (B.Ev.bind t1 (B.Ev.bind ei (B.Ev.bind q ?_)))
  simp only [↓reduceIte]
  refine B.Ev.bind hh ?_
  simp only [show ¬ (1 + (s.length : Int) < 0) by omega, ↓reduceIte]
  exact B.Ev.pure _
end Go.Proofs.Ytekpggmnnfjphaa.Pure
