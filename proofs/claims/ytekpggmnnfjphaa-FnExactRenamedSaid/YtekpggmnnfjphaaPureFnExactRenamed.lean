/- The law FnExactRenamed, as a statement over numbers and lists: for any two lists of nodes the law's function answers true. -/
import Derived.Test.YtekpggmnnfjphaaXPath
import Derived.Test.YtekpggmnnfjphaaXShape
import Derived.Test.YtekpggmnnfjphaaXOps
import Derived.Test.YtekpggmnnfjphaaXNodes
import Derived.Test.YtekpggmnnfjphaaXNodesMark
import Derived.Test.YtekpggmnnfjphaaG115
import Derived.Test.YtekpggmnnfjphaaStFnExactRenamed
namespace Go.Proofs.Ytekpggmnnfjphaa.Pure
open Go Go.RowKit Go.Proofs.YtekpggmnnfjphaaW.PrintWords Go.Proofs.YtekpggmnnfjphaaW.PrintLast Go.Proofs.YtekpggmnnfjphaaW.PrintMore Go.Proofs.Ytekpggmnnfjphaa.P Go.Proofs.Ytekpggmnnfjphaa.X
def renU (a b : List S48) (n : Nat) : List S98 := (List.range n).filterMap fun i => if lab a i = lab b i then none else some ⟨1, pathN a i, lab b i, 0, 0⟩
theorem renU_succ (a b : List S48) (n : Nat) : renU a b (n + 1) = renU a b n ++ if lab a n = lab b n then [] else [⟨1, pathN a n, lab b n, 0, 0⟩] := by
  unfold renU
  rw [List.range_succ, List.filterMap_append]
  congr 1
  by_cases c : lab a n = lab b n <;> simp [c]
theorem renU_len (a b : List S48) (n : Nat) : (renU a b n).length ≤ n := by
  unfold renU
  exact Nat.le_trans (List.length_filterMap_le _ _) (by simp)
theorem renU_in (a b : List S48) (n : Nat) (hn : n ≤ 1000) : OpsIn (renU a b n) := by
  refine ⟨Nat.le_trans (renU_len a b n) hn, fun x hx => ?_⟩
  unfold renU at hx
  obtain ⟨i, hi, e⟩ := List.mem_filterMap.1 hx
  have := List.mem_range.1 hi
  split at e
  · cases e
  · injection e with e
    subst e
    have := pathN_len a i
    show (pathN a i).length ≤ 1000
    omega
def ren (a b : List S48) : List S98 × Bool := if sameShape a b = true then (renU a b a.length, true) else ([], false)
theorem ren_in (a b : List S48) : OpsIn (ren a b).1 := by
  unfold ren
  split
  · rename_i h
    have ho : okT a = true := by unfold sameShape at h; simp at h; exact h.1
    exact renU_in a b _ (by have := okT_len ho; omega)
  · exact ⟨by simp, by simp⟩
theorem shape_parts {a b : List S48} (h : sameShape a b = true) : okT a = true ∧ b.length = a.length := by
  unfold sameShape at h
  simp only [Bool.and_eq_true, decide_eq_true_eq] at h
  refine ⟨h.1, ?_⟩
  have := congrArg List.length h.2.2
  simpa using this.symm
theorem evRen (a b : List S48) (ha : a.length ≤ 4194304) (hb : b.length ≤ 4194304) : B.Ev (fun k => spec_Renamed.f k a b) (ren a b) := by
  simp only [spec_Renamed.f, Option.bind_some]
  refine B.Ev.bind (B.Ev.of _ (fun k hk => specSameShape a b ha hb k hk)) ?_
  unfold ren
  refine B.Ev.ite (fun h => ?_) (fun h => ?_)
  · rw [if_pos h]
    obtain ⟨h1, h2⟩ := shape_parts h
    have hl := okT_len h1
    have e0 : ([] : List S98) = renU a b 0 := rfl
    rw [e0]
    refine B.Ev.loop (g := fun k j => spec_Renamed.l0 k a b (renU a b j) (j : Int)) a.length (fun _ => True) ?_ ?_ 0 (by omega) trivial
    · intro _
      refine B.Ev.succ ?_
      simp only [spec_Renamed.l0, Int.lt_irrefl, ↓reduceIte]
      exact B.Ev.pure _
    · intro j hj _ ih
      refine B.Ev.succ ?_
      have ih := ih trivial
      rw [renU_succ] at ih
      have lm := renU_len a b j
      simp only [spec_Renamed.l0, show (j : Int) < (a.length : Int) by omega, show (j : Int) < (b.length : Int) by omega, show 0 ≤ (j : Int) by omega, show (renU a b j).length < 2513169434916 by omega, ↓reduceIte, rdNode, B.wsucc (show j < 9223372036854775807 by omega)]
      by_cases c : lab a j = lab b j
      · have c' : (a.getD j z48).f0 = (b.getD j z48).f0 := c
        simp only [c', ↓reduceIte]
        simp only [c, ↓reduceIte, List.append_nil] at ih
        exact ih
      · have c' : ¬ (a.getD j z48).f0 = (b.getD j z48).f0 := c
        simp only [c', ↓reduceIte]
        simp only [c, ↓reduceIte] at ih
        exact B.Ev.bind (evPath h1 hj) ih
  · rw [if_neg h]
    exact B.Ev.pure _
theorem evRen' (a b : List S48) (ha : a.length ≤ 4194304) (hb : b.length ≤ 4194304) : B.Ev (fun k => impl_Renamed.f k a b) (ren a b) := by
  simp only [impl_Renamed.f, Option.bind_some]
  refine B.Ev.bind (B.Ev.of _ (fun k hk => implSameShape a b ha hb k hk)) ?_
  unfold ren
  refine B.Ev.ite (fun h => ?_) (fun h => ?_)
  · rw [if_pos h]
    obtain ⟨h1, h2⟩ := shape_parts h
    have hl := okT_len h1
    have e0 : ([] : List S98) = renU a b 0 := rfl
    rw [e0]
    refine B.Ev.loop (g := fun k j => impl_Renamed.l0 k a b (renU a b j) a (a.length : Int) (j : Int)) a.length (fun _ => True) ?_ ?_ 0 (by omega) trivial
    · intro _
      refine B.Ev.succ ?_
      simp only [impl_Renamed.l0, Int.lt_irrefl, ↓reduceIte]
      exact B.Ev.pure _
    · intro j hj _ ih
      refine B.Ev.succ ?_
      have ih := ih trivial
      rw [renU_succ] at ih
      have lm := renU_len a b j
      simp only [impl_Renamed.l0, show (j : Int) < (a.length : Int) by omega, show (j : Int) < (b.length : Int) by omega, show 0 ≤ (j : Int) by omega, show (renU a b j).length < 2513169434916 by omega, ↓reduceIte, rdNode, B.wsucc (show j < 9223372036854775807 by omega)]
      by_cases c : lab a j = lab b j
      · have c' : (a.getD j z48).f0 = (b.getD j z48).f0 := c
        simp only [c', ↓reduceIte]
        simp only [c, ↓reduceIte, List.append_nil] at ih
        exact ih
      · have c' : ¬ (a.getD j z48).f0 = (b.getD j z48).f0 := c
        simp only [c', ↓reduceIte]
        simp only [c, ↓reduceIte] at ih
        exact B.Ev.bind (evPath' h1 hj) ih
  · rw [if_neg h]
    exact B.Ev.pure _
theorem FnExactRenamed : fnExactRenamed.Pure := by
  intro l0 l1 h0 h1
  apply B.Ev.ex
  simp only [laws_FnExactRenamed.f]
  rw [szNodeS l0 _ (by omega) (by omega) h0.1]
  simp only [Option.bind_some]
  by_cases hs : (1048576 : Int) < (l0.length : Int)
  · simp only [hs, ↓reduceIte, show (-1 : Int) < 0 by decide]
    exact B.Ev.pure _
  simp only [hs, ↓reduceIte, show ¬ ((1048576 : Int) - (l0.length : Int) < 0) by omega]
  rw [szNodeS l1 _ (by omega) (by omega) h1.1]
  simp only [Option.bind_some]
  by_cases hs1 : (1048576 : Int) - (l0.length : Int) < (l1.length : Int)
  · simp only [hs1, ↓reduceIte, show (-1 : Int) < 0 by decide]
    exact B.Ev.pure _
  simp only [hs1, ↓reduceIte, show ¬ ((1048576 : Int) - (l0.length : Int) - (l1.length : Int) < 0) by omega]
  have m0 : (l0.map nd).length ≤ 1048576 := by rw [List.length_map]; omega
  have m1 : (l1.map nd).length ≤ 1048576 := by rw [List.length_map]; omega
  have t0 : B.Ev (fun k => laws_toNodeS.f k l0) (l0.map nd) := B.Ev.of _ (fun k hk => toNodeS l0 (by omega) k hk)
  have t1 : B.Ev (fun k => laws_toNodeS.f k l1) (l1.map nd) := B.Ev.of _ (fun k hk => toNodeS l1 (by omega) k hk)
  have es := evRen (l0.map nd) (l1.map nd) (by omega) (by omega)
  have ei := evRen' (l0.map nd) (l1.map nd) (by omega) (by omega)
  have ri := ren_in (l0.map nd) (l1.map nd)
  generalize ren (l0.map nd) (l1.map nd) = s at es ei ri
  have q := evEqOps s.1 ri
  have mb := omark_bound s.1 1 (by omega) ri.2
  refine B.Ev.bind t0 (B.Ev.bind t1 (B.Ev.bind es (B.Ev.bind t0 (B.Ev.bind t1 (B.Ev.bind ei (B.Ev.bind q ?_))))))
  simp only [↓reduceIte, bne_self_eq_false]
  refine B.Ev.succ ?_
  simp only [laws_FnExactRenamed.j0, Bool.false_eq_true, ↓reduceIte]
  refine B.Ev.bind t0 (B.Ev.bind (B.Ev.of _ (fun k hk => eqNodeS _ (by omega) k hk)) ?_)
  simp only [↓reduceIte]
  refine B.Ev.bind t1 (B.Ev.bind (B.Ev.of _ (fun k hk => eqNodeS _ (by omega) k hk)) ?_)
  simp only [↓reduceIte]
  obtain ⟨v0, e0, ev0⟩ := evMarkN (l0.map nd) 1 (by omega) (by omega) (by omega)
  refine B.Ev.bind ev0 ?_
  obtain ⟨v1, e1, ev1⟩ := evMarkN (l1.map nd) v0.1 (by omega) (by omega) (by omega)
  refine B.Ev.bind ev1 ?_
  simp only [show ¬ v1.1 < 0 by omega, ↓reduceIte]
  refine B.Ev.bind q ?_
  simp only [↓reduceIte, bne_self_eq_false]
  refine B.Ev.succ ?_
  simp only [laws_FnExactRenamed.j1, Bool.false_eq_true, ↓reduceIte]
  refine B.Ev.bind (evMarkOps s.1 ri) (B.Ev.bind (evHeldOps s.1 ri) ?_)
  simp only [show ¬ (omark s.1 1).2 < 0 by omega, ↓reduceIte]
  refine B.Ev.bind t0 (B.Ev.bind t1 (B.Ev.bind ei (B.Ev.bind q ?_)))
  simp only [↓reduceIte, bne_self_eq_false]
  refine B.Ev.succ ?_
  simp only [laws_FnExactRenamed.j2, Bool.false_eq_true, ↓reduceIte]
  refine B.Ev.bind (evHeldOps s.1 ri) ?_
  simp only [show ¬ (omark s.1 1).2 < 0 by omega, ↓reduceIte]
  exact B.Ev.pure _
end Go.Proofs.Ytekpggmnnfjphaa.Pure
