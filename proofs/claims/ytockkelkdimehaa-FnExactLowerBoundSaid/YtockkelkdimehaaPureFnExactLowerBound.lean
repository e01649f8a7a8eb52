/- The law FnExactLowerBound, as a statement over numbers and lists: for any two lists of nodes and any costs the law's function answers true. -/
import Derived.Test.YtockkelkdimehaaXPostLab
import Derived.Test.YtockkelkdimehaaXStr
import Derived.Test.YtockkelkdimehaaXPre
import Derived.Test.YtockkelkdimehaaXNodes
import Derived.Test.YtockkelkdimehaaG20
import Derived.Test.YtockkelkdimehaaG43
import Derived.Test.YtockkelkdimehaaStFnExactLowerBound
namespace Go.Proofs.Ytockkelkdimehaa.Pure
open Go Go.RowKit Go.Proofs.YtockkelkdimehaaW.PrintWords Go.Proofs.YtockkelkdimehaaW.PrintLast Go.Proofs.YtockkelkdimehaaW.PrintMore Go.Proofs.Ytockkelkdimehaa.P Go.Proofs.Ytockkelkdimehaa.X
def low (a b : List S59) (d i r : List Int) : Int := if okT a = true ∧ okT b = true ∧ okC d i r = true then mx (strDist (preLabels a) (preLabels b) d i r) (strDist (postLab a) (postLab b) d i r) else -1
theorem evLow (a b : List S59) (d i r : List Int) (ha : a.length ≤ 4194304) (hb : b.length ≤ 4194304) (hd : d.length ≤ 4194304) (hi : i.length ≤ 4194304) (hr : r.length ≤ 4194304) : B.Ev (fun k => spec_LowerBound.f k a b d i r) (low a b d i r) := by
  have la := preLabels_length a
  have lb := preLabels_length b
  have pa := postLab_len a
  have pb := postLab_len b
  simp only [spec_LowerBound.f, spec_l8Three.f]
  refine B.Ev.bind (a := decide (okT a = true ∧ okT b = true ∧ okC d i r = true)) ?_ ?_
  · refine B.Ev.bind (B.Ev.of _ (fun k hk => specTreeOk a ha k hk)) ?_
    refine B.Ev.ite (fun h => ?_) (fun h => ?_)
    · refine B.Ev.bind (B.Ev.of _ (fun k hk => specTreeOk b hb k hk)) ?_
      refine B.Ev.ite (fun h2 => ?_) (fun h2 => ?_)
      · refine B.Ev.bind (B.Ev.of _ (fun k hk => specCostOk d i r hd hi hr k hk)) ?_
        exact (B.Ev.pure _).eq (by simp [h, h2])
      · exact (B.Ev.pure _).eq (by simp [h2])
    · exact (B.Ev.pure _).eq (by simp [h])
  · unfold low
    refine B.Ev.ite (fun h => ?_) (fun h => ?_)
    · have h := of_decide_eq_true h
      rw [if_pos h]
      refine B.Ev.bind (B.Ev.of _ (fun k hk => specPreLabels a ha k hk)) (B.Ev.bind (B.Ev.of _ (fun k hk => specPreLabels b hb k hk)) (B.Ev.bind (B.Ev.of _ (fun k hk => specStrDist _ _ d i r (by omega) (by omega) hd hi hr k hk)) ?_))
      refine B.Ev.bind (evPostLab a ha) (B.Ev.bind (evPostLab b hb) (B.Ev.bind (B.Ev.of _ (fun k hk => specStrDist _ _ d i r (by omega) (by omega) hd hi hr k hk)) ?_))
      exact B.Ev.pure _
    · exact (B.Ev.pure _).eq (by rw [if_neg (fun q => h (decide_eq_true q))])
theorem evLow' (a b : List S59) (d i r : List Int) (ha : a.length ≤ 4194304) (hb : b.length ≤ 4194304) (hd : d.length ≤ 4194304) (hi : i.length ≤ 4194304) (hr : r.length ≤ 4194304) : B.Ev (fun k => impl_LowerBound.f k a b d i r) (low a b d i r) := by
  have la := preLabels_length a
  have lb := preLabels_length b
  have pa := postLab_len a
  have pb := postLab_len b
  have tail : ∀ q : Bool, q = !decide (okT a = true ∧ okT b = true) → B.Ev (fun k => impl_LowerBound.j0 k a b q d i r) (low a b d i r) := by
    rintro _ rfl
    refine B.Ev.succ ?_
    simp only [impl_LowerBound.j0]
    unfold low
    refine B.Ev.ite (fun h => ?_) (fun h => ?_)
    · exact (B.Ev.pure _).eq (by rw [if_neg (by intro q; simp [q.1, q.2.1] at h)])
    · have h2 : okT a = true ∧ okT b = true := by simpa using h
      refine B.Ev.bind (B.Ev.of _ (fun k hk => implPreLabels a ha k hk)) (B.Ev.bind (B.Ev.of _ (fun k hk => implPreLabels b hb k hk)) (B.Ev.bind (B.Ev.of _ (fun k hk => implStrDist _ _ d i r (by omega) (by omega) hd hi hr k hk)) ?_))
      refine B.Ev.bind (evPostLab' a ha) (B.Ev.bind (evPostLab' b hb) (B.Ev.bind (B.Ev.of _ (fun k hk => implStrDist _ _ d i r (by omega) (by omega) hd hi hr k hk)) ?_))
      refine (B.Ev.pure _).eq ?_
      by_cases c : okC d i r = true
      · rw [if_pos ⟨h2.1, h2.2, c⟩]
      · rw [if_neg (fun q => c q.2.2)]
        unfold strDist
        simp [c, mx]
  simp only [impl_LowerBound.f]
  refine B.Ev.bind (B.Ev.of _ (fun k hk => implTreeOk a ha k hk)) ?_
  refine B.Ev.ite (fun h => ?_) (fun h => ?_)
  · refine B.Ev.bind (B.Ev.of _ (fun k hk => implTreeOk b hb k hk)) ?_
    exact tail _ (by simp [h])
  · exact tail true (by simp [h])
theorem FnExactLowerBound : fnExactLowerBound.Pure := by
  intro l0 l1 d i r h0 h1 hd hi hr
  apply B.Ev.ex
  simp only [laws_FnExactLowerBound.f]
  rw [szNodeS l0 _ (by omega) (by omega) h0.1]
  simp only [Option.bind_some]
  by_cases hs : (1048576 : Int) < (l0.length : Int)
  · simp only [hs, ↓reduceIte, show (-1 : Int) < 0 by decide]
    exact B.Ev.pure _
  simp only [hs, ↓reduceIte, show ¬ ((1048576 : Int) - (l0.length : Int) < 0) by omega]
  rw [szNodeS l1 _ (by omega) (by omega) h1.1]
  simp only [Option.bind_some]
  by_cases hs1 : (1048576 : Int) - (l0.length : Int) < (l1.length : Int)
  · simp only [hs1, ↓reduceIte, show (-1 : Int) < 0 by decide]
    exact B.Ev.pure _
  simp only [hs1, ↓reduceIte, show ¬ ((1048576 : Int) - (l0.length : Int) - (l1.length : Int) < 0) by omega]
  rcases szCost d i r ((1048576 : Int) - (l0.length : Int) - (l1.length : Int)) (by omega) (by omega) hd.1 hi.1 hr.1 with hz | ⟨hz, hz0⟩
  · rw [hz]
    simp only [Option.bind_some, show (-1 : Int) < 0 by decide, ↓reduceIte]
    exact B.Ev.pure _
  rw [hz]
  simp only [Option.bind_some]
  have m0 : (l0.map nd).length ≤ 4194304 := by rw [List.length_map]; omega
  have m1 : (l1.map nd).length ≤ 4194304 := by rw [List.length_map]; omega
  have t0 : B.Ev (fun k => laws_toNodeS.f k l0) (l0.map nd) := B.Ev.of _ (fun k hk => toNodeS l0 (by omega) k hk)
  have t1 : B.Ev (fun k => laws_toNodeS.f k l1) (l1.map nd) := B.Ev.of _ (fun k hk => toNodeS l1 (by omega) k hk)
  have t2 : B.Ev (fun k => laws_toCost.f k d i r) (d, i, r) := B.Ev.of _ (fun k hk => toCost d i r (by omega) (by omega) (by omega) k hk)
  refine B.Ev.ite (fun h => absurd h (by omega)) (fun _ => ?_)
  refine B.Ev.bind t0 (B.Ev.bind t1 (B.Ev.bind t2 (B.Ev.bind (evLow _ _ d i r m0 m1 (by omega) (by omega) (by omega)) (B.Ev.bind t0 (B.Ev.bind t1 (B.Ev.bind t2 (B.Ev.bind (evLow' _ _ d i r m0 m1 (by omega) (by omega) (by omega)) ?_)))))))
  simp only [↓reduceIte]
  refine B.Ev.bind t0 (B.Ev.bind (B.Ev.of _ (fun k hk => eqNodeS _ m0 k hk)) ?_)
  simp only [↓reduceIte]
  refine B.Ev.bind t1 (B.Ev.bind (B.Ev.of _ (fun k hk => eqNodeS _ m1 k hk)) ?_)
  simp only [↓reduceIte]
  refine B.Ev.bind t2 (B.Ev.bind (B.Ev.of _ (fun k hk => eqCost d i r (by omega) (by omega) (by omega) k hk)) ?_)
  simp only [↓reduceIte]
  exact B.Ev.pure _
end Go.Proofs.Ytockkelkdimehaa.Pure
