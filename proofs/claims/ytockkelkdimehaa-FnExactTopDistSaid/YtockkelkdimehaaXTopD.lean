/- TopDist, by the specification and by the program: -1 for what is no tree or no cost, else the distance of the two roots. -/
import Derived.Test.YtockkelkdimehaaXTDSpec2
import Derived.Test.YtockkelkdimehaaXTDImpl2
import Derived.Test.YtockkelkdimehaaXNodes
import Derived.Test.YtockkelkdimehaaG24
import Derived.Test.YtockkelkdimehaaG52
import Derived.Test.YtockkelkdimehaaG58
import Derived.Test.YtockkelkdimehaaG88
namespace Go.Proofs.Ytockkelkdimehaa.X
open Go Go.RowKit Go.Proofs.YtockkelkdimehaaW.PrintWords Go.Proofs.YtockkelkdimehaaW.PrintLast Go.Proofs.YtockkelkdimehaaW.PrintMore Go.Proofs.Ytockkelkdimehaa.P
def top (a b : List S59) (d i r : List Int) : Int := if okT a = true ∧ okT b = true ∧ okC d i r = true then gN a b d i r 0 0 else -1
theorem evTop (a b : List S59) (d i r : List Int) (ha : a.length ≤ 4194304) (hb : b.length ≤ 4194304) (hd : d.length ≤ 4194304) (hi : i.length ≤ 4194304) (hr : r.length ≤ 4194304) : B.Ev (fun k => spec_TopDist.f k a b d i r) (top a b d i r) := by
  simp only [spec_TopDist.f, spec_l8Three.f]
  refine B.Ev.bind (a := decide (okT a = true ∧ okT b = true ∧ okC d i r = true)) ?_ ?_
  · refine B.Ev.bind (B.Ev.of _ (fun k hk => specTreeOk a ha k hk)) ?_
    refine B.Ev.ite (fun h => ?_) (fun h => ?_)
    · refine B.Ev.bind (B.Ev.of _ (fun k hk => specTreeOk b hb k hk)) ?_
      refine B.Ev.ite (fun h2 => ?_) (fun h2 => ?_)
      · refine B.Ev.bind (B.Ev.of _ (fun k hk => specCostOk d i r hd hi hr k hk)) ?_
        exact (B.Ev.pure _).eq (by simp [h, h2])
      · exact (B.Ev.pure _).eq (by simp [h2])
    · exact (B.Ev.pure _).eq (by simp [h])
  · unfold top
    refine B.Ev.ite (fun h => ?_) (fun h => ?_)
    · have h := of_decide_eq_true h
      rw [if_pos h]
      have la := (okT_len h.1).1
      have lb := (okT_len h.2.1).1
      exact B.Ev.bind (evDistS h.1 h.2.1 hd hi hr a.length 0 0 (by omega) (by omega) (by omega)) (B.Ev.pure _)
    · exact (B.Ev.pure _).eq (by rw [if_neg (fun q => h (decide_eq_true q))])
theorem evTop' (a b : List S59) (d i r : List Int) (ha : a.length ≤ 4194304) (hb : b.length ≤ 4194304) (hd : d.length ≤ 4194304) (hi : i.length ≤ 4194304) (hr : r.length ≤ 4194304) : B.Ev (fun k => impl_TopDist.f k a b d i r) (top a b d i r) := by
  simp only [impl_TopDist.f]
  refine B.Ev.bind (a := (a, b, d, i, r, 1, decide (okT a = true ∧ okT b = true ∧ okC d i r = true))) ?_ ?_
  · simp only [impl_topdownOf.f]
    refine B.Ev.bind (B.Ev.of _ (fun k hk => implTreeOk a ha k hk)) ?_
    refine B.Ev.ite (fun h => ?_) (fun h => ?_)
    · refine B.Ev.bind (B.Ev.of _ (fun k hk => implTreeOk b hb k hk)) ?_
      refine B.Ev.ite (fun h2 => ?_) (fun h2 => ?_)
      · refine B.Ev.bind (B.Ev.of _ (fun k hk => implCostOk d i r hd hi hr k hk)) ?_
        exact (B.Ev.pure _).eq (by simp [h, h2])
      · exact (B.Ev.pure _).eq (by simp [h2])
    · exact (B.Ev.pure _).eq (by simp [h])
  · unfold top
    refine B.Ev.ite (fun h => ?_) (fun h => ?_)
    · have h := of_decide_eq_true h
      rw [if_pos h]
      have la := (okT_len h.1).1
      have lb := (okT_len h.2.1).1
      exact evDistI h.1 h.2.1 hd hi hr 1 a.length 0 0 (by omega) (by omega) (by omega)
    · exact (B.Ev.pure _).eq (by rw [if_neg (fun q => h (decide_eq_true q))])
end Go.Proofs.Ytockkelkdimehaa.X
