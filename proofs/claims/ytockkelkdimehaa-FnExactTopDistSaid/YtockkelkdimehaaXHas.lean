/- Whether a tree has a node, by the program. -/
import Derived.Test.YtockkelkdimehaaXEnd
import Derived.Test.YtockkelkdimehaaG52
namespace Go.Proofs.Ytockkelkdimehaa.X
open Go Go.RowKit Go.Proofs.YtockkelkdimehaaW.PrintWords Go.Proofs.YtockkelkdimehaaW.PrintLast Go.Proofs.YtockkelkdimehaaW.PrintMore Go.Proofs.Ytockkelkdimehaa.P
theorem evHas (l : List S59) (hl : l.length ≤ 4194304) (i : Int) : B.Ev (fun k => impl_hasNode.f k l i) (isAt l i) := by
  simp only [impl_hasNode.f]
  refine B.Ev.bind (B.Ev.of _ (fun k hk => implTreeOk l hl k hk)) ?_
  have e : wrap64 ((l.length : Int) - 1) = (l.length : Int) - 1 := B.wid (by omega) (by omega)
  simp only [within, e, Option.bind_some]
  refine B.Ev.ite (fun h => ?_) (fun h => ?_)
  · exact (B.Ev.pure _).eq (by simp [isAt, h])
  · exact (B.Ev.pure _).eq (by simp [isAt, h])
--fi
end Go.Proofs.Ytockkelkdimehaa.X
