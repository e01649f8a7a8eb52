/- What the laws' comparison of two lists of whole numbers does. -/
import Derived.Test.YtockkelkdimehaaXRd
import Derived.Test.YtockkelkdimehaaG9
namespace Go.Proofs.Ytockkelkdimehaa.X
open Go Go.RowKit Go.Proofs.YtockkelkdimehaaW.PrintWords Go.Proofs.YtockkelkdimehaaW.PrintLast Go.Proofs.YtockkelkdimehaaW.PrintMore Go.Proofs.Ytockkelkdimehaa.P
theorem eqIntS (l : List Int) (hl : l.length ≤ 4194304) (k : Nat) (hk : l.length < k) : laws_eqIntS.f k l l = some true := by
  unfold laws_eqIntS.f
  rw [if_pos rfl]
  exact B.loop (fun k i => laws_eqIntS.l0 k l l (i : Int)) l.length (fun _ => some true)
    (fun k => by simp only [laws_eqIntS.l0]; rw [if_neg (by omega)])
    (fun k i hi ih => by
      have a1 : (i : Int) < (l.length : Int) := by omega
      have a3 : 0 ≤ (i : Int) := by omega
      simp only [laws_eqIntS.l0, a1, a3, ↓reduceIte, B.wsucc (show i < 9223372036854775807 by omega)]
      exact ih) k 0 (by omega) (by omega)
end Go.Proofs.Ytockkelkdimehaa.X
