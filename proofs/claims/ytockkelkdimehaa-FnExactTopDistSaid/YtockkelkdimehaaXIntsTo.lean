/- What the laws' helper that copies a list of whole numbers does. -/
import Derived.Test.YtockkelkdimehaaXRd
import Derived.Test.YtockkelkdimehaaXIntsEq
import Derived.Test.YtockkelkdimehaaG43
namespace Go.Proofs.Ytockkelkdimehaa.X
open Go Go.RowKit Go.Proofs.YtockkelkdimehaaW.PrintWords Go.Proofs.YtockkelkdimehaaW.PrintLast Go.Proofs.YtockkelkdimehaaW.PrintMore Go.Proofs.Ytockkelkdimehaa.P

theorem toIntS (l : List Int) (hl : l.length ≤ 4194304) (k : Nat) (hk : l.length < k) : laws_toIntS.f k l = some l := by
  unfold laws_toIntS.f
  rw [if_pos (by omega), if_pos (by omega), Int.toNat_natCast]
  have h := B.loop (fun k i => laws_toIntS.l0 k l (B.filled l id 0 i) (i : Int)) l.length (fun _ => some l)
    (fun k => by simp only [laws_toIntS.l0]; rw [if_neg (by omega), B.filled_all, List.map_id])
    (fun k i hi ih => by
      have a1 : (i : Int) < (l.length : Int) := by omega
      have a2 : (i : Int) < ((B.filled l id 0 i).length : Int) := by rw [B.filled_length _ _ _ (by omega)]; omega
      have a3 : 0 ≤ (i : Int) := by omega
      simp only [laws_toIntS.l0, a1, a2, a3, ↓reduceIte, B.wsucc (show i < 9223372036854775807 by omega), Int.toNat_natCast, rdInt]
      rw [← B.filled_set l id 0 hi] at ih
      rw [B.getD_lt hi]
      exact ih) k 0 (by omega) (by omega)
  rw [B.filled_zero] at h
  exact h
end Go.Proofs.Ytockkelkdimehaa.X
