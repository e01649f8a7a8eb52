/- A list of picks equals itself, as the laws' helper tells it. -/
import Derived.Test.YtfdaifgfnpjoaaaDoorXPicks
import Derived.Test.YtfdaifgfnpjoaaaDoorG24
namespace Go.Proofs.YtfdaifgfnpjoaaaDoor.X
open Go Go.RowKit Go.Proofs.YtfdaifgfnpjoaaaDoorW.PrintWords Go.Proofs.YtfdaifgfnpjoaaaDoorW.PrintLast Go.Proofs.YtfdaifgfnpjoaaaDoorW.PrintMore Go.Proofs.YtfdaifgfnpjoaaaDoor.P
theorem eqPickS (l : List S40) (hl : l.length ≤ 4194304) (k : Nat) (hk : l.length < k) : laws_eqPickS.f k l l = some true := by
  unfold laws_eqPickS.f
  rw [if_pos rfl]
  exact B.loop (fun k i => laws_eqPickS.l0 k l l (i : Int)) l.length (fun _ => some true)
    (fun k => by simp only [laws_eqPickS.l0]; rw [if_neg (by omega)])
    (fun k i hi ih => by
      have a1 : (i : Int) < (l.length : Int) := by omega
      have a3 : 0 ≤ (i : Int) := by omega
      simp only [laws_eqPickS.l0, laws_eqPick.f, a1, a3, ↓reduceIte, B.wsucc (show i < 9223372036854775807 by omega)]
      simpa using ih) k 0 (by omega) (by omega)

end Go.Proofs.YtfdaifgfnpjoaaaDoor.X
