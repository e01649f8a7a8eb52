/- Drawn: a Bool. -/
import Derived.Test.YtfdaifgfnpjoaaaDoorXDraw
import Derived.Test.YtfdaifgfnpjoaaaDoorG10
namespace Go.Proofs.YtfdaifgfnpjoaaaDoor.X
open Go Go.RowKit Go.Proofs.YtfdaifgfnpjoaaaDoorW.PrintWords Go.Proofs.YtfdaifgfnpjoaaaDoorW.PrintLast Go.Proofs.YtfdaifgfnpjoaaaDoorW.PrintMore Go.Proofs.YtfdaifgfnpjoaaaDoor.P
theorem drOnce {b : List Int} (hb : b.length ≤ 4194304) {i : Int} (h : Int) (n : Int) (h0 : 0 ≤ i) (h1 : i ≤ (b.length : Int)) : B.EvP (fun _ => spec_l1Once.f b i h n) (B.Cu b fun _ => True) := by
  unfold spec_l1Once.f
  refine B.EvP.bind (drBelow hb h n h0 h1) ?_
  rintro ⟨v, i, h⟩ ⟨q, h0, h1⟩
  exact B.EvP.pure ⟨trivial, h0, h1⟩
end Go.Proofs.YtfdaifgfnpjoaaaDoor.X
