/- Reading a list of whole numbers. -/
import Derived.Test.YtfdaifgfnpjoaaaDoorXBase
import Derived.Test.YtfdaifgfnpjoaaaDoorP0
namespace Go.Proofs.YtfdaifgfnpjoaaaDoor.X
open Go Go.RowKit Go.Proofs.YtfdaifgfnpjoaaaDoorW.PrintWords Go.Proofs.YtfdaifgfnpjoaaaDoorW.PrintLast Go.Proofs.YtfdaifgfnpjoaaaDoorW.PrintMore Go.Proofs.YtfdaifgfnpjoaaaDoor.P
theorem rdInt {xs : List Int} {i : Nat} : rd xs (i : Int) = xs.getD i 0 := by unfold rd; rw [Int.toNat_natCast]
end Go.Proofs.YtfdaifgfnpjoaaaDoor.X
