/- Reading a list of whole numbers. -/
import Derived.Test.YtekpggmnnfjphaaXBase
import Derived.Test.YtekpggmnnfjphaaP0
namespace Go.Proofs.Ytekpggmnnfjphaa.X
open Go Go.RowKit Go.Proofs.YtekpggmnnfjphaaW.PrintWords Go.Proofs.YtekpggmnnfjphaaW.PrintLast Go.Proofs.YtekpggmnnfjphaaW.PrintMore Go.Proofs.Ytekpggmnnfjphaa.P
theorem rdInt {xs : List Int} {i : Nat} : rd xs (i : Int) = xs.getD i 0 := by unfold rd; rw [Int.toNat_natCast]
end Go.Proofs.Ytekpggmnnfjphaa.X
