/- The costs where each change costs 1, as lists. -/
import Derived.Test.YtekpggmnnfjphaaXEvP
import Derived.Test.YtekpggmnnfjphaaXCostOk
import Derived.Test.YtekpggmnnfjphaaG58
namespace Go.Proofs.Ytekpggmnnfjphaa.X
open Go Go.RowKit Go.Proofs.YtekpggmnnfjphaaW.PrintWords Go.Proofs.YtekpggmnnfjphaaW.PrintLast Go.Proofs.YtekpggmnnfjphaaW.PrintMore Go.Proofs.Ytekpggmnnfjphaa.P
def u6 : List Int := [1, 1, 1, 1, 1, 1]
def u36 : List Int := [0, 1, 1, 1, 1, 1, 1, 0, 1, 1, 1, 1, 1, 1, 0, 1, 1, 1, 1, 1, 1, 0, 1, 1, 1, 1, 1, 1, 0, 1, 1, 1, 1, 1, 1, 0]
theorem evUnit : B.Ev (fun k => spec_UnitCost.f k) (u6, u6, u36) := by
  refine B.Ev.of_mono (k := 60) (fun k r h => spec_UnitCost.mono k r h) ?_
  decide +kernel
theorem u6_get {x : Nat} (h : x ≤ 5) : u6.getD x 0 = 1 := by
  obtain rfl | rfl | rfl | rfl | rfl | rfl : x = 0 ∨ x = 1 ∨ x = 2 ∨ x = 3 ∨ x = 4 ∨ x = 5 := by omega
  all_goals rfl
theorem u36_get {x y : Nat} (hx : x ≤ 5) (hy : y ≤ 5) : u36.getD (x * 6 + y) 0 = if x = y then 0 else 1 := by
  obtain rfl | rfl | rfl | rfl | rfl | rfl : x = 0 ∨ x = 1 ∨ x = 2 ∨ x = 3 ∨ x = 4 ∨ x = 5 := by omega
  all_goals
    obtain rfl | rfl | rfl | rfl | rfl | rfl : y = 0 ∨ y = 1 ∨ y = 2 ∨ y = 3 ∨ y = 4 ∨ y = 5 := by omega
    all_goals rfl
theorem okC_unit : okC u6 u6 u36 = true := by decide
end Go.Proofs.Ytekpggmnnfjphaa.X
