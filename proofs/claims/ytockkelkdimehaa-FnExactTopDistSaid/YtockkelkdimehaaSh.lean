/- Short names, for the printed texts alone. -/
import Derived.Test.YtockkelkdimehaaP0
namespace Go.Proofs.Ytockkelkdimehaa.P
abbrev tt : Bool := true
abbrev ff : Bool := false
abbrev bw (n m : Nat) : Array Bool := ((List.range n).map fun i => m.testBit i).toArray
abbrev pw (n i : Nat) : Array Bool := (List.replicate i true ++ List.replicate (n - i) false).toArray
theorem za {α : Type} (l : List α) (i : Nat) (a : α) : l.toArray.setIfInBounds i a = (l.set i a).toArray := List.setIfInBounds_toArray ..
theorem zb {α : Type} (x : α) (l : List α) (a : α) : (x :: l).set 0 a = a :: l := List.set_cons_zero ..
theorem zc {α : Type} (x : α) (l : List α) (n : Nat) (a : α) : (x :: l).set (n + 1) a = x :: l.set n a := List.set_cons_succ ..
end Go.Proofs.Ytockkelkdimehaa.P
