/- Whether two queries are the same: the reference's and the program's. -/
import Derived.Test.YtfdaifgfnpjoaaaDoorXPicks
import Derived.Test.YtfdaifgfnpjoaaaDoorXEv
import Derived.Test.YtfdaifgfnpjoaaaDoorG14
namespace Go.Proofs.YtfdaifgfnpjoaaaDoor.X
open Go Go.RowKit Go.Proofs.YtfdaifgfnpjoaaaDoorW.PrintWords Go.Proofs.YtfdaifgfnpjoaaaDoorW.PrintLast Go.Proofs.YtfdaifgfnpjoaaaDoorW.PrintMore Go.Proofs.YtfdaifgfnpjoaaaDoor.P
def sameQ (a b : List S40) : Nat → Bool
  | 0 => true
  | d + 1 => if (!(((rd_T40 a ((a.length - (d + 1) : Nat) : Int)).f0) == ((rd_T40 b ((a.length - (d + 1) : Nat) : Int)).f0)) || (!(((rd_T40 a ((a.length - (d + 1) : Nat) : Int)).f1) == ((rd_T40 b ((a.length - (d + 1) : Nat) : Int)).f1)))) = true then false else sameQ a b d
def sameQs (a b : List S40) : Bool := if (a.length : Int) = (b.length : Int) then sameQ a b a.length else false
theorem evSameQ (a b : List S40) (ha : a.length ≤ 4194304) : B.Ev (fun k => spec_SameQuery.f k a b) (sameQs a b) := by
  simp only [spec_SameQuery.f]
  unfold sameQs
  refine B.Ev.ite (fun c => ?_) (fun c => ?_)
  · rw [if_pos c]
    have key : ∀ d i : Nat, i + d = a.length → B.Ev (fun k => spec_SameQuery.l0 k a b (i : Int)) (sameQ a b d) := by
      intro d
      induction d with
      | zero =>
        intro i hi
        refine B.Ev.succ ?_
        simp only [spec_SameQuery.l0, show ¬ ((i : Int) < (a.length : Int)) by omega, ↓reduceIte]
        exact B.Ev.pure _
      | succ d ih =>
        intro i hi
        obtain rfl : i = a.length - (d + 1) := by omega
        refine B.Ev.succ ?_
        simp only [spec_SameQuery.l0, sameQ, show ((a.length - (d + 1) : Nat) : Int) < (a.length : Int) by omega, show ((a.length - (d + 1) : Nat) : Int) < (b.length : Int) by omega, show 0 ≤ ((a.length - (d + 1) : Nat) : Int) by omega, ↓reduceIte, B.wsucc (show a.length - (d + 1) < 9223372036854775807 by omega)]
        refine B.Ev.ite (fun c => ?_) (fun c => ?_)
        · rw [if_pos c]; exact B.Ev.pure _
        · rw [if_neg c]; exact ih _ (by omega)
    exact key _ 0 (by omega)
  · rw [if_neg c]; exact B.Ev.pure _
theorem evSameQ' (a b : List S40) (ha : a.length ≤ 4194304) : B.Ev (fun k => impl_SameQuery.f k a b) (sameQs a b) := by
  simp only [impl_SameQuery.f]
  refine B.Ev.bind (a := sameQs a b) ?_ (B.Ev.pure _)
  simp only [impl_Pick_38.f]
  unfold sameQs
  refine B.Ev.ite (fun c => ?_) (fun c => ?_)
  · rw [if_pos c]
    have key : ∀ d i : Nat, i + d = a.length → B.Ev (fun k => impl_Pick_38.l0 k a b (a.length : Int) (i : Int)) (sameQ a b d) := by
      intro d
      induction d with
      | zero =>
        intro i hi
        refine B.Ev.succ ?_
        simp only [impl_Pick_38.l0, show ¬ ((i : Int) < (a.length : Int)) by omega, ↓reduceIte]
        exact B.Ev.pure _
      | succ d ih =>
        intro i hi
        obtain rfl : i = a.length - (d + 1) := by omega
        refine B.Ev.succ ?_
        simp only [impl_Pick_38.l0, sameQ, show ((a.length - (d + 1) : Nat) : Int) < (a.length : Int) by omega, show ((a.length - (d + 1) : Nat) : Int) < (b.length : Int) by omega, show 0 ≤ ((a.length - (d + 1) : Nat) : Int) by omega, ↓reduceIte, B.wsucc (show a.length - (d + 1) < 9223372036854775807 by omega)]
        refine B.Ev.ite (fun c => ?_) (fun c => ?_)
        · rw [if_pos c]; exact B.Ev.pure _
        · rw [if_neg c]; exact ih _ (by omega)
    exact key _ 0 (by omega)
  · rw [if_neg c]; exact B.Ev.pure _
theorem sameQs_self (a : List S40) : sameQs a a = true := by
  unfold sameQs
  rw [if_pos rfl]
  have key : ∀ d, sameQ a a d = true := by
    intro d
    induction d with
    | zero => rfl
    | succ d ih => simp [sameQ, ih]
  exact key _
end Go.Proofs.YtfdaifgfnpjoaaaDoor.X
