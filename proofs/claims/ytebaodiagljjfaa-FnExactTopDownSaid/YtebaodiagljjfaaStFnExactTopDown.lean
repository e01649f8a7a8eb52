/- What is left of the law FnExactTopDown: a statement over numbers and lists. -/
import Derived.Test.YtebaodiagljjfaaG71
import Derived.Test.YtebaodiagljjfaaOpen
namespace Go.Proofs.Ytebaodiagljjfaa.fnExactTopDown
open Go.RowKit Go.Proofs.YtebaodiagljjfaaW.PrintWords Go.Proofs.YtebaodiagljjfaaW.PrintLast Go.Proofs.YtebaodiagljjfaaW.PrintMore Go.Proofs.Ytebaodiagljjfaa.P
def Ok59 (x : S59) : Prop := Opn.I64 x.f0 ∧ Opn.I64 x.f1
def Ok66 (x : S66) : Prop := Opn.I64 x.f0 ∧ Opn.I64 x.f1
def Pure : Prop := ∀ (l0 : (List S59)) (l1 : (List S59)) (l2 : (List S66)), ((l0.length ≤ maxLen ∧ ∀ x ∈ l0, Ok59 x)) → ((l1.length ≤ maxLen ∧ ∀ x ∈ l1, Ok59 x)) → ((l2.length ≤ maxLen ∧ ∀ x ∈ l2, Ok66 x)) → ∃ k, laws_FnExactTopDown.f k l0 l1 l2 = some true
end Go.Proofs.Ytebaodiagljjfaa.fnExactTopDown
