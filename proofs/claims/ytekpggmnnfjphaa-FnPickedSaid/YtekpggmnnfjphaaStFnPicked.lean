/- What is left of the law FnPicked: a statement over numbers and lists. -/
import Derived.Test.YtekpggmnnfjphaaG6
import Derived.Test.YtekpggmnnfjphaaOpen
namespace Go.Proofs.Ytekpggmnnfjphaa.fnPicked
open Go.RowKit Go.Proofs.YtekpggmnnfjphaaW.PrintWords Go.Proofs.YtekpggmnnfjphaaW.PrintLast Go.Proofs.YtekpggmnnfjphaaW.PrintMore Go.Proofs.Ytekpggmnnfjphaa.P
def Pure : Prop := ∀ (l0 : (List Int)), ((l0.length ≤ maxLen ∧ ∀ x ∈ l0, (Lit.int .u8 x).wf = true)) → ∃ k, laws_FnPicked.f k l0 = some true
end Go.Proofs.Ytekpggmnnfjphaa.fnPicked
