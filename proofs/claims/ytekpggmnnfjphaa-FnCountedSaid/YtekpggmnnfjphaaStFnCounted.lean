/- What is left of the law FnCounted: a statement over numbers and lists. -/
import Derived.Test.YtekpggmnnfjphaaG10
import Derived.Test.YtekpggmnnfjphaaOpen
namespace Go.Proofs.Ytekpggmnnfjphaa.fnCounted
open Go.RowKit Go.Proofs.YtekpggmnnfjphaaW.PrintWords Go.Proofs.YtekpggmnnfjphaaW.PrintLast Go.Proofs.YtekpggmnnfjphaaW.PrintMore Go.Proofs.Ytekpggmnnfjphaa.P
def Pure : Prop := ∀ (l0 : (List Int)), ((l0.length ≤ maxLen ∧ ∀ x ∈ l0, (Lit.int .u8 x).wf = true)) → ∃ k, laws_FnCounted.f k l0 = some true
end Go.Proofs.Ytekpggmnnfjphaa.fnCounted
