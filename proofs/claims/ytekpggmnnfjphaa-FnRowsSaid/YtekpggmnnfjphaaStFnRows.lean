/- What is left of the law FnRows: a statement over numbers and lists. -/
import Derived.Test.YtekpggmnnfjphaaG4
import Derived.Test.YtekpggmnnfjphaaOpen
namespace Go.Proofs.Ytekpggmnnfjphaa.fnRows
open Go.RowKit Go.Proofs.YtekpggmnnfjphaaW.PrintWords Go.Proofs.YtekpggmnnfjphaaW.PrintLast Go.Proofs.YtekpggmnnfjphaaW.PrintMore Go.Proofs.Ytekpggmnnfjphaa.P
def Pure : Prop := ∀ (l0 : (List Int)), ((l0.length ≤ maxLen ∧ ∀ x ∈ l0, (Lit.int .u8 x).wf = true)) → ∃ k, laws_FnRows.f k l0 = some true
end Go.Proofs.Ytekpggmnnfjphaa.fnRows
