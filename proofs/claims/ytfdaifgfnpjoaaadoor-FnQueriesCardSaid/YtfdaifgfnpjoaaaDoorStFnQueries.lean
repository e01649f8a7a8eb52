/- What is left of the law FnQueries: a statement over numbers and lists. -/
import Derived.Test.YtfdaifgfnpjoaaaDoorG14
import Derived.Test.YtfdaifgfnpjoaaaDoorOpen
namespace Go.Proofs.YtfdaifgfnpjoaaaDoor.fnQueries
open Go.RowKit Go.Proofs.YtfdaifgfnpjoaaaDoorW.PrintWords Go.Proofs.YtfdaifgfnpjoaaaDoorW.PrintLast Go.Proofs.YtfdaifgfnpjoaaaDoorW.PrintMore Go.Proofs.YtfdaifgfnpjoaaaDoor.P
def Pure : Prop := ∀ (l0 : (List Int)), ((l0.length ≤ maxLen ∧ ∀ x ∈ l0, (Lit.int .u8 x).wf = true)) → ∃ k, laws_FnQueries.f k l0 = some true
end Go.Proofs.YtfdaifgfnpjoaaaDoor.fnQueries
