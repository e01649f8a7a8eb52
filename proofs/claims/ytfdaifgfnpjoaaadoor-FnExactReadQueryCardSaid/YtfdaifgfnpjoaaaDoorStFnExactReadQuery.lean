/- What is left of the law FnExactReadQuery: a statement over numbers and lists. -/
import Derived.Test.YtfdaifgfnpjoaaaDoorG24
import Derived.Test.YtfdaifgfnpjoaaaDoorOpen
namespace Go.Proofs.YtfdaifgfnpjoaaaDoor.fnExactReadQuery
open Go.RowKit Go.Proofs.YtfdaifgfnpjoaaaDoorW.PrintWords Go.Proofs.YtfdaifgfnpjoaaaDoorW.PrintLast Go.Proofs.YtfdaifgfnpjoaaaDoorW.PrintMore Go.Proofs.YtfdaifgfnpjoaaaDoor.P
def Pure : Prop := ∀ (a0 : ByteArray), (a0.size ≤ maxLen) → ∃ k, laws_FnExactReadQuery.f k a0 = some true
end Go.Proofs.YtfdaifgfnpjoaaaDoor.fnExactReadQuery
