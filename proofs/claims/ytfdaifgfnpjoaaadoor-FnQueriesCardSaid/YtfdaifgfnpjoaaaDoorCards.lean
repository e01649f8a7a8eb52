/-
  DERIVED. GIVEN WITH THE SEED: THE CARDS: each row of YtfdaifgfnpjoaaaDoorRows.lean that lists a variable, with what it lists TIED to the program's text (the seventh form; the later family's looks); each row that meets fmt, with fmt's text TOLD by the authors' own Lean function (tested against real Go, not proved from fmt's source: count such statements apart). THE CARD IS WHAT COUNTS. Prove the row's statement (the work); the ties are given (YtfdaifgfnpjoaaaDoorTie.lean); close each card by the builder's one call (the guide's Derived/Test/ToyasCard.lean, 'card_holds'). Laid BY PROGRAM, IN A SANDBOX (cutbox-door.mjs). By AI agents, Wed Nov 11 2026. No macro, syntax, notation, axiom, sorry.
-/
import Derived.Test.YtfdaifgfnpjoaaaDoorRows
import GoSem.ClaimSeven
namespace Go.Proofs.YtfdaifgfnpjoaaaDoor
namespace Rows

/-- THE TIED CARD OF 'laws.FnExactReadQuery'. -/
def fnExactReadQueryCard : Claim7 := { stood := { row := fnExactReadQueryRow, standIns := [], harness := (true, "c0026fef50b6658286e4a5af355a4adc7407e55ffe9edb7e596b890fe2f5f696"), looks := false }, kinds := [], alts := [], laidByText := true, laidKinds := [.data, .pinned], laidTests := true, laidLooks := .later }
def FnExactReadQueryCardSaid : Prop := Claim7.holds Tryd.pinned (.plain (OpenSpec.ofChange fnExactReadQuerySpec)) fnExactReadQueryCard

/-- THE TIED CARD OF 'laws.FnQueries'. -/
def fnQueriesCard : Claim7 := { stood := { row := fnQueriesRow, standIns := [], harness := (true, "c0026fef50b6658286e4a5af355a4adc7407e55ffe9edb7e596b890fe2f5f696"), looks := false }, kinds := [], alts := [], laidByText := true, laidKinds := [.data, .pinned], laidTests := true, laidLooks := .later }
def FnQueriesCardSaid : Prop := Claim7.holds Tryd.pinned (.plain (OpenSpec.ofChange fnQueriesSpec)) fnQueriesCard

/-- THE SECOND FORM's CARD OF 'laws.FnExactReadQuery'. -/
def fnExactReadQueryUptoCard : Claim7 := { stood := { row := fnExactReadQueryUptoRow, standIns := [], harness := (true, "c0026fef50b6658286e4a5af355a4adc7407e55ffe9edb7e596b890fe2f5f696"), looks := false }, kinds := [], alts := [], laidByText := true, laidKinds := [.data, .pinned], laidTests := true, laidLooks := .later }
def FnExactReadQueryUptoCardSaid : Prop := Claim7.holds Tryd.pinned (.plain (OpenSpec.upto fnExactReadQuerySpec)) fnExactReadQueryUptoCard

/-- THE SECOND FORM's CARD OF 'laws.FnQueries'. -/
def fnQueriesUptoCard : Claim7 := { stood := { row := fnQueriesUptoRow, standIns := [], harness := (true, "c0026fef50b6658286e4a5af355a4adc7407e55ffe9edb7e596b890fe2f5f696"), looks := false }, kinds := [], alts := [], laidByText := true, laidKinds := [.data, .pinned], laidTests := true, laidLooks := .later }
def FnQueriesUptoCardSaid : Prop := Claim7.holds Tryd.pinned (.plain (OpenSpec.upto fnQueriesSpec)) fnQueriesUptoCard
end Rows
end Go.Proofs.YtfdaifgfnpjoaaaDoor
