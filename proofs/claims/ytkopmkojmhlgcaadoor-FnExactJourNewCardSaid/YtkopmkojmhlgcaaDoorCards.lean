/-
  DERIVED. GIVEN WITH THE SEED: THE CARDS: each row of YtkopmkojmhlgcaaDoorRows.lean that lists a variable, with what it lists TIED to the program's text (the seventh form; the later family's looks); each row that meets fmt, with fmt's text TOLD by the authors' own Lean function (tested against real Go, not proved from fmt's source: count such statements apart). THE CARD IS WHAT COUNTS. Prove the row's statement (the work); the ties are given (YtkopmkojmhlgcaaDoorTie.lean); close each card by the builder's one call (the guide's Derived/Test/ToyasCard.lean, 'card_holds'). Laid BY PROGRAM, IN A SANDBOX (cutbox-door.mjs). By AI agents, Wed Nov 11 2026. No macro, syntax, notation, axiom, sorry.
-/
import Derived.Test.YtkopmkojmhlgcaaDoorRows
import GoSem.ClaimSeven
namespace Go.Proofs.YtkopmkojmhlgcaaDoor
namespace Rows

/-- THE TIED CARD OF 'laws.FnExactJourNew'. -/
def fnExactJourNewCard : Claim7 := { stood := { row := fnExactJourNewRow, standIns := [], harness := (true, "62900f077323910cf2db6eaafd1e436f029a4faaf1415397bfc38d88293dfdca"), looks := false }, kinds := [], alts := [], laidByText := true, laidKinds := [.data, .data, .data], laidTests := true, laidLooks := .later }
def FnExactJourNewCardSaid : Prop := Claim7.holds Tryd.pinned (.plain (OpenSpec.ofChange fnExactJourNewSpec)) fnExactJourNewCard

/-- THE TIED CARD OF 'laws.FnExactRecPut'. -/
def fnExactRecPutCard : Claim7 := { stood := { row := fnExactRecPutRow, standIns := [], harness := (true, "62900f077323910cf2db6eaafd1e436f029a4faaf1415397bfc38d88293dfdca"), looks := false }, kinds := [], alts := [], laidByText := true, laidKinds := [.data, .data, .data], laidTests := true, laidLooks := .later }
def FnExactRecPutCardSaid : Prop := Claim7.holds Tryd.pinned (.plain (OpenSpec.ofChange fnExactRecPutSpec)) fnExactRecPutCard

/-- THE SECOND FORM's CARD OF 'laws.FnExactJourNew'. -/
def fnExactJourNewUptoCard : Claim7 := { stood := { row := fnExactJourNewUptoRow, standIns := [], harness := (true, "62900f077323910cf2db6eaafd1e436f029a4faaf1415397bfc38d88293dfdca"), looks := false }, kinds := [], alts := [], laidByText := true, laidKinds := [.data, .data, .data], laidTests := true, laidLooks := .later }
def FnExactJourNewUptoCardSaid : Prop := Claim7.holds Tryd.pinned (.plain (OpenSpec.upto fnExactJourNewSpec)) fnExactJourNewUptoCard

/-- THE SECOND FORM's CARD OF 'laws.FnExactRecPut'. -/
def fnExactRecPutUptoCard : Claim7 := { stood := { row := fnExactRecPutUptoRow, standIns := [], harness := (true, "62900f077323910cf2db6eaafd1e436f029a4faaf1415397bfc38d88293dfdca"), looks := false }, kinds := [], alts := [], laidByText := true, laidKinds := [.data, .data, .data], laidTests := true, laidLooks := .later }
def FnExactRecPutUptoCardSaid : Prop := Claim7.holds Tryd.pinned (.plain (OpenSpec.upto fnExactRecPutSpec)) fnExactRecPutUptoCard
end Rows
end Go.Proofs.YtkopmkojmhlgcaaDoor
