/-
  DERIVED. GIVEN WITH THE SEED: THE CARDS: each row of YtfgdhlnmndgjbaaGreatDoorRows.lean that lists a variable, with what it lists TIED to the program's text (the seventh form; the later family's looks); each row that meets fmt, with fmt's text TOLD by the authors' own Lean function (tested against real Go, not proved from fmt's source: count such statements apart). THE CARD IS WHAT COUNTS. Prove the row's statement (the work); the ties are given (YtfgdhlnmndgjbaaGreatDoorTie.lean); close each card by the builder's one call (the guide's Derived/Test/ToyasCard.lean, 'card_holds'). Laid BY PROGRAM, IN A SANDBOX (cutbox-door.mjs). By AI agents, Wed Nov 11 2026. No macro, syntax, notation, axiom, sorry.
-/
import Derived.Test.YtfgdhlnmndgjbaaGreatDoorRows
import GoSem.ClaimSeven
namespace Go.Proofs.YtfgdhlnmndgjbaaGreatDoor
namespace Rows

/-- THE TIED CARD OF 'laws.FnPermanents'. -/
def fnPermanentsCard : Claim7 := { stood := { row := fnPermanentsRow, standIns := [], harness := (true, "7e116fa87cc07b35d3f296501bc3bd48370d813b157e4bbe1b571229eeed3e8e"), looks := true }, kinds := [], alts := [], laidByText := true, laidKinds := [.data, .data, .data, .data, .sentinel, .sentinel, .pinned], laidTests := true, laidLooks := .later }
def FnPermanentsCardSaid : Prop := Claim7.holds Tryz.pinned (.plain (OpenSpec.ofChange fnPermanentsSpec)) fnPermanentsCard

/-- THE SECOND FORM's CARD OF 'laws.FnPermanents'. -/
def fnPermanentsUptoCard : Claim7 := { stood := { row := fnPermanentsUptoRow, standIns := [], harness := (true, "7e116fa87cc07b35d3f296501bc3bd48370d813b157e4bbe1b571229eeed3e8e"), looks := true }, kinds := [], alts := [], laidByText := true, laidKinds := [.data, .data, .data, .data, .sentinel, .sentinel, .pinned], laidTests := true, laidLooks := .later }
def FnPermanentsUptoCardSaid : Prop := Claim7.holds Tryz.pinned (.plain (OpenSpec.upto fnPermanentsSpec)) fnPermanentsUptoCard
end Rows
end Go.Proofs.YtfgdhlnmndgjbaaGreatDoor
