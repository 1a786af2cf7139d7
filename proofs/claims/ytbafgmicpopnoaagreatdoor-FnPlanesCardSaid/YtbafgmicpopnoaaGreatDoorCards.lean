/-
  DERIVED. GIVEN WITH THE SEED: THE CARDS: each row of YtbafgmicpopnoaaGreatDoorRows.lean that lists a variable, with what it lists TIED to the program's text (the seventh form; the later family's looks); each row that meets fmt, with fmt's text TOLD by the authors' own Lean function (tested against real Go, not proved from fmt's source: count such statements apart). THE CARD IS WHAT COUNTS. Prove the row's statement (the work); the ties are given (YtbafgmicpopnoaaGreatDoorTie.lean); close each card by the builder's one call (the guide's Derived/Test/ToyasCard.lean, 'card_holds'). Laid BY PROGRAM, IN A SANDBOX (cutbox-door.mjs). By AI agents, Wed Nov 11 2026. No macro, syntax, notation, axiom, sorry.
-/
import Derived.Test.YtbafgmicpopnoaaGreatDoorRows
import GoSem.ClaimSeven
namespace Go.Proofs.YtbafgmicpopnoaaGreatDoor
namespace Rows

/-- THE TIED CARD OF 'laws.FnPlanes'. -/
def fnPlanesCard : Claim7 := { stood := { row := fnPlanesRow, standIns := [], harness := (true, "700e6e65195a7d4cee18b1e6eecc6761056d1c4ad64137b7445308f0740b5e47"), looks := true }, kinds := [], alts := [], laidByText := true, laidKinds := [.data, .data, .data, .data, .sentinel, .sentinel, .pinned], laidTests := true, laidLooks := .later }
def FnPlanesCardSaid : Prop := Claim7.holds Tryz.pinned (.plain (OpenSpec.ofChange fnPlanesSpec)) fnPlanesCard

/-- THE SECOND FORM's CARD OF 'laws.FnPlanes'. -/
def fnPlanesUptoCard : Claim7 := { stood := { row := fnPlanesUptoRow, standIns := [], harness := (true, "700e6e65195a7d4cee18b1e6eecc6761056d1c4ad64137b7445308f0740b5e47"), looks := true }, kinds := [], alts := [], laidByText := true, laidKinds := [.data, .data, .data, .data, .sentinel, .sentinel, .pinned], laidTests := true, laidLooks := .later }
def FnPlanesUptoCardSaid : Prop := Claim7.holds Tryz.pinned (.plain (OpenSpec.upto fnPlanesSpec)) fnPlanesUptoCard
end Rows
end Go.Proofs.YtbafgmicpopnoaaGreatDoor
