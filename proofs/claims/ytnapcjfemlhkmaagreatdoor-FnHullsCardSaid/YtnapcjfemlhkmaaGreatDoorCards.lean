/-
  DERIVED. GIVEN WITH THE SEED: THE CARDS: each row of YtnapcjfemlhkmaaGreatDoorRows.lean that lists a variable, with what it lists TIED to the program's text (the seventh form; the later family's looks); each row that meets fmt, with fmt's text TOLD by the authors' own Lean function (tested against real Go, not proved from fmt's source: count such statements apart). THE CARD IS WHAT COUNTS. Prove the row's statement (the work); the ties are given (YtnapcjfemlhkmaaGreatDoorTie.lean); close each card by the builder's one call (the guide's Derived/Test/ToyasCard.lean, 'card_holds'). Laid BY PROGRAM, IN A SANDBOX (cutbox-door.mjs). By AI agents, Wed Nov 11 2026. No macro, syntax, notation, axiom, sorry.
-/
import Derived.Test.YtnapcjfemlhkmaaGreatDoorRows
import GoSem.ClaimSeven
namespace Go.Proofs.YtnapcjfemlhkmaaGreatDoor
namespace Rows

/-- THE TIED CARD OF 'laws.FnHulls'. -/
def fnHullsCard : Claim7 := { stood := { row := fnHullsRow, standIns := [], harness := (true, "b00ab7e0608b0e272a49133015abc8720dd80fdf302b0131d96df999f8fbf826"), looks := true }, kinds := [], alts := [], laidByText := true, laidKinds := [.data, .data, .data, .data, .sentinel, .sentinel, .pinned], laidTests := true, laidLooks := .later }
def FnHullsCardSaid : Prop := Claim7.holds Tryz.pinned (.plain (OpenSpec.ofChange fnHullsSpec)) fnHullsCard

/-- THE SECOND FORM's CARD OF 'laws.FnHulls'. -/
def fnHullsUptoCard : Claim7 := { stood := { row := fnHullsUptoRow, standIns := [], harness := (true, "b00ab7e0608b0e272a49133015abc8720dd80fdf302b0131d96df999f8fbf826"), looks := true }, kinds := [], alts := [], laidByText := true, laidKinds := [.data, .data, .data, .data, .sentinel, .sentinel, .pinned], laidTests := true, laidLooks := .later }
def FnHullsUptoCardSaid : Prop := Claim7.holds Tryz.pinned (.plain (OpenSpec.upto fnHullsSpec)) fnHullsUptoCard
end Rows
end Go.Proofs.YtnapcjfemlhkmaaGreatDoor
