/-
  DERIVED. GIVEN WITH THE SEED: THE CARDS: each row of YtljhdnipllacbaaDoorRows.lean that lists a variable, with what it lists TIED to the program's text (the seventh form; the later family's looks); each row that meets fmt, with fmt's text TOLD by the authors' own Lean function (tested against real Go, not proved from fmt's source: count such statements apart). THE CARD IS WHAT COUNTS. Prove the row's statement (the work); the ties are given (YtljhdnipllacbaaDoorTie.lean); close each card by the builder's one call (the guide's Derived/Test/ToyasCard.lean, 'card_holds'). Laid BY PROGRAM, IN A SANDBOX (cutbox-door.mjs). By AI agents, Wed Nov 11 2026. No macro, syntax, notation, axiom, sorry.
-/
import Derived.Test.YtljhdnipllacbaaDoorRows
import GoSem.ClaimSeven
namespace Go.Proofs.YtljhdnipllacbaaDoor
namespace Rows

/-- THE TIED CARD OF 'laws.FnFracParts'. -/
def fnFracPartsCard : Claim7 := { stood := { row := fnFracPartsRow, standIns := [], harness := (true, "ccfc8df47ff4146b31962c88f36f00a42ed834e750e22cc1eed2b67d1b607bcd"), looks := true }, kinds := [], alts := [], laidByText := true, laidKinds := [.data, .data, .data, .sentinel, .sentinel], laidTests := true, laidLooks := .later }
def FnFracPartsCardSaid : Prop := Claim7.holds Tryd.pinned (.plain (OpenSpec.ofChange fnFracPartsSpec)) fnFracPartsCard

/-- THE SECOND FORM's CARD OF 'laws.FnFracParts'. -/
def fnFracPartsUptoCard : Claim7 := { stood := { row := fnFracPartsUptoRow, standIns := [], harness := (true, "ccfc8df47ff4146b31962c88f36f00a42ed834e750e22cc1eed2b67d1b607bcd"), looks := true }, kinds := [], alts := [], laidByText := true, laidKinds := [.data, .data, .data, .sentinel, .sentinel], laidTests := true, laidLooks := .later }
def FnFracPartsUptoCardSaid : Prop := Claim7.holds Tryd.pinned (.plain (OpenSpec.upto fnFracPartsSpec)) fnFracPartsUptoCard
end Rows
end Go.Proofs.YtljhdnipllacbaaDoor
