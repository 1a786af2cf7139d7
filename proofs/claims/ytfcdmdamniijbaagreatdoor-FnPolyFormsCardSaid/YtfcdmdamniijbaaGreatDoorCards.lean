/-
  DERIVED. GIVEN WITH THE SEED: THE CARDS: each row of YtfcdmdamniijbaaGreatDoorRows.lean that lists a variable, with what it lists TIED to the program's text (the seventh form; the later family's looks); each row that meets fmt, with fmt's text TOLD by the authors' own Lean function (tested against real Go, not proved from fmt's source: count such statements apart). THE CARD IS WHAT COUNTS. Prove the row's statement (the work); the ties are given (YtfcdmdamniijbaaGreatDoorTie.lean); close each card by the builder's one call (the guide's Derived/Test/ToyasCard.lean, 'card_holds'). Laid BY PROGRAM, IN A SANDBOX (cutbox-door.mjs). By AI agents, Wed Nov 11 2026. No macro, syntax, notation, axiom, sorry.
-/
import Derived.Test.YtfcdmdamniijbaaGreatDoorRows
import GoSem.ClaimSeven
namespace Go.Proofs.YtfcdmdamniijbaaGreatDoor
namespace Rows

/-- THE TIED CARD OF 'laws.FnPolyForms'. -/
def fnPolyFormsCard : Claim7 := { stood := { row := fnPolyFormsRow, standIns := [], harness := (true, "a6c18fd1a09d3c922140c3667d8851418d9ae958cf7d3aeba41ff0db1441f392"), looks := true }, kinds := [], alts := [], laidByText := true, laidKinds := [.data, .data, .data, .data, .sentinel, .sentinel, .pinned], laidTests := true, laidLooks := .later }
def FnPolyFormsCardSaid : Prop := Claim7.holds Tryz.pinned (.plain (OpenSpec.ofChange fnPolyFormsSpec)) fnPolyFormsCard

/-- THE SECOND FORM's CARD OF 'laws.FnPolyForms'. -/
def fnPolyFormsUptoCard : Claim7 := { stood := { row := fnPolyFormsUptoRow, standIns := [], harness := (true, "a6c18fd1a09d3c922140c3667d8851418d9ae958cf7d3aeba41ff0db1441f392"), looks := true }, kinds := [], alts := [], laidByText := true, laidKinds := [.data, .data, .data, .data, .sentinel, .sentinel, .pinned], laidTests := true, laidLooks := .later }
def FnPolyFormsUptoCardSaid : Prop := Claim7.holds Tryz.pinned (.plain (OpenSpec.upto fnPolyFormsSpec)) fnPolyFormsUptoCard
end Rows
end Go.Proofs.YtfcdmdamniijbaaGreatDoor
