/-
  No cell of these rows narrows 'for every input' (looked for: loops, veiled, ifaces, maps, wideKeys, modest, calm, conditions, laid).
  DERIVED. THE GIVEN ROWS OF THIS SEAT. 9 by the template 'for every input the law returns true; each argument reads behind the call as it read before'; 0 by the template 'total and deterministic' (their statements: YtkbkemcigcdoaaaTotals.lean).
  GIVEN WITH THE SEED: the statements are not yours to turn. If you find one false, say at which input.
  Laid BY PROGRAM, IN A SANDBOX (cutbox-rows.mjs): the forced cells as the released guide's own fill.sh prints them over the translation 41110f039c5d094c… (all of the seat's roots in one cut). By AI agents, Wed Nov 11 2026. No macro, syntax, notation, axiom, sorry.
-/
import Derived.Test.YtkbkemcigcdoaaaChecked
import GoSem.Claim
import GoSem.ClaimJoined
import GoSem.ClaimMapViews
import Derived.JoinedTies
import Derived.KernelRfl
namespace Go.Proofs.Ytkbkemcigcdoaaa
/- THE CELL 'sum', in the pinned program and in every row, IS THE sha256 OF THE DUMP (.gsa) THAT YtkbkemcigcdoaaaProg.lean LOADS. Nothing in Lean hashes anything: it is a label: what it is worth is what the hold of that sum in a sandbox is worth. -/
noncomputable def Try.pinned : Pinned := { name := "ytkbkemcigcdoaaa", sum := "41110f039c5d094cbb058de00df32a2fd4113aa5bd52ba507e2b413f55b3af33", checked := Try.checked }
namespace Rows
def none {H : Type} : Left H := { results := [], args := [] }

/-- 'laws.FnExactIsReduced': WHATEVER THE INPUT: true; the input reads as it did. -/
def fnExactIsReducedSpec : ChangeSpec := { name := "fnExactIsReduced", fn := fun _ => fun
  | [d1, d2, d3, d4] => { results := [.lit (.bool true)], args := [d1, d2, d3, d4] }
  | _ => none }
def fnExactIsReducedRow : OpenClaim := { program := "ytkbkemcigcdoaaa", sum := "41110f039c5d094cbb058de00df32a2fd4113aa5bd52ba507e2b413f55b3af33", func := "loop.example/g01056/laws.FnExactIsReduced", spec := "fnExactIsReduced", unfollowed := true, recurses := true, apart := false }
def FnExactIsReducedSaid : Prop := fnExactIsReducedRow.holds Try.pinned (OpenSpec.ofChange fnExactIsReducedSpec)

/-- ITS FALSE NEIGHBOUR: 'it returns false'. Refute it at one input. -/
def fnExactIsReducedWrong : ChangeSpec := { name := "fnExactIsReduced", fn := fun _ => fun
  | [d1, d2, d3, d4] => { results := [.lit (.bool false)], args := [d1, d2, d3, d4] }
  | _ => none }
def FnExactIsReducedWrongFalsely : Prop := fnExactIsReducedRow.holds Try.pinned (OpenSpec.ofChange fnExactIsReducedWrong)

/-- 'laws.FnExactBurntBy': WHATEVER THE INPUT: true; the input reads as it did. -/
def fnExactBurntBySpec : ChangeSpec := { name := "fnExactBurntBy", fn := fun _ => fun
  | [d1, d2, d3, d4] => { results := [.lit (.bool true)], args := [d1, d2, d3, d4] }
  | _ => none }
def fnExactBurntByRow : OpenClaim := { program := "ytkbkemcigcdoaaa", sum := "41110f039c5d094cbb058de00df32a2fd4113aa5bd52ba507e2b413f55b3af33", func := "loop.example/g01056/laws.FnExactBurntBy", spec := "fnExactBurntBy", unfollowed := true, recurses := true, apart := false }
def FnExactBurntBySaid : Prop := fnExactBurntByRow.holds Try.pinned (OpenSpec.ofChange fnExactBurntBySpec)

/-- ITS FALSE NEIGHBOUR: 'it returns false'. Refute it at one input. -/
def fnExactBurntByWrong : ChangeSpec := { name := "fnExactBurntBy", fn := fun _ => fun
  | [d1, d2, d3, d4] => { results := [.lit (.bool false)], args := [d1, d2, d3, d4] }
  | _ => none }
def FnExactBurntByWrongFalsely : Prop := fnExactBurntByRow.holds Try.pinned (OpenSpec.ofChange fnExactBurntByWrong)

/-- 'laws.FnExactLackingAt': WHATEVER THE INPUT: true; the input reads as it did. -/
def fnExactLackingAtSpec : ChangeSpec := { name := "fnExactLackingAt", fn := fun _ => fun
  | [d1, d2, d3, d4] => { results := [.lit (.bool true)], args := [d1, d2, d3, d4] }
  | _ => none }
def fnExactLackingAtRow : OpenClaim := { program := "ytkbkemcigcdoaaa", sum := "41110f039c5d094cbb058de00df32a2fd4113aa5bd52ba507e2b413f55b3af33", func := "loop.example/g01056/laws.FnExactLackingAt", spec := "fnExactLackingAt", unfollowed := true, recurses := true, apart := false }
def FnExactLackingAtSaid : Prop := fnExactLackingAtRow.holds Try.pinned (OpenSpec.ofChange fnExactLackingAtSpec)

/-- ITS FALSE NEIGHBOUR: 'it returns false'. Refute it at one input. -/
def fnExactLackingAtWrong : ChangeSpec := { name := "fnExactLackingAt", fn := fun _ => fun
  | [d1, d2, d3, d4] => { results := [.lit (.bool false)], args := [d1, d2, d3, d4] }
  | _ => none }
def FnExactLackingAtWrongFalsely : Prop := fnExactLackingAtRow.holds Try.pinned (OpenSpec.ofChange fnExactLackingAtWrong)

/-- 'laws.FnExactIsWinnable': WHATEVER THE INPUT: true; the input reads as it did. -/
def fnExactIsWinnableSpec : ChangeSpec := { name := "fnExactIsWinnable", fn := fun _ => fun
  | [d1, d2, d3] => { results := [.lit (.bool true)], args := [d1, d2, d3] }
  | _ => none }
def fnExactIsWinnableRow : OpenClaim := { program := "ytkbkemcigcdoaaa", sum := "41110f039c5d094cbb058de00df32a2fd4113aa5bd52ba507e2b413f55b3af33", func := "loop.example/g01056/laws.FnExactIsWinnable", spec := "fnExactIsWinnable", unfollowed := true, recurses := true, apart := false }
def FnExactIsWinnableSaid : Prop := fnExactIsWinnableRow.holds Try.pinned (OpenSpec.ofChange fnExactIsWinnableSpec)

/-- ITS FALSE NEIGHBOUR: 'it returns false'. Refute it at one input. -/
def fnExactIsWinnableWrong : ChangeSpec := { name := "fnExactIsWinnable", fn := fun _ => fun
  | [d1, d2, d3] => { results := [.lit (.bool false)], args := [d1, d2, d3] }
  | _ => none }
def FnExactIsWinnableWrongFalsely : Prop := fnExactIsWinnableRow.holds Try.pinned (OpenSpec.ofChange fnExactIsWinnableWrong)

/-- 'laws.FnExactLegalSets': WHATEVER THE INPUT: true; the input reads as it did. -/
def fnExactLegalSetsSpec : ChangeSpec := { name := "fnExactLegalSets", fn := fun _ => fun
  | [d1, d2, d3, d4] => { results := [.lit (.bool true)], args := [d1, d2, d3, d4] }
  | _ => none }
def fnExactLegalSetsRow : OpenClaim := { program := "ytkbkemcigcdoaaa", sum := "41110f039c5d094cbb058de00df32a2fd4113aa5bd52ba507e2b413f55b3af33", func := "loop.example/g01056/laws.FnExactLegalSets", spec := "fnExactLegalSets", unfollowed := true, recurses := true, apart := false }
def FnExactLegalSetsSaid : Prop := fnExactLegalSetsRow.holds Try.pinned (OpenSpec.ofChange fnExactLegalSetsSpec)

/-- ITS FALSE NEIGHBOUR: 'it returns false'. Refute it at one input. -/
def fnExactLegalSetsWrong : ChangeSpec := { name := "fnExactLegalSets", fn := fun _ => fun
  | [d1, d2, d3, d4] => { results := [.lit (.bool false)], args := [d1, d2, d3, d4] }
  | _ => none }
def FnExactLegalSetsWrongFalsely : Prop := fnExactLegalSetsRow.holds Try.pinned (OpenSpec.ofChange fnExactLegalSetsWrong)

/-- 'laws.FnExactAreEquivalent': WHATEVER THE INPUT: true; the input reads as it did. -/
def fnExactAreEquivalentSpec : ChangeSpec := { name := "fnExactAreEquivalent", fn := fun _ => fun
  | [d1, d2, d3, d4] => { results := [.lit (.bool true)], args := [d1, d2, d3, d4] }
  | _ => none }
def fnExactAreEquivalentRow : OpenClaim := { program := "ytkbkemcigcdoaaa", sum := "41110f039c5d094cbb058de00df32a2fd4113aa5bd52ba507e2b413f55b3af33", func := "loop.example/g01056/laws.FnExactAreEquivalent", spec := "fnExactAreEquivalent", unfollowed := true, recurses := true, apart := false }
def FnExactAreEquivalentSaid : Prop := fnExactAreEquivalentRow.holds Try.pinned (OpenSpec.ofChange fnExactAreEquivalentSpec)

/-- ITS FALSE NEIGHBOUR: 'it returns false'. Refute it at one input. -/
def fnExactAreEquivalentWrong : ChangeSpec := { name := "fnExactAreEquivalent", fn := fun _ => fun
  | [d1, d2, d3, d4] => { results := [.lit (.bool false)], args := [d1, d2, d3, d4] }
  | _ => none }
def FnExactAreEquivalentWrongFalsely : Prop := fnExactAreEquivalentRow.holds Try.pinned (OpenSpec.ofChange fnExactAreEquivalentWrong)

/-- 'laws.FnExactReducingScript': WHATEVER THE INPUT: true; the input reads as it did. -/
def fnExactReducingScriptSpec : ChangeSpec := { name := "fnExactReducingScript", fn := fun _ => fun
  | [d1, d2, d3, d4] => { results := [.lit (.bool true)], args := [d1, d2, d3, d4] }
  | _ => none }
def fnExactReducingScriptRow : OpenClaim := { program := "ytkbkemcigcdoaaa", sum := "41110f039c5d094cbb058de00df32a2fd4113aa5bd52ba507e2b413f55b3af33", func := "loop.example/g01056/laws.FnExactReducingScript", spec := "fnExactReducingScript", unfollowed := true, recurses := true, apart := false }
def FnExactReducingScriptSaid : Prop := fnExactReducingScriptRow.holds Try.pinned (OpenSpec.ofChange fnExactReducingScriptSpec)

/-- ITS FALSE NEIGHBOUR: 'it returns false'. Refute it at one input. -/
def fnExactReducingScriptWrong : ChangeSpec := { name := "fnExactReducingScript", fn := fun _ => fun
  | [d1, d2, d3, d4] => { results := [.lit (.bool false)], args := [d1, d2, d3, d4] }
  | _ => none }
def FnExactReducingScriptWrongFalsely : Prop := fnExactReducingScriptRow.holds Try.pinned (OpenSpec.ofChange fnExactReducingScriptWrong)

/-- 'laws.FnExactReduceChips': WHATEVER THE INPUT: true; the input reads as it did. -/
def fnExactReduceChipsSpec : ChangeSpec := { name := "fnExactReduceChips", fn := fun _ => fun
  | [d1, d2, d3, d4] => { results := [.lit (.bool true)], args := [d1, d2, d3, d4] }
  | _ => none }
def fnExactReduceChipsRow : OpenClaim := { program := "ytkbkemcigcdoaaa", sum := "41110f039c5d094cbb058de00df32a2fd4113aa5bd52ba507e2b413f55b3af33", func := "loop.example/g01056/laws.FnExactReduceChips", spec := "fnExactReduceChips", unfollowed := true, recurses := true, apart := false }
def FnExactReduceChipsSaid : Prop := fnExactReduceChipsRow.holds Try.pinned (OpenSpec.ofChange fnExactReduceChipsSpec)

/-- ITS FALSE NEIGHBOUR: 'it returns false'. Refute it at one input. -/
def fnExactReduceChipsWrong : ChangeSpec := { name := "fnExactReduceChips", fn := fun _ => fun
  | [d1, d2, d3, d4] => { results := [.lit (.bool false)], args := [d1, d2, d3, d4] }
  | _ => none }
def FnExactReduceChipsWrongFalsely : Prop := fnExactReduceChipsRow.holds Try.pinned (OpenSpec.ofChange fnExactReduceChipsWrong)

/-- 'laws.FnExactWonChips': WHATEVER THE INPUT: true; the input reads as it did. -/
def fnExactWonChipsSpec : ChangeSpec := { name := "fnExactWonChips", fn := fun _ => fun
  | [d1, d2, d3] => { results := [.lit (.bool true)], args := [d1, d2, d3] }
  | _ => none }
def fnExactWonChipsRow : OpenClaim := { program := "ytkbkemcigcdoaaa", sum := "41110f039c5d094cbb058de00df32a2fd4113aa5bd52ba507e2b413f55b3af33", func := "loop.example/g01056/laws.FnExactWonChips", spec := "fnExactWonChips", unfollowed := true, recurses := true, apart := false }
def FnExactWonChipsSaid : Prop := fnExactWonChipsRow.holds Try.pinned (OpenSpec.ofChange fnExactWonChipsSpec)

/-- ITS FALSE NEIGHBOUR: 'it returns false'. Refute it at one input. -/
def fnExactWonChipsWrong : ChangeSpec := { name := "fnExactWonChips", fn := fun _ => fun
  | [d1, d2, d3] => { results := [.lit (.bool false)], args := [d1, d2, d3] }
  | _ => none }
def FnExactWonChipsWrongFalsely : Prop := fnExactWonChipsRow.holds Try.pinned (OpenSpec.ofChange fnExactWonChipsWrong)

/- THE SECOND FORM. 'bulk': how many values and letters a reading holds, each counted each time it is reached (what is shared counts as often as it is met; a slice's spare places count too). A statement '..UptoSaid' is the law's where the arguments, and the package variables that the reading takes, are together of bulk at most 1048576: NARROWER than '..Said'. Prove '..Said' where nothing that the law and all that it calls make is longer than what came in: it says more and counts as full. Else prove '..UptoSaid'. A law counts once. -/
mutual
def uptoBulk {H : Type} : DataW H → Nat
  | .lit (.string bytes) => bytes.length + 1
  | .lit _ => 1
  | .nil => 1
  | .ptr d => uptoBulk d + 1
  | .slice elems spare => uptoBulkAll elems + uptoBulkAll spare + 1
  | .agg parts => uptoBulkAll parts + 1
  | .iface _ d => uptoBulk d + 1
  | .map entries => uptoBulkEntries entries + 1
  | .held _ => 1
def uptoBulkAll {H : Type} : List (DataW H) → Nat
  | [] => 0
  | d :: r => uptoBulk d + uptoBulkAll r
def uptoBulkEntries {H : Type} : List (Lit × DataW H) → Nat
  | [] => 0
  | x :: r => uptoBulkEntry x + uptoBulkEntries r
def uptoBulkEntry {H : Type} : Lit × DataW H → Nat
  | (.string bytes, d) => bytes.length + uptoBulk d + 1
  | (_, d) => uptoBulk d + 1
 end
def uptoSmall : (H : Type) → List (DataW H) → Bool := fun _ ds => decide (uptoBulkAll ds ≤ 1048576)
def OpenSpec.upto (s : _root_.Go.ChangeSpec) : _root_.Go.OpenSpec := { _root_.Go.OpenSpec.ofChange s with cond := some uptoSmall }

/-- 'laws.FnExactIsReduced', WHERE WHAT IT READS IS OF BULK AT MOST 1048576: true; the input reads as it did. -/
def fnExactIsReducedUptoRow : OpenClaim := { program := "ytkbkemcigcdoaaa", sum := "41110f039c5d094cbb058de00df32a2fd4113aa5bd52ba507e2b413f55b3af33", func := "loop.example/g01056/laws.FnExactIsReduced", spec := "fnExactIsReduced", unfollowed := true, recurses := true, apart := false, narrowed := true }
def FnExactIsReducedUptoSaid : Prop := fnExactIsReducedUptoRow.holds Try.pinned (OpenSpec.upto fnExactIsReducedSpec)

/-- 'laws.FnExactBurntBy', WHERE WHAT IT READS IS OF BULK AT MOST 1048576: true; the input reads as it did. -/
def fnExactBurntByUptoRow : OpenClaim := { program := "ytkbkemcigcdoaaa", sum := "41110f039c5d094cbb058de00df32a2fd4113aa5bd52ba507e2b413f55b3af33", func := "loop.example/g01056/laws.FnExactBurntBy", spec := "fnExactBurntBy", unfollowed := true, recurses := true, apart := false, narrowed := true }
def FnExactBurntByUptoSaid : Prop := fnExactBurntByUptoRow.holds Try.pinned (OpenSpec.upto fnExactBurntBySpec)

/-- 'laws.FnExactLackingAt', WHERE WHAT IT READS IS OF BULK AT MOST 1048576: true; the input reads as it did. -/
def fnExactLackingAtUptoRow : OpenClaim := { program := "ytkbkemcigcdoaaa", sum := "41110f039c5d094cbb058de00df32a2fd4113aa5bd52ba507e2b413f55b3af33", func := "loop.example/g01056/laws.FnExactLackingAt", spec := "fnExactLackingAt", unfollowed := true, recurses := true, apart := false, narrowed := true }
def FnExactLackingAtUptoSaid : Prop := fnExactLackingAtUptoRow.holds Try.pinned (OpenSpec.upto fnExactLackingAtSpec)

/-- 'laws.FnExactIsWinnable', WHERE WHAT IT READS IS OF BULK AT MOST 1048576: true; the input reads as it did. -/
def fnExactIsWinnableUptoRow : OpenClaim := { program := "ytkbkemcigcdoaaa", sum := "41110f039c5d094cbb058de00df32a2fd4113aa5bd52ba507e2b413f55b3af33", func := "loop.example/g01056/laws.FnExactIsWinnable", spec := "fnExactIsWinnable", unfollowed := true, recurses := true, apart := false, narrowed := true }
def FnExactIsWinnableUptoSaid : Prop := fnExactIsWinnableUptoRow.holds Try.pinned (OpenSpec.upto fnExactIsWinnableSpec)

/-- 'laws.FnExactLegalSets', WHERE WHAT IT READS IS OF BULK AT MOST 1048576: true; the input reads as it did. -/
def fnExactLegalSetsUptoRow : OpenClaim := { program := "ytkbkemcigcdoaaa", sum := "41110f039c5d094cbb058de00df32a2fd4113aa5bd52ba507e2b413f55b3af33", func := "loop.example/g01056/laws.FnExactLegalSets", spec := "fnExactLegalSets", unfollowed := true, recurses := true, apart := false, narrowed := true }
def FnExactLegalSetsUptoSaid : Prop := fnExactLegalSetsUptoRow.holds Try.pinned (OpenSpec.upto fnExactLegalSetsSpec)

/-- 'laws.FnExactAreEquivalent', WHERE WHAT IT READS IS OF BULK AT MOST 1048576: true; the input reads as it did. -/
def fnExactAreEquivalentUptoRow : OpenClaim := { program := "ytkbkemcigcdoaaa", sum := "41110f039c5d094cbb058de00df32a2fd4113aa5bd52ba507e2b413f55b3af33", func := "loop.example/g01056/laws.FnExactAreEquivalent", spec := "fnExactAreEquivalent", unfollowed := true, recurses := true, apart := false, narrowed := true }
def FnExactAreEquivalentUptoSaid : Prop := fnExactAreEquivalentUptoRow.holds Try.pinned (OpenSpec.upto fnExactAreEquivalentSpec)

/-- 'laws.FnExactReducingScript', WHERE WHAT IT READS IS OF BULK AT MOST 1048576: true; the input reads as it did. -/
def fnExactReducingScriptUptoRow : OpenClaim := { program := "ytkbkemcigcdoaaa", sum := "41110f039c5d094cbb058de00df32a2fd4113aa5bd52ba507e2b413f55b3af33", func := "loop.example/g01056/laws.FnExactReducingScript", spec := "fnExactReducingScript", unfollowed := true, recurses := true, apart := false, narrowed := true }
def FnExactReducingScriptUptoSaid : Prop := fnExactReducingScriptUptoRow.holds Try.pinned (OpenSpec.upto fnExactReducingScriptSpec)

/-- 'laws.FnExactReduceChips', WHERE WHAT IT READS IS OF BULK AT MOST 1048576: true; the input reads as it did. -/
def fnExactReduceChipsUptoRow : OpenClaim := { program := "ytkbkemcigcdoaaa", sum := "41110f039c5d094cbb058de00df32a2fd4113aa5bd52ba507e2b413f55b3af33", func := "loop.example/g01056/laws.FnExactReduceChips", spec := "fnExactReduceChips", unfollowed := true, recurses := true, apart := false, narrowed := true }
def FnExactReduceChipsUptoSaid : Prop := fnExactReduceChipsUptoRow.holds Try.pinned (OpenSpec.upto fnExactReduceChipsSpec)

/-- 'laws.FnExactWonChips', WHERE WHAT IT READS IS OF BULK AT MOST 1048576: true; the input reads as it did. -/
def fnExactWonChipsUptoRow : OpenClaim := { program := "ytkbkemcigcdoaaa", sum := "41110f039c5d094cbb058de00df32a2fd4113aa5bd52ba507e2b413f55b3af33", func := "loop.example/g01056/laws.FnExactWonChips", spec := "fnExactWonChips", unfollowed := true, recurses := true, apart := false, narrowed := true }
def FnExactWonChipsUptoSaid : Prop := fnExactWonChipsUptoRow.holds Try.pinned (OpenSpec.upto fnExactWonChipsSpec)

end Rows
end Go.Proofs.Ytkbkemcigcdoaaa
