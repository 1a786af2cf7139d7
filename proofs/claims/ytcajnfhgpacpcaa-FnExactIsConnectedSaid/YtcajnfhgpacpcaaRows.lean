/-
  No cell of these rows narrows 'for every input' (looked for: loops, veiled, ifaces, maps, wideKeys, modest, calm, conditions, laid).
  DERIVED. THE GIVEN ROWS OF THIS SEAT. 12 by the template 'for every input the law returns true; each argument reads behind the call as it read before'; 0 by the template 'total and deterministic' (their statements: YtcajnfhgpacpcaaTotals.lean).
  GIVEN WITH THE SEED: the statements are not yours to turn. If you find one false, say at which input.
  Laid BY PROGRAM, IN A SANDBOX (cutbox-rows.mjs): the forced cells as the released guide's own fill.sh prints them over the translation dc862411735788ba… (all of the seat's roots in one cut). By AI agents, Wed Nov 11 2026. No macro, syntax, notation, axiom, sorry.
-/
import Derived.Test.YtcajnfhgpacpcaaChecked
import GoSem.Claim
import GoSem.ClaimJoined
import GoSem.ClaimMapViews
import Derived.JoinedTies
import Derived.KernelRfl
namespace Go.Proofs.Ytcajnfhgpacpcaa
/- THE CELL 'sum', in the pinned program and in every row, IS THE sha256 OF THE DUMP (.gsa) THAT YtcajnfhgpacpcaaProg.lean LOADS. Nothing in Lean hashes anything: it is a label: what it is worth is what the hold of that sum in a sandbox is worth. -/
noncomputable def Try.pinned : Pinned := { name := "ytcajnfhgpacpcaa", sum := "dc862411735788bad71059447f614dd17269342bb862b7e8fd6ce9b167c7a8e3", checked := Try.checked }
namespace Rows
def none {H : Type} : Left H := { results := [], args := [] }

/-- 'laws.FnExactIsGraph': WHATEVER THE INPUT: true; the input reads as it did. -/
def fnExactIsGraphSpec : ChangeSpec := { name := "fnExactIsGraph", fn := fun _ => fun
  | [d1, d2] => { results := [.lit (.bool true)], args := [d1, d2] }
  | _ => none }
def fnExactIsGraphRow : OpenClaim := { program := "ytcajnfhgpacpcaa", sum := "dc862411735788bad71059447f614dd17269342bb862b7e8fd6ce9b167c7a8e3", func := "loop.example/g01056/laws.FnExactIsGraph", spec := "fnExactIsGraph", apart := false }
def FnExactIsGraphSaid : Prop := fnExactIsGraphRow.holds Try.pinned (OpenSpec.ofChange fnExactIsGraphSpec)

/-- ITS FALSE NEIGHBOUR: 'it returns false'. Refute it at one input. -/
def fnExactIsGraphWrong : ChangeSpec := { name := "fnExactIsGraph", fn := fun _ => fun
  | [d1, d2] => { results := [.lit (.bool false)], args := [d1, d2] }
  | _ => none }
def FnExactIsGraphWrongFalsely : Prop := fnExactIsGraphRow.holds Try.pinned (OpenSpec.ofChange fnExactIsGraphWrong)

/-- 'laws.FnExactGenusOf': WHATEVER THE INPUT: true; the input reads as it did. -/
def fnExactGenusOfSpec : ChangeSpec := { name := "fnExactGenusOf", fn := fun _ => fun
  | [d1, d2] => { results := [.lit (.bool true)], args := [d1, d2] }
  | _ => none }
def fnExactGenusOfRow : OpenClaim := { program := "ytcajnfhgpacpcaa", sum := "dc862411735788bad71059447f614dd17269342bb862b7e8fd6ce9b167c7a8e3", func := "loop.example/g01056/laws.FnExactGenusOf", spec := "fnExactGenusOf", apart := false }
def FnExactGenusOfSaid : Prop := fnExactGenusOfRow.holds Try.pinned (OpenSpec.ofChange fnExactGenusOfSpec)

/-- ITS FALSE NEIGHBOUR: 'it returns false'. Refute it at one input. -/
def fnExactGenusOfWrong : ChangeSpec := { name := "fnExactGenusOf", fn := fun _ => fun
  | [d1, d2] => { results := [.lit (.bool false)], args := [d1, d2] }
  | _ => none }
def FnExactGenusOfWrongFalsely : Prop := fnExactGenusOfRow.holds Try.pinned (OpenSpec.ofChange fnExactGenusOfWrong)

/-- 'laws.FnExactIsConnected': WHATEVER THE INPUT: true; the input reads as it did. -/
def fnExactIsConnectedSpec : ChangeSpec := { name := "fnExactIsConnected", fn := fun _ => fun
  | [d1, d2] => { results := [.lit (.bool true)], args := [d1, d2] }
  | _ => none }
def fnExactIsConnectedRow : OpenClaim := { program := "ytcajnfhgpacpcaa", sum := "dc862411735788bad71059447f614dd17269342bb862b7e8fd6ce9b167c7a8e3", func := "loop.example/g01056/laws.FnExactIsConnected", spec := "fnExactIsConnected", apart := false }
def FnExactIsConnectedSaid : Prop := fnExactIsConnectedRow.holds Try.pinned (OpenSpec.ofChange fnExactIsConnectedSpec)

/-- ITS FALSE NEIGHBOUR: 'it returns false'. Refute it at one input. -/
def fnExactIsConnectedWrong : ChangeSpec := { name := "fnExactIsConnected", fn := fun _ => fun
  | [d1, d2] => { results := [.lit (.bool false)], args := [d1, d2] }
  | _ => none }
def FnExactIsConnectedWrongFalsely : Prop := fnExactIsConnectedRow.holds Try.pinned (OpenSpec.ofChange fnExactIsConnectedWrong)

/-- 'laws.FnExactValencesOf': WHATEVER THE INPUT: true; the input reads as it did. -/
def fnExactValencesOfSpec : ChangeSpec := { name := "fnExactValencesOf", fn := fun _ => fun
  | [d1, d2] => { results := [.lit (.bool true)], args := [d1, d2] }
  | _ => none }
def fnExactValencesOfRow : OpenClaim := { program := "ytcajnfhgpacpcaa", sum := "dc862411735788bad71059447f614dd17269342bb862b7e8fd6ce9b167c7a8e3", func := "loop.example/g01056/laws.FnExactValencesOf", spec := "fnExactValencesOf", apart := false }
def FnExactValencesOfSaid : Prop := fnExactValencesOfRow.holds Try.pinned (OpenSpec.ofChange fnExactValencesOfSpec)

/-- ITS FALSE NEIGHBOUR: 'it returns false'. Refute it at one input. -/
def fnExactValencesOfWrong : ChangeSpec := { name := "fnExactValencesOf", fn := fun _ => fun
  | [d1, d2] => { results := [.lit (.bool false)], args := [d1, d2] }
  | _ => none }
def FnExactValencesOfWrongFalsely : Prop := fnExactValencesOfRow.holds Try.pinned (OpenSpec.ofChange fnExactValencesOfWrong)

/-- 'laws.FnExactChipSum': WHATEVER THE INPUT: true; the input reads as it did. -/
def fnExactChipSumSpec : ChangeSpec := { name := "fnExactChipSum", fn := fun _ => fun
  | [d1, d2, d3] => { results := [.lit (.bool true)], args := [d1, d2, d3] }
  | _ => none }
def fnExactChipSumRow : OpenClaim := { program := "ytcajnfhgpacpcaa", sum := "dc862411735788bad71059447f614dd17269342bb862b7e8fd6ce9b167c7a8e3", func := "loop.example/g01056/laws.FnExactChipSum", spec := "fnExactChipSum", unfollowed := true, recurses := true, apart := false }
def FnExactChipSumSaid : Prop := fnExactChipSumRow.holds Try.pinned (OpenSpec.ofChange fnExactChipSumSpec)

/-- ITS FALSE NEIGHBOUR: 'it returns false'. Refute it at one input. -/
def fnExactChipSumWrong : ChangeSpec := { name := "fnExactChipSum", fn := fun _ => fun
  | [d1, d2, d3] => { results := [.lit (.bool false)], args := [d1, d2, d3] }
  | _ => none }
def FnExactChipSumWrongFalsely : Prop := fnExactChipSumRow.holds Try.pinned (OpenSpec.ofChange fnExactChipSumWrong)

/-- 'laws.FnExactCanonicalOf': WHATEVER THE INPUT: true; the input reads as it did. -/
def fnExactCanonicalOfSpec : ChangeSpec := { name := "fnExactCanonicalOf", fn := fun _ => fun
  | [d1, d2] => { results := [.lit (.bool true)], args := [d1, d2] }
  | _ => none }
def fnExactCanonicalOfRow : OpenClaim := { program := "ytcajnfhgpacpcaa", sum := "dc862411735788bad71059447f614dd17269342bb862b7e8fd6ce9b167c7a8e3", func := "loop.example/g01056/laws.FnExactCanonicalOf", spec := "fnExactCanonicalOf", apart := false }
def FnExactCanonicalOfSaid : Prop := fnExactCanonicalOfRow.holds Try.pinned (OpenSpec.ofChange fnExactCanonicalOfSpec)

/-- ITS FALSE NEIGHBOUR: 'it returns false'. Refute it at one input. -/
def fnExactCanonicalOfWrong : ChangeSpec := { name := "fnExactCanonicalOf", fn := fun _ => fun
  | [d1, d2] => { results := [.lit (.bool false)], args := [d1, d2] }
  | _ => none }
def FnExactCanonicalOfWrongFalsely : Prop := fnExactCanonicalOfRow.holds Try.pinned (OpenSpec.ofChange fnExactCanonicalOfWrong)

/-- 'laws.FnExactLinksOut': WHATEVER THE INPUT: true; the input reads as it did. -/
def fnExactLinksOutSpec : ChangeSpec := { name := "fnExactLinksOut", fn := fun _ => fun
  | [d1, d2, d3] => { results := [.lit (.bool true)], args := [d1, d2, d3] }
  | _ => none }
def fnExactLinksOutRow : OpenClaim := { program := "ytcajnfhgpacpcaa", sum := "dc862411735788bad71059447f614dd17269342bb862b7e8fd6ce9b167c7a8e3", func := "loop.example/g01056/laws.FnExactLinksOut", spec := "fnExactLinksOut", apart := false }
def FnExactLinksOutSaid : Prop := fnExactLinksOutRow.holds Try.pinned (OpenSpec.ofChange fnExactLinksOutSpec)

/-- ITS FALSE NEIGHBOUR: 'it returns false'. Refute it at one input. -/
def fnExactLinksOutWrong : ChangeSpec := { name := "fnExactLinksOut", fn := fun _ => fun
  | [d1, d2, d3] => { results := [.lit (.bool false)], args := [d1, d2, d3] }
  | _ => none }
def FnExactLinksOutWrongFalsely : Prop := fnExactLinksOutRow.holds Try.pinned (OpenSpec.ofChange fnExactLinksOutWrong)

/-- 'laws.FnExactDebtsOf': WHATEVER THE INPUT: true; the input reads as it did. -/
def fnExactDebtsOfSpec : ChangeSpec := { name := "fnExactDebtsOf", fn := fun _ => fun
  | [d1, d2, d3] => { results := [.lit (.bool true)], args := [d1, d2, d3] }
  | _ => none }
def fnExactDebtsOfRow : OpenClaim := { program := "ytcajnfhgpacpcaa", sum := "dc862411735788bad71059447f614dd17269342bb862b7e8fd6ce9b167c7a8e3", func := "loop.example/g01056/laws.FnExactDebtsOf", spec := "fnExactDebtsOf", unfollowed := true, recurses := true, apart := false }
def FnExactDebtsOfSaid : Prop := fnExactDebtsOfRow.holds Try.pinned (OpenSpec.ofChange fnExactDebtsOfSpec)

/-- ITS FALSE NEIGHBOUR: 'it returns false'. Refute it at one input. -/
def fnExactDebtsOfWrong : ChangeSpec := { name := "fnExactDebtsOf", fn := fun _ => fun
  | [d1, d2, d3] => { results := [.lit (.bool false)], args := [d1, d2, d3] }
  | _ => none }
def FnExactDebtsOfWrongFalsely : Prop := fnExactDebtsOfRow.holds Try.pinned (OpenSpec.ofChange fnExactDebtsOfWrong)

/-- 'laws.FnExactLaplacianOf': WHATEVER THE INPUT: true; the input reads as it did. -/
def fnExactLaplacianOfSpec : ChangeSpec := { name := "fnExactLaplacianOf", fn := fun _ => fun
  | [d1, d2] => { results := [.lit (.bool true)], args := [d1, d2] }
  | _ => none }
def fnExactLaplacianOfRow : OpenClaim := { program := "ytcajnfhgpacpcaa", sum := "dc862411735788bad71059447f614dd17269342bb862b7e8fd6ce9b167c7a8e3", func := "loop.example/g01056/laws.FnExactLaplacianOf", spec := "fnExactLaplacianOf", apart := false }
def FnExactLaplacianOfSaid : Prop := fnExactLaplacianOfRow.holds Try.pinned (OpenSpec.ofChange fnExactLaplacianOfSpec)

/-- ITS FALSE NEIGHBOUR: 'it returns false'. Refute it at one input. -/
def fnExactLaplacianOfWrong : ChangeSpec := { name := "fnExactLaplacianOf", fn := fun _ => fun
  | [d1, d2] => { results := [.lit (.bool false)], args := [d1, d2] }
  | _ => none }
def FnExactLaplacianOfWrongFalsely : Prop := fnExactLaplacianOfRow.holds Try.pinned (OpenSpec.ofChange fnExactLaplacianOfWrong)

/-- 'laws.FnExactLegalFirings': WHATEVER THE INPUT: true; the input reads as it did. -/
def fnExactLegalFiringsSpec : ChangeSpec := { name := "fnExactLegalFirings", fn := fun _ => fun
  | [d1, d2, d3] => { results := [.lit (.bool true)], args := [d1, d2, d3] }
  | _ => none }
def fnExactLegalFiringsRow : OpenClaim := { program := "ytcajnfhgpacpcaa", sum := "dc862411735788bad71059447f614dd17269342bb862b7e8fd6ce9b167c7a8e3", func := "loop.example/g01056/laws.FnExactLegalFirings", spec := "fnExactLegalFirings", unfollowed := true, recurses := true, apart := false }
def FnExactLegalFiringsSaid : Prop := fnExactLegalFiringsRow.holds Try.pinned (OpenSpec.ofChange fnExactLegalFiringsSpec)

/-- ITS FALSE NEIGHBOUR: 'it returns false'. Refute it at one input. -/
def fnExactLegalFiringsWrong : ChangeSpec := { name := "fnExactLegalFirings", fn := fun _ => fun
  | [d1, d2, d3] => { results := [.lit (.bool false)], args := [d1, d2, d3] }
  | _ => none }
def FnExactLegalFiringsWrongFalsely : Prop := fnExactLegalFiringsRow.holds Try.pinned (OpenSpec.ofChange fnExactLegalFiringsWrong)

/-- 'laws.FnExactFireScript': WHATEVER THE INPUT: true; the input reads as it did. -/
def fnExactFireScriptSpec : ChangeSpec := { name := "fnExactFireScript", fn := fun _ => fun
  | [d1, d2, d3, d4] => { results := [.lit (.bool true)], args := [d1, d2, d3, d4] }
  | _ => none }
def fnExactFireScriptRow : OpenClaim := { program := "ytcajnfhgpacpcaa", sum := "dc862411735788bad71059447f614dd17269342bb862b7e8fd6ce9b167c7a8e3", func := "loop.example/g01056/laws.FnExactFireScript", spec := "fnExactFireScript", unfollowed := true, recurses := true, apart := false }
def FnExactFireScriptSaid : Prop := fnExactFireScriptRow.holds Try.pinned (OpenSpec.ofChange fnExactFireScriptSpec)

/-- ITS FALSE NEIGHBOUR: 'it returns false'. Refute it at one input. -/
def fnExactFireScriptWrong : ChangeSpec := { name := "fnExactFireScript", fn := fun _ => fun
  | [d1, d2, d3, d4] => { results := [.lit (.bool false)], args := [d1, d2, d3, d4] }
  | _ => none }
def FnExactFireScriptWrongFalsely : Prop := fnExactFireScriptRow.holds Try.pinned (OpenSpec.ofChange fnExactFireScriptWrong)

/-- 'laws.FnExactFireVertex': WHATEVER THE INPUT: true; the input reads as it did. -/
def fnExactFireVertexSpec : ChangeSpec := { name := "fnExactFireVertex", fn := fun _ => fun
  | [d1, d2, d3, d4] => { results := [.lit (.bool true)], args := [d1, d2, d3, d4] }
  | _ => none }
def fnExactFireVertexRow : OpenClaim := { program := "ytcajnfhgpacpcaa", sum := "dc862411735788bad71059447f614dd17269342bb862b7e8fd6ce9b167c7a8e3", func := "loop.example/g01056/laws.FnExactFireVertex", spec := "fnExactFireVertex", unfollowed := true, recurses := true, apart := false }
def FnExactFireVertexSaid : Prop := fnExactFireVertexRow.holds Try.pinned (OpenSpec.ofChange fnExactFireVertexSpec)

/-- ITS FALSE NEIGHBOUR: 'it returns false'. Refute it at one input. -/
def fnExactFireVertexWrong : ChangeSpec := { name := "fnExactFireVertex", fn := fun _ => fun
  | [d1, d2, d3, d4] => { results := [.lit (.bool false)], args := [d1, d2, d3, d4] }
  | _ => none }
def FnExactFireVertexWrongFalsely : Prop := fnExactFireVertexRow.holds Try.pinned (OpenSpec.ofChange fnExactFireVertexWrong)

/- THE SECOND FORM. 'bulk': how many values and letters a reading holds, each counted each time it is reached (what is shared counts as often as it is met; a slice's spare places count too). A statement '..UptoSaid' is the law's where the arguments, and the package variables that the reading takes, are together of bulk at most 1048576: NARROWER than '..Said'. Prove '..Said' where nothing that the law and all that it calls make is longer than what came in: it says more and counts as full. Else prove '..UptoSaid'. A law counts once. -/
mutual
def uptoBulk {H : Type} : DataW H → Nat
  | .lit (.string bytes) => bytes.length + 1
  | .lit _ => 1
  | .nil => 1
  | .ptr d => uptoBulk d + 1
  | .slice elems spare => uptoBulkAll elems + uptoBulkAll spare + 1
  | .agg parts => uptoBulkAll parts + 1
  | .iface _ d => uptoBulk d + 1
  | .map entries => uptoBulkEntries entries + 1
  | .held _ => 1
def uptoBulkAll {H : Type} : List (DataW H) → Nat
  | [] => 0
  | d :: r => uptoBulk d + uptoBulkAll r
def uptoBulkEntries {H : Type} : List (Lit × DataW H) → Nat
  | [] => 0
  | x :: r => uptoBulkEntry x + uptoBulkEntries r
def uptoBulkEntry {H : Type} : Lit × DataW H → Nat
  | (.string bytes, d) => bytes.length + uptoBulk d + 1
  | (_, d) => uptoBulk d + 1
 end
def uptoSmall : (H : Type) → List (DataW H) → Bool := fun _ ds => decide (uptoBulkAll ds ≤ 1048576)
def OpenSpec.upto (s : _root_.Go.ChangeSpec) : _root_.Go.OpenSpec := { _root_.Go.OpenSpec.ofChange s with cond := some uptoSmall }

/-- 'laws.FnExactIsGraph', WHERE WHAT IT READS IS OF BULK AT MOST 1048576: true; the input reads as it did. -/
def fnExactIsGraphUptoRow : OpenClaim := { program := "ytcajnfhgpacpcaa", sum := "dc862411735788bad71059447f614dd17269342bb862b7e8fd6ce9b167c7a8e3", func := "loop.example/g01056/laws.FnExactIsGraph", spec := "fnExactIsGraph", apart := false, narrowed := true }
def FnExactIsGraphUptoSaid : Prop := fnExactIsGraphUptoRow.holds Try.pinned (OpenSpec.upto fnExactIsGraphSpec)

/-- 'laws.FnExactGenusOf', WHERE WHAT IT READS IS OF BULK AT MOST 1048576: true; the input reads as it did. -/
def fnExactGenusOfUptoRow : OpenClaim := { program := "ytcajnfhgpacpcaa", sum := "dc862411735788bad71059447f614dd17269342bb862b7e8fd6ce9b167c7a8e3", func := "loop.example/g01056/laws.FnExactGenusOf", spec := "fnExactGenusOf", apart := false, narrowed := true }
def FnExactGenusOfUptoSaid : Prop := fnExactGenusOfUptoRow.holds Try.pinned (OpenSpec.upto fnExactGenusOfSpec)

/-- 'laws.FnExactIsConnected', WHERE WHAT IT READS IS OF BULK AT MOST 1048576: true; the input reads as it did. -/
def fnExactIsConnectedUptoRow : OpenClaim := { program := "ytcajnfhgpacpcaa", sum := "dc862411735788bad71059447f614dd17269342bb862b7e8fd6ce9b167c7a8e3", func := "loop.example/g01056/laws.FnExactIsConnected", spec := "fnExactIsConnected", apart := false, narrowed := true }
def FnExactIsConnectedUptoSaid : Prop := fnExactIsConnectedUptoRow.holds Try.pinned (OpenSpec.upto fnExactIsConnectedSpec)

/-- 'laws.FnExactValencesOf', WHERE WHAT IT READS IS OF BULK AT MOST 1048576: true; the input reads as it did. -/
def fnExactValencesOfUptoRow : OpenClaim := { program := "ytcajnfhgpacpcaa", sum := "dc862411735788bad71059447f614dd17269342bb862b7e8fd6ce9b167c7a8e3", func := "loop.example/g01056/laws.FnExactValencesOf", spec := "fnExactValencesOf", apart := false, narrowed := true }
def FnExactValencesOfUptoSaid : Prop := fnExactValencesOfUptoRow.holds Try.pinned (OpenSpec.upto fnExactValencesOfSpec)

/-- 'laws.FnExactChipSum', WHERE WHAT IT READS IS OF BULK AT MOST 1048576: true; the input reads as it did. -/
def fnExactChipSumUptoRow : OpenClaim := { program := "ytcajnfhgpacpcaa", sum := "dc862411735788bad71059447f614dd17269342bb862b7e8fd6ce9b167c7a8e3", func := "loop.example/g01056/laws.FnExactChipSum", spec := "fnExactChipSum", unfollowed := true, recurses := true, apart := false, narrowed := true }
def FnExactChipSumUptoSaid : Prop := fnExactChipSumUptoRow.holds Try.pinned (OpenSpec.upto fnExactChipSumSpec)

/-- 'laws.FnExactCanonicalOf', WHERE WHAT IT READS IS OF BULK AT MOST 1048576: true; the input reads as it did. -/
def fnExactCanonicalOfUptoRow : OpenClaim := { program := "ytcajnfhgpacpcaa", sum := "dc862411735788bad71059447f614dd17269342bb862b7e8fd6ce9b167c7a8e3", func := "loop.example/g01056/laws.FnExactCanonicalOf", spec := "fnExactCanonicalOf", apart := false, narrowed := true }
def FnExactCanonicalOfUptoSaid : Prop := fnExactCanonicalOfUptoRow.holds Try.pinned (OpenSpec.upto fnExactCanonicalOfSpec)

/-- 'laws.FnExactLinksOut', WHERE WHAT IT READS IS OF BULK AT MOST 1048576: true; the input reads as it did. -/
def fnExactLinksOutUptoRow : OpenClaim := { program := "ytcajnfhgpacpcaa", sum := "dc862411735788bad71059447f614dd17269342bb862b7e8fd6ce9b167c7a8e3", func := "loop.example/g01056/laws.FnExactLinksOut", spec := "fnExactLinksOut", apart := false, narrowed := true }
def FnExactLinksOutUptoSaid : Prop := fnExactLinksOutUptoRow.holds Try.pinned (OpenSpec.upto fnExactLinksOutSpec)

/-- 'laws.FnExactDebtsOf', WHERE WHAT IT READS IS OF BULK AT MOST 1048576: true; the input reads as it did. -/
def fnExactDebtsOfUptoRow : OpenClaim := { program := "ytcajnfhgpacpcaa", sum := "dc862411735788bad71059447f614dd17269342bb862b7e8fd6ce9b167c7a8e3", func := "loop.example/g01056/laws.FnExactDebtsOf", spec := "fnExactDebtsOf", unfollowed := true, recurses := true, apart := false, narrowed := true }
def FnExactDebtsOfUptoSaid : Prop := fnExactDebtsOfUptoRow.holds Try.pinned (OpenSpec.upto fnExactDebtsOfSpec)

/-- 'laws.FnExactLaplacianOf', WHERE WHAT IT READS IS OF BULK AT MOST 1048576: true; the input reads as it did. -/
def fnExactLaplacianOfUptoRow : OpenClaim := { program := "ytcajnfhgpacpcaa", sum := "dc862411735788bad71059447f614dd17269342bb862b7e8fd6ce9b167c7a8e3", func := "loop.example/g01056/laws.FnExactLaplacianOf", spec := "fnExactLaplacianOf", apart := false, narrowed := true }
def FnExactLaplacianOfUptoSaid : Prop := fnExactLaplacianOfUptoRow.holds Try.pinned (OpenSpec.upto fnExactLaplacianOfSpec)

/-- 'laws.FnExactLegalFirings', WHERE WHAT IT READS IS OF BULK AT MOST 1048576: true; the input reads as it did. -/
def fnExactLegalFiringsUptoRow : OpenClaim := { program := "ytcajnfhgpacpcaa", sum := "dc862411735788bad71059447f614dd17269342bb862b7e8fd6ce9b167c7a8e3", func := "loop.example/g01056/laws.FnExactLegalFirings", spec := "fnExactLegalFirings", unfollowed := true, recurses := true, apart := false, narrowed := true }
def FnExactLegalFiringsUptoSaid : Prop := fnExactLegalFiringsUptoRow.holds Try.pinned (OpenSpec.upto fnExactLegalFiringsSpec)

/-- 'laws.FnExactFireScript', WHERE WHAT IT READS IS OF BULK AT MOST 1048576: true; the input reads as it did. -/
def fnExactFireScriptUptoRow : OpenClaim := { program := "ytcajnfhgpacpcaa", sum := "dc862411735788bad71059447f614dd17269342bb862b7e8fd6ce9b167c7a8e3", func := "loop.example/g01056/laws.FnExactFireScript", spec := "fnExactFireScript", unfollowed := true, recurses := true, apart := false, narrowed := true }
def FnExactFireScriptUptoSaid : Prop := fnExactFireScriptUptoRow.holds Try.pinned (OpenSpec.upto fnExactFireScriptSpec)

/-- 'laws.FnExactFireVertex', WHERE WHAT IT READS IS OF BULK AT MOST 1048576: true; the input reads as it did. -/
def fnExactFireVertexUptoRow : OpenClaim := { program := "ytcajnfhgpacpcaa", sum := "dc862411735788bad71059447f614dd17269342bb862b7e8fd6ce9b167c7a8e3", func := "loop.example/g01056/laws.FnExactFireVertex", spec := "fnExactFireVertex", unfollowed := true, recurses := true, apart := false, narrowed := true }
def FnExactFireVertexUptoSaid : Prop := fnExactFireVertexUptoRow.holds Try.pinned (OpenSpec.upto fnExactFireVertexSpec)

end Rows
end Go.Proofs.Ytcajnfhgpacpcaa
