/-
  No cell of these rows narrows 'for every input' (looked for: loops, veiled, ifaces, maps, wideKeys, modest, calm, conditions, laid).
  DERIVED. THE GIVEN ROWS OF THIS SEAT. 7 by the template 'for every input the law returns true; each argument reads behind the call as it read before'; 0 by the template 'total and deterministic' (their statements: YtopkohkilmlpaaaTotals.lean).
  GIVEN WITH THE SEED: the statements are not yours to turn. If you find one false, say at which input.
  Laid BY PROGRAM, IN A SANDBOX (cutbox-rows.mjs): the forced cells as the released guide's own fill.sh prints them over the translation 9edc3f232355f678… (all of the seat's roots in one cut). By AI agents, Wed Nov 11 2026. No macro, syntax, notation, axiom, sorry.
-/
import Derived.Test.YtopkohkilmlpaaaChecked
import GoSem.Claim
import GoSem.ClaimJoined
import GoSem.ClaimMapViews
import Derived.JoinedTies
import Derived.KernelRfl
namespace Go.Proofs.Ytopkohkilmlpaaa
/- THE CELL 'sum', in the pinned program and in every row, IS THE sha256 OF THE DUMP (.gsa) THAT YtopkohkilmlpaaaProg.lean LOADS. Nothing in Lean hashes anything: it is a label: what it is worth is what the hold of that sum in a sandbox is worth. -/
noncomputable def Try.pinned : Pinned := { name := "ytopkohkilmlpaaa", sum := "9edc3f232355f67862b8da2b78339d6c448c08d3b1f2f7ee4d3ed9504e473efa", checked := Try.checked }
namespace Rows
def none {H : Type} : Left H := { results := [], args := [] }

/-- 'laws.FnExactIsPile': WHATEVER THE INPUT: true; the input reads as it did. -/
def fnExactIsPileSpec : ChangeSpec := { name := "fnExactIsPile", fn := fun _ => fun
  | [d1, d2, d3, d4] => { results := [.lit (.bool true)], args := [d1, d2, d3, d4] }
  | _ => none }
def fnExactIsPileRow : OpenClaim := { program := "ytopkohkilmlpaaa", sum := "9edc3f232355f67862b8da2b78339d6c448c08d3b1f2f7ee4d3ed9504e473efa", func := "loop.example/g01056/laws.FnExactIsPile", spec := "fnExactIsPile", unfollowed := true, recurses := true, apart := false }
def FnExactIsPileSaid : Prop := fnExactIsPileRow.holds Try.pinned (OpenSpec.ofChange fnExactIsPileSpec)

/-- ITS FALSE NEIGHBOUR: 'it returns false'. Refute it at one input. -/
def fnExactIsPileWrong : ChangeSpec := { name := "fnExactIsPile", fn := fun _ => fun
  | [d1, d2, d3, d4] => { results := [.lit (.bool false)], args := [d1, d2, d3, d4] }
  | _ => none }
def FnExactIsPileWrongFalsely : Prop := fnExactIsPileRow.holds Try.pinned (OpenSpec.ofChange fnExactIsPileWrong)

/-- 'laws.FnExactGreatestStable': WHATEVER THE INPUT: true; the input reads as it did. -/
def fnExactGreatestStableSpec : ChangeSpec := { name := "fnExactGreatestStable", fn := fun _ => fun
  | [d1, d2, d3] => { results := [.lit (.bool true)], args := [d1, d2, d3] }
  | _ => none }
def fnExactGreatestStableRow : OpenClaim := { program := "ytopkohkilmlpaaa", sum := "9edc3f232355f67862b8da2b78339d6c448c08d3b1f2f7ee4d3ed9504e473efa", func := "loop.example/g01056/laws.FnExactGreatestStable", spec := "fnExactGreatestStable", apart := false }
def FnExactGreatestStableSaid : Prop := fnExactGreatestStableRow.holds Try.pinned (OpenSpec.ofChange fnExactGreatestStableSpec)

/-- ITS FALSE NEIGHBOUR: 'it returns false'. Refute it at one input. -/
def fnExactGreatestStableWrong : ChangeSpec := { name := "fnExactGreatestStable", fn := fun _ => fun
  | [d1, d2, d3] => { results := [.lit (.bool false)], args := [d1, d2, d3] }
  | _ => none }
def FnExactGreatestStableWrongFalsely : Prop := fnExactGreatestStableRow.holds Try.pinned (OpenSpec.ofChange fnExactGreatestStableWrong)

/-- 'laws.FnExactIsStable': WHATEVER THE INPUT: true; the input reads as it did. -/
def fnExactIsStableSpec : ChangeSpec := { name := "fnExactIsStable", fn := fun _ => fun
  | [d1, d2, d3, d4] => { results := [.lit (.bool true)], args := [d1, d2, d3, d4] }
  | _ => none }
def fnExactIsStableRow : OpenClaim := { program := "ytopkohkilmlpaaa", sum := "9edc3f232355f67862b8da2b78339d6c448c08d3b1f2f7ee4d3ed9504e473efa", func := "loop.example/g01056/laws.FnExactIsStable", spec := "fnExactIsStable", unfollowed := true, recurses := true, apart := false }
def FnExactIsStableSaid : Prop := fnExactIsStableRow.holds Try.pinned (OpenSpec.ofChange fnExactIsStableSpec)

/-- ITS FALSE NEIGHBOUR: 'it returns false'. Refute it at one input. -/
def fnExactIsStableWrong : ChangeSpec := { name := "fnExactIsStable", fn := fun _ => fun
  | [d1, d2, d3, d4] => { results := [.lit (.bool false)], args := [d1, d2, d3, d4] }
  | _ => none }
def FnExactIsStableWrongFalsely : Prop := fnExactIsStableRow.holds Try.pinned (OpenSpec.ofChange fnExactIsStableWrong)

/-- 'laws.FnExactFireSet': WHATEVER THE INPUT: true; the input reads as it did. -/
def fnExactFireSetSpec : ChangeSpec := { name := "fnExactFireSet", fn := fun _ => fun
  | [d1, d2, d3, d4] => { results := [.lit (.bool true)], args := [d1, d2, d3, d4] }
  | _ => none }
def fnExactFireSetRow : OpenClaim := { program := "ytopkohkilmlpaaa", sum := "9edc3f232355f67862b8da2b78339d6c448c08d3b1f2f7ee4d3ed9504e473efa", func := "loop.example/g01056/laws.FnExactFireSet", spec := "fnExactFireSet", unfollowed := true, recurses := true, apart := false }
def FnExactFireSetSaid : Prop := fnExactFireSetRow.holds Try.pinned (OpenSpec.ofChange fnExactFireSetSpec)

/-- ITS FALSE NEIGHBOUR: 'it returns false'. Refute it at one input. -/
def fnExactFireSetWrong : ChangeSpec := { name := "fnExactFireSet", fn := fun _ => fun
  | [d1, d2, d3, d4] => { results := [.lit (.bool false)], args := [d1, d2, d3, d4] }
  | _ => none }
def FnExactFireSetWrongFalsely : Prop := fnExactFireSetRow.holds Try.pinned (OpenSpec.ofChange fnExactFireSetWrong)

/-- 'laws.FnExactTreesOf': WHATEVER THE INPUT: true; the input reads as it did. -/
def fnExactTreesOfSpec : ChangeSpec := { name := "fnExactTreesOf", fn := fun _ => fun
  | [d1, d2] => { results := [.lit (.bool true)], args := [d1, d2] }
  | _ => none }
def fnExactTreesOfRow : OpenClaim := { program := "ytopkohkilmlpaaa", sum := "9edc3f232355f67862b8da2b78339d6c448c08d3b1f2f7ee4d3ed9504e473efa", func := "loop.example/g01056/laws.FnExactTreesOf", spec := "fnExactTreesOf", recurses := true, apart := false }
def FnExactTreesOfSaid : Prop := fnExactTreesOfRow.holds Try.pinned (OpenSpec.ofChange fnExactTreesOfSpec)

/-- ITS FALSE NEIGHBOUR: 'it returns false'. Refute it at one input. -/
def fnExactTreesOfWrong : ChangeSpec := { name := "fnExactTreesOf", fn := fun _ => fun
  | [d1, d2] => { results := [.lit (.bool false)], args := [d1, d2] }
  | _ => none }
def FnExactTreesOfWrongFalsely : Prop := fnExactTreesOfRow.holds Try.pinned (OpenSpec.ofChange fnExactTreesOfWrong)

/-- 'laws.FnExactToppleAll': WHATEVER THE INPUT: true; the input reads as it did. -/
def fnExactToppleAllSpec : ChangeSpec := { name := "fnExactToppleAll", fn := fun _ => fun
  | [d1, d2, d3, d4] => { results := [.lit (.bool true)], args := [d1, d2, d3, d4] }
  | _ => none }
def fnExactToppleAllRow : OpenClaim := { program := "ytopkohkilmlpaaa", sum := "9edc3f232355f67862b8da2b78339d6c448c08d3b1f2f7ee4d3ed9504e473efa", func := "loop.example/g01056/laws.FnExactToppleAll", spec := "fnExactToppleAll", unfollowed := true, recurses := true, apart := false }
def FnExactToppleAllSaid : Prop := fnExactToppleAllRow.holds Try.pinned (OpenSpec.ofChange fnExactToppleAllSpec)

/-- ITS FALSE NEIGHBOUR: 'it returns false'. Refute it at one input. -/
def fnExactToppleAllWrong : ChangeSpec := { name := "fnExactToppleAll", fn := fun _ => fun
  | [d1, d2, d3, d4] => { results := [.lit (.bool false)], args := [d1, d2, d3, d4] }
  | _ => none }
def FnExactToppleAllWrongFalsely : Prop := fnExactToppleAllRow.holds Try.pinned (OpenSpec.ofChange fnExactToppleAllWrong)

/-- 'laws.FnExactAddPiles': WHATEVER THE INPUT: true; the input reads as it did. -/
def fnExactAddPilesSpec : ChangeSpec := { name := "fnExactAddPiles", fn := fun _ => fun
  | [d1, d2, d3, d4, d5] => { results := [.lit (.bool true)], args := [d1, d2, d3, d4, d5] }
  | _ => none }
def fnExactAddPilesRow : OpenClaim := { program := "ytopkohkilmlpaaa", sum := "9edc3f232355f67862b8da2b78339d6c448c08d3b1f2f7ee4d3ed9504e473efa", func := "loop.example/g01056/laws.FnExactAddPiles", spec := "fnExactAddPiles", unfollowed := true, recurses := true, apart := false }
def FnExactAddPilesSaid : Prop := fnExactAddPilesRow.holds Try.pinned (OpenSpec.ofChange fnExactAddPilesSpec)

/-- ITS FALSE NEIGHBOUR: 'it returns false'. Refute it at one input. -/
def fnExactAddPilesWrong : ChangeSpec := { name := "fnExactAddPiles", fn := fun _ => fun
  | [d1, d2, d3, d4, d5] => { results := [.lit (.bool false)], args := [d1, d2, d3, d4, d5] }
  | _ => none }
def FnExactAddPilesWrongFalsely : Prop := fnExactAddPilesRow.holds Try.pinned (OpenSpec.ofChange fnExactAddPilesWrong)

/- THE SECOND FORM. 'bulk': how many values and letters a reading holds, each counted each time it is reached (what is shared counts as often as it is met; a slice's spare places count too). A statement '..UptoSaid' is the law's where the arguments, and the package variables that the reading takes, are together of bulk at most 1048576: NARROWER than '..Said'. Prove '..Said' where nothing that the law and all that it calls make is longer than what came in: it says more and counts as full. Else prove '..UptoSaid'. A law counts once. -/
mutual
def uptoBulk {H : Type} : DataW H → Nat
  | .lit (.string bytes) => bytes.length + 1
  | .lit _ => 1
  | .nil => 1
  | .ptr d => uptoBulk d + 1
  | .slice elems spare => uptoBulkAll elems + uptoBulkAll spare + 1
  | .agg parts => uptoBulkAll parts + 1
  | .iface _ d => uptoBulk d + 1
  | .map entries => uptoBulkEntries entries + 1
  | .held _ => 1
def uptoBulkAll {H : Type} : List (DataW H) → Nat
  | [] => 0
  | d :: r => uptoBulk d + uptoBulkAll r
def uptoBulkEntries {H : Type} : List (Lit × DataW H) → Nat
  | [] => 0
  | x :: r => uptoBulkEntry x + uptoBulkEntries r
def uptoBulkEntry {H : Type} : Lit × DataW H → Nat
  | (.string bytes, d) => bytes.length + uptoBulk d + 1
  | (_, d) => uptoBulk d + 1
 end
def uptoSmall : (H : Type) → List (DataW H) → Bool := fun _ ds => decide (uptoBulkAll ds ≤ 1048576)
def OpenSpec.upto (s : _root_.Go.ChangeSpec) : _root_.Go.OpenSpec := { _root_.Go.OpenSpec.ofChange s with cond := some uptoSmall }

/-- 'laws.FnExactIsPile', WHERE WHAT IT READS IS OF BULK AT MOST 1048576: true; the input reads as it did. -/
def fnExactIsPileUptoRow : OpenClaim := { program := "ytopkohkilmlpaaa", sum := "9edc3f232355f67862b8da2b78339d6c448c08d3b1f2f7ee4d3ed9504e473efa", func := "loop.example/g01056/laws.FnExactIsPile", spec := "fnExactIsPile", unfollowed := true, recurses := true, apart := false, narrowed := true }
def FnExactIsPileUptoSaid : Prop := fnExactIsPileUptoRow.holds Try.pinned (OpenSpec.upto fnExactIsPileSpec)

/-- 'laws.FnExactGreatestStable', WHERE WHAT IT READS IS OF BULK AT MOST 1048576: true; the input reads as it did. -/
def fnExactGreatestStableUptoRow : OpenClaim := { program := "ytopkohkilmlpaaa", sum := "9edc3f232355f67862b8da2b78339d6c448c08d3b1f2f7ee4d3ed9504e473efa", func := "loop.example/g01056/laws.FnExactGreatestStable", spec := "fnExactGreatestStable", apart := false, narrowed := true }
def FnExactGreatestStableUptoSaid : Prop := fnExactGreatestStableUptoRow.holds Try.pinned (OpenSpec.upto fnExactGreatestStableSpec)

/-- 'laws.FnExactIsStable', WHERE WHAT IT READS IS OF BULK AT MOST 1048576: true; the input reads as it did. -/
def fnExactIsStableUptoRow : OpenClaim := { program := "ytopkohkilmlpaaa", sum := "9edc3f232355f67862b8da2b78339d6c448c08d3b1f2f7ee4d3ed9504e473efa", func := "loop.example/g01056/laws.FnExactIsStable", spec := "fnExactIsStable", unfollowed := true, recurses := true, apart := false, narrowed := true }
def FnExactIsStableUptoSaid : Prop := fnExactIsStableUptoRow.holds Try.pinned (OpenSpec.upto fnExactIsStableSpec)

/-- 'laws.FnExactFireSet', WHERE WHAT IT READS IS OF BULK AT MOST 1048576: true; the input reads as it did. -/
def fnExactFireSetUptoRow : OpenClaim := { program := "ytopkohkilmlpaaa", sum := "9edc3f232355f67862b8da2b78339d6c448c08d3b1f2f7ee4d3ed9504e473efa", func := "loop.example/g01056/laws.FnExactFireSet", spec := "fnExactFireSet", unfollowed := true, recurses := true, apart := false, narrowed := true }
def FnExactFireSetUptoSaid : Prop := fnExactFireSetUptoRow.holds Try.pinned (OpenSpec.upto fnExactFireSetSpec)

/-- 'laws.FnExactTreesOf', WHERE WHAT IT READS IS OF BULK AT MOST 1048576: true; the input reads as it did. -/
def fnExactTreesOfUptoRow : OpenClaim := { program := "ytopkohkilmlpaaa", sum := "9edc3f232355f67862b8da2b78339d6c448c08d3b1f2f7ee4d3ed9504e473efa", func := "loop.example/g01056/laws.FnExactTreesOf", spec := "fnExactTreesOf", recurses := true, apart := false, narrowed := true }
def FnExactTreesOfUptoSaid : Prop := fnExactTreesOfUptoRow.holds Try.pinned (OpenSpec.upto fnExactTreesOfSpec)

/-- 'laws.FnExactToppleAll', WHERE WHAT IT READS IS OF BULK AT MOST 1048576: true; the input reads as it did. -/
def fnExactToppleAllUptoRow : OpenClaim := { program := "ytopkohkilmlpaaa", sum := "9edc3f232355f67862b8da2b78339d6c448c08d3b1f2f7ee4d3ed9504e473efa", func := "loop.example/g01056/laws.FnExactToppleAll", spec := "fnExactToppleAll", unfollowed := true, recurses := true, apart := false, narrowed := true }
def FnExactToppleAllUptoSaid : Prop := fnExactToppleAllUptoRow.holds Try.pinned (OpenSpec.upto fnExactToppleAllSpec)

/-- 'laws.FnExactAddPiles', WHERE WHAT IT READS IS OF BULK AT MOST 1048576: true; the input reads as it did. -/
def fnExactAddPilesUptoRow : OpenClaim := { program := "ytopkohkilmlpaaa", sum := "9edc3f232355f67862b8da2b78339d6c448c08d3b1f2f7ee4d3ed9504e473efa", func := "loop.example/g01056/laws.FnExactAddPiles", spec := "fnExactAddPiles", unfollowed := true, recurses := true, apart := false, narrowed := true }
def FnExactAddPilesUptoSaid : Prop := fnExactAddPilesUptoRow.holds Try.pinned (OpenSpec.upto fnExactAddPilesSpec)

end Rows
end Go.Proofs.Ytopkohkilmlpaaa
