/-
  No cell of these rows narrows 'for every input' (looked for: loops, veiled, ifaces, maps, wideKeys, modest, calm, conditions, laid).
  DERIVED. THE GIVEN ROWS OF THIS SEAT. 2 by the template 'for every input the law returns true; each argument reads behind the call as it read before'; 0 by the template 'total and deterministic' (their statements: YtpnnmdkhkjenmaaTotals.lean).
  GIVEN WITH THE SEED: the statements are not yours to turn. If you find one false, say at which input.
  Laid BY PROGRAM, IN A SANDBOX (cutbox-rows.mjs): the forced cells as the released guide's own fill.sh prints them over the translation d1f9f2ab06d8be59… (all of the seat's roots in one cut). By AI agents, Wed Nov 11 2026. No macro, syntax, notation, axiom, sorry.
-/
import Derived.Test.YtpnnmdkhkjenmaaChecked
import GoSem.Claim
import GoSem.ClaimJoined
import GoSem.ClaimMapViews
import Derived.JoinedTies
import Derived.KernelRfl
namespace Go.Proofs.Ytpnnmdkhkjenmaa
/- THE CELL 'sum', in the pinned program and in every row, IS THE sha256 OF THE DUMP (.gsa) THAT YtpnnmdkhkjenmaaProg.lean LOADS. Nothing in Lean hashes anything: it is a label: what it is worth is what the hold of that sum in a sandbox is worth. -/
noncomputable def Try.pinned : Pinned := { name := "ytpnnmdkhkjenmaa", sum := "d1f9f2ab06d8be59e207dfcd6db41a0f08cf7ffc17b4d5f015629152503e4d28", checked := Try.checked }
namespace Rows
def none {H : Type} : Left H := { results := [], args := [] }

/-- 'laws.FnExactBoundaryPoints': WHATEVER THE INPUT: true; the input reads as it did. -/
def fnExactBoundaryPointsSpec : ChangeSpec := { name := "fnExactBoundaryPoints", fn := fun _ => fun
  | [d] => { results := [.lit (.bool true)], args := [d] }
  | _ => none }
def fnExactBoundaryPointsRow : OpenClaim := { program := "ytpnnmdkhkjenmaa", sum := "d1f9f2ab06d8be59e207dfcd6db41a0f08cf7ffc17b4d5f015629152503e4d28", func := "loop.example/g01056/laws.FnExactBoundaryPoints", spec := "fnExactBoundaryPoints", unfollowed := true, recurses := true, apart := false }
def FnExactBoundaryPointsSaid : Prop := fnExactBoundaryPointsRow.holds Try.pinned (OpenSpec.ofChange fnExactBoundaryPointsSpec)

/-- ITS FALSE NEIGHBOUR: 'it returns false'. Refute it at one input. -/
def fnExactBoundaryPointsWrong : ChangeSpec := { name := "fnExactBoundaryPoints", fn := fun _ => fun
  | [d] => { results := [.lit (.bool false)], args := [d] }
  | _ => none }
def FnExactBoundaryPointsWrongFalsely : Prop := fnExactBoundaryPointsRow.holds Try.pinned (OpenSpec.ofChange fnExactBoundaryPointsWrong)

/-- 'laws.FnExactInnerPoints': WHATEVER THE INPUT: true; the input reads as it did. -/
def fnExactInnerPointsSpec : ChangeSpec := { name := "fnExactInnerPoints", fn := fun _ => fun
  | [d] => { results := [.lit (.bool true)], args := [d] }
  | _ => none }
def fnExactInnerPointsRow : OpenClaim := { program := "ytpnnmdkhkjenmaa", sum := "d1f9f2ab06d8be59e207dfcd6db41a0f08cf7ffc17b4d5f015629152503e4d28", func := "loop.example/g01056/laws.FnExactInnerPoints", spec := "fnExactInnerPoints", unfollowed := true, recurses := true, apart := false }
def FnExactInnerPointsSaid : Prop := fnExactInnerPointsRow.holds Try.pinned (OpenSpec.ofChange fnExactInnerPointsSpec)

/-- ITS FALSE NEIGHBOUR: 'it returns false'. Refute it at one input. -/
def fnExactInnerPointsWrong : ChangeSpec := { name := "fnExactInnerPoints", fn := fun _ => fun
  | [d] => { results := [.lit (.bool false)], args := [d] }
  | _ => none }
def FnExactInnerPointsWrongFalsely : Prop := fnExactInnerPointsRow.holds Try.pinned (OpenSpec.ofChange fnExactInnerPointsWrong)

/- THE SECOND FORM. 'bulk': how many values and letters a reading holds, each counted each time it is reached (what is shared counts as often as it is met; a slice's spare places count too). A statement '..UptoSaid' is the law's where the arguments, and the package variables that the reading takes, are together of bulk at most 1048576: NARROWER than '..Said'. Prove '..Said' where nothing that the law and all that it calls make is longer than what came in: it says more and counts as full. Else prove '..UptoSaid'. A law counts once. -/
mutual
def uptoBulk {H : Type} : DataW H → Nat
  | .lit (.string bytes) => bytes.length + 1
  | .lit _ => 1
  | .nil => 1
  | .ptr d => uptoBulk d + 1
  | .slice elems spare => uptoBulkAll elems + uptoBulkAll spare + 1
  | .agg parts => uptoBulkAll parts + 1
  | .iface _ d => uptoBulk d + 1
  | .map entries => uptoBulkEntries entries + 1
  | .held _ => 1
def uptoBulkAll {H : Type} : List (DataW H) → Nat
  | [] => 0
  | d :: r => uptoBulk d + uptoBulkAll r
def uptoBulkEntries {H : Type} : List (Lit × DataW H) → Nat
  | [] => 0
  | x :: r => uptoBulkEntry x + uptoBulkEntries r
def uptoBulkEntry {H : Type} : Lit × DataW H → Nat
  | (.string bytes, d) => bytes.length + uptoBulk d + 1
  | (_, d) => uptoBulk d + 1
 end
def uptoSmall : (H : Type) → List (DataW H) → Bool := fun _ ds => decide (uptoBulkAll ds ≤ 1048576)
def OpenSpec.upto (s : _root_.Go.ChangeSpec) : _root_.Go.OpenSpec := { _root_.Go.OpenSpec.ofChange s with cond := some uptoSmall }

/-- 'laws.FnExactBoundaryPoints', WHERE WHAT IT READS IS OF BULK AT MOST 1048576: true; the input reads as it did. -/
def fnExactBoundaryPointsUptoRow : OpenClaim := { program := "ytpnnmdkhkjenmaa", sum := "d1f9f2ab06d8be59e207dfcd6db41a0f08cf7ffc17b4d5f015629152503e4d28", func := "loop.example/g01056/laws.FnExactBoundaryPoints", spec := "fnExactBoundaryPoints", unfollowed := true, recurses := true, apart := false, narrowed := true }
def FnExactBoundaryPointsUptoSaid : Prop := fnExactBoundaryPointsUptoRow.holds Try.pinned (OpenSpec.upto fnExactBoundaryPointsSpec)

/-- 'laws.FnExactInnerPoints', WHERE WHAT IT READS IS OF BULK AT MOST 1048576: true; the input reads as it did. -/
def fnExactInnerPointsUptoRow : OpenClaim := { program := "ytpnnmdkhkjenmaa", sum := "d1f9f2ab06d8be59e207dfcd6db41a0f08cf7ffc17b4d5f015629152503e4d28", func := "loop.example/g01056/laws.FnExactInnerPoints", spec := "fnExactInnerPoints", unfollowed := true, recurses := true, apart := false, narrowed := true }
def FnExactInnerPointsUptoSaid : Prop := fnExactInnerPointsUptoRow.holds Try.pinned (OpenSpec.upto fnExactInnerPointsSpec)

end Rows
end Go.Proofs.Ytpnnmdkhkjenmaa
