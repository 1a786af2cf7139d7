/-
  Some texts of this proof in one: Shelf LineP PlQ. Each part tells what it proves. By an AI agent.
-/
import Derived.Shelf.Strconv.Itoa3
import Derived.Test.YtbcmnhppodfhpaaGreatProg
import Derived.Test.YtbcmnhppodfhpaaGreatLaws
import Derived.Laws.BytesArg
import Derived.WalkSpells
import Derived.WalkLawsBesides
import Derived.Deep.RegionHeld3
import Derived.Lib.ItoaNum
import Derived.Lib.ItoaLen
import Derived.Lib.ItoaWalk
import Derived.Lib.AtoiTie
import Derived.Laws.Concat
import Derived.WalkSmall
import Derived.Lib.AppendIntMem
import Derived.Lib.LaidTab
import Derived.Lib.IndexBytes
import Derived.Lib.IndexMore
import Derived.Deep.AppendLies
import Derived.Lib.SplitLaws
import Derived.Test.YtbcmnhppodfhpaaGreatCeA

/-
  The library's contracts that the shared texts ask for: none is in this dump.
-/
namespace Go.Proofs.YtbcmnhppodfhpaaGreat
end Go.Proofs.YtbcmnhppodfhpaaGreat

/-
  Lines, plain: where two lines meet, what moves with a line, texts of lines and their readings. No program in sight.
-/
namespace Go.Proofs.YtbcmnhppodfhpaaGreat

structure Ln where
  a : Int
  b : Int
  c : Int
def Ln.z : Ln := ⟨0, 0, 0⟩
/-! ### Meeting, moving -/
/-! ### Texts -/
end Go.Proofs.YtbcmnhppodfhpaaGreat

/-
  Plain: texts of plane polynomials, and what both readings of a text give. By an AI agent.
-/
namespace Go.Proofs.YtbcmnhppodfhpaaGreat
open Lib (decDigits)

theorem plane_term {l : List Tm} (h : planeB l = true) : ∀ t ∈ l, termB t = true := fun t ht => by
  unfold planeB at h
  obtain ⟨i, hi, rfl⟩ := List.getElem_of_mem ht
  have := plnK_term (Bool.and_eq_true_iff.1 h).2 hi
  unfold tmAt at this
  rwa [List.getD_eq_getElem?_getD, List.getElem?_eq_getElem hi, Option.getD_some] at this
theorem plane_len {l : List Tm} (h : planeB l = true) : 1 ≤ l.length ∧ l.length ≤ 12 := by
  unfold planeB at h
  have := inB_t.1 (Bool.and_eq_true_iff.1 h).1
  omega
end Go.Proofs.YtbcmnhppodfhpaaGreat
