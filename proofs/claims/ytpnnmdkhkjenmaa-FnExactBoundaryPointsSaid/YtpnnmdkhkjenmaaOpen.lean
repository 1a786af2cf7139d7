/-
  From the rows' readings to what the walks ask: arguments that are slices of links or of numbers; the frame of a law's proof.
-/
import Derived.Test.YtpnnmdkhkjenmaaLaws
import Derived.ProofKit
import Derived.Deep.Strs
import Derived.Deep.Slices
namespace Go.Proofs.Ytpnnmdkhkjenmaa
open Go.ChangeShapes Go.WideShapes Go.ChangeAt Go.RowKit Go.Deep

theorem Try.own : ownKnob Try.prog.godebug = none := by kernel_rfl
theorem Try.laidOut : laidOutB Try.prog = true := by kernel_rfl
theorem Try.cellsI : Try.prog.cellsOf 3 = 1 := by kernel_rfl
section
variable {H : Type} {enc : TypeId × Value → H} {W : World}

theorem wf_i64 {n : Int} (h : (Lit.int .i64 n).wf = true) : -9223372036854775808 ≤ n ∧ n ≤ 9223372036854775807 := by
  have h1 : IntKind.i64.min = -9223372036854775808 := rfl
  have h2 : IntKind.i64.max = 9223372036854775807 := rfl
  simp only [Lit.wf, Bool.and_eq_true, decide_eq_true_eq] at h
  omega

end

end Go.Proofs.Ytpnnmdkhkjenmaa
