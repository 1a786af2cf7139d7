/-
  ChipSum, DebtsOf, LegalFirings: reference and program.
-/
import Derived.Test.YtmhmdbmiimpbnaaChips
namespace Go.Proofs.Ytmhmdbmiimpbnaa
open Go.RowKit

def sumR (n : Int) (ls : List Lk) (d : List Int) : Int × Bool := if bothB n ls d = true then (isum d, true) else (0, false)
def debtsR (n : Int) (ls : List Lk) (d : List Int) : List Int × Bool := if bothB n ls d = true then (selF d.length (fun v => decide (d.getD v 0 < 0)), true) else ([], false)
def legalR (n : Int) (ls : List Lk) (d : List Int) : List Int × Bool := if bothB n ls d = true then (selF d.length (fun v => decide (valF ls v ≤ d.getD v 0)), true) else ([], false)
theorem debtsR_len (n : Int) (ls : List Lk) (d : List Int) (h : d.length ≤ 1048576) : (debtsR n ls d).1.length ≤ 1048576 := by
  unfold debtsR
  split
  · exact Nat.le_trans (selF_len _ _) h
  · simp
theorem legalR_len (n : Int) (ls : List Lk) (d : List Int) (h : d.length ≤ 1048576) : (legalR n ls d).1.length ≤ 1048576 := by
  unfold legalR
  split
  · exact Nat.le_trans (selF_len _ _) h
  · simp

end Go.Proofs.Ytmhmdbmiimpbnaa
