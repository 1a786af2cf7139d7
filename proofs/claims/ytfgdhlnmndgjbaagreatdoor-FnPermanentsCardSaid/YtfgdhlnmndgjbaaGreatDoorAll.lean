/-
  Whether all numbers of a list lie in a range: the reference's.
-/
import Derived.Test.YtfgdhlnmndgjbaaGreatDoorGood
namespace Go.Proofs.YtfgdhlnmndgjbaaGreatDoor
open Go.RowKit

def allB (l : List Int) (lo hi : Int) : Bool := l.all fun x => inB x lo hi
theorem allB_t {l : List Int} {lo hi : Int} : allB l lo hi = true ↔ ∀ j, j < l.length → lo ≤ l.getD j 0 ∧ l.getD j 0 ≤ hi := by
  unfold allB
  rw [List.all_eq_true]
  constructor
  · intro h j hj
    have := h (l.getD j 0) (by simp [List.getD, hj])
    exact inB_t.1 this
  · intro h x hx
    obtain ⟨j, hj, rfl⟩ := List.getElem_of_mem hx
    have := h j hj
    rw [inB_t]
    simpa [List.getD, hj] using this
theorem allB_f {l : List Int} {lo hi : Int} {j : Nat} (hj : j < l.length) (h : inB (l.getD j 0) lo hi = false) : allB l lo hi = false := by
  unfold allB
  rw [List.all_eq_false]
  exact ⟨l.getD j 0, by simp [List.getD, hj], by simpa using h⟩

end Go.Proofs.YtfgdhlnmndgjbaaGreatDoor
