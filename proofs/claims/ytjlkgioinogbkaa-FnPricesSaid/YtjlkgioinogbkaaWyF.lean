/-
  The program's costs of cheapest ways. By an AI agent.
-/
import Derived.Test.YtjlkgioinogbkaaMxC
import Derived.Test.YtjlkgioinogbkaaWyP
import Derived.StillTailTactics
namespace Go.Proofs.Ytjlkgioinogbkaa
open Go.RowKit

theorem MatO.rowF {w : World} {B n : Nat} {v : Value} {F : Nat → Nat → Int} {vs : List Value} (h : MatO w B v (toM n F) vs) {i : Nat} (hi : i < n) : ∃ b o c, vs.getD i undef = .slice (some ⟨b, o, none⟩) n c ∧ B ≤ b ∧ b < w.heap.size ∧
    (∀ j, j < n → w.cell? ⟨b, o + j, none⟩ = some (.int .i64 (F i j)) ∧ w.frozen? ⟨b, o + j, none⟩ = false) ∧ ∀ j x, j < n → MatO (w.setCell ⟨b, o + j, none⟩ (.int .i64 x)) B v (toM n (fun a c => if a = i ∧ c = j then x else F a c)) vs := by
  have e1 : ((toM n F).getD i []).length = n := by rw [toM_row F hi, tab_length]
  obtain ⟨h1, h2, h3, h4⟩ := h.rowOf (i := i) (by rw [toM_len]; exact hi) (by rw [e1]; omega)
  rw [e1] at h1 h4
  refine ⟨_, _, _, h1, h2, h3, fun j hj => ?_, fun j x hj => ?_⟩
  · have := h4 j hj
    rwa [toM_row F hi, tab_getD hj] at this
  · have := h.set (i := i) (j := j) (by rw [toM_len]; exact hi) (by rw [e1]; exact hj) x
    rwa [toM_set F j x hi] at this
theorem MatO.outer {w : World} {B n cap g : Nat} {F : Nat → Nat → Int} {vs : List Value} (h : MatO w B (.slice (some ⟨g, 0, none⟩) n cap) (toM n F) vs) (hn : 0 < n) : B ≤ g ∧ g < w.heap.size ∧ ∀ i, i < n → w.cell? ⟨g, i, none⟩ = some (vs.getD i undef) := by
  obtain ⟨g', cap', e, hB, _, ho⟩ := h.cells (by rw [toM_len]; exact hn)
  injection e with e _ _
  injection e with e
  injection e with e _ _
  subst e
  refine ⟨hB, ho.lt, fun i hi => ho.cell? ?_⟩
  have : i < vs.length := by rw [h.len, toM_len]; exact hi
  simp [List.getD, this]
def okF (n : Nat) (D : Nat → Nat → Int) : Bool := (List.range n).all fun i => decide (0 ≤ D i i)
theorem leastZ_if (a b : Int) : (if b < a then b else a) = leastZ a b := by unfold leastZ; split <;> split <;> omega
theorem okF_t {n : Nat} {D : Nat → Nat → Int} : okF n D = true ↔ ∀ i, i < n → 0 ≤ D i i := by
  unfold okF
  rw [List.all_eq_true]
  simp
theorem okF_f {n : Nat} {D : Nat → Nat → Int} {i : Nat} (hi : i < n) (h : D i i < 0) : okF n D = false := by
  rw [Bool.eq_false_iff]
  intro h2
  have := okF_t.1 h2 i hi
  omega
/-- The diagonal so far. -/
def dgF (m : Nat → Nat → Int) (k : Nat) : Nat → Nat → Int := fun i j => if i = j ∧ i < k then leastZ (m i i) 0 else m i j
/-- What is told of costs. -/
def WayR (n : Nat) (D : Nat → Nat → Int) (w : World) (e : Ending) (w' : World) : Prop :=
  (okF n D = true → ∃ adv cav, e = .returned (.tuple #[.slice adv n cav, .bool true]) ∧ ∃ vs, MatO w' w.heap.size (.slice adv n cav) (toM n D) vs) ∧ (okF n D = false → e = .returned (.tuple #[.slice none 0 0, .bool false])) ∧ Below w.heap.size w w'

end Go.Proofs.Ytjlkgioinogbkaa
