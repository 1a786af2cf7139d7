/-
  Small laws of worlds for regions by an invariant. By an AI agent.
-/
import Derived.Test.YtcionneopgdebaaGreatSkip
import Derived.Test.YtcionneopgdebaaGreatLaws
namespace Go.Proofs.YtcionneopgdebaaGreat
open Go.RowKit

theorem no_up {b : Bool} (h : b = false) (e : b = true) : False := by rw [h] at e; cases e
theorem bel_set {W w : World} {T i : Nat} {v : Value} (h : Below W.heap.size W w) (hT : W.heap.size ≤ T) : Below W.heap.size W (w.setCell ⟨T, i, none⟩ v) := h.setCell (p := ⟨T, i, none⟩) hT v
theorem Own.sO {w : World} {g b i : Nat} {E : TypeId} {cs : List Value} (hg : g ≠ b) (h : Own w g E cs) (v : Value) : Own (w.setCell ⟨b, i, none⟩ v) g E cs := Own.setOther h (a := ⟨b, i, none⟩) hg v
theorem bcellP {W w : World} {b o : Nat} {v : Value} (hb : Below W.heap.size W w) (h : b < W.heap.size ∧ W.cell? ⟨b, o, none⟩ = some v) : w.cell? ⟨b, o, none⟩ = some v := bcell hb h.1 h.2
theorem Own.newHG (w : World) {g : Nat} (cs : Array Value) (E : TypeId) {l : List Value} (h : cs.toList = l) (hg : w.heap.size = g) : Own (w.alloc (.cells cs E)) g E l := by
  subst hg; subst h; exact Own.newA w cs E rfl
end Go.Proofs.YtcionneopgdebaaGreat
