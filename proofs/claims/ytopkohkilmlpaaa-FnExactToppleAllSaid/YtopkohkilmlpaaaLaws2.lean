/-
  Marks in a list leave other lists as they are.
-/
import Derived.Test.YtopkohkilmlpaaaLaws
namespace Go.Proofs.Ytopkohkilmlpaaa
open Go.RowKit

theorem ResI.chgNe {w w' : World} {B b : Nat} {E : TypeId} {v : Value} {xs : List Int} (h : ResI w B E v xs) (hc : Chg b w w') (hb : v.ownBlock ≠ some b) : ResI w' B E v xs := by
  rcases h with h | ⟨g, cap, rfl, hg, ho⟩
  · exact Or.inl h
  · exact Or.inr ⟨g, cap, rfl, hg, ho.chg hc (fun q => hb (by simp [Value.ownBlock, q]))⟩
theorem markIntS_resC (B : Nat) (v : Value) (xs : List Int) (k : Int) (w : World) (hl : xs.length ≤ 1048576) (h0 : 0 ≤ k) (h1 : k ≤ 1099511627776) (hB : B ≤ w.heap.size) (hr : ResI w B 3 v xs) :
    Calls Try.prog 20 #[v, .int .i64 k] w fun e w' => e = .returned (.int .i64 (k + xs.length)) ∧ ResI w' B 3 v (tab xs.length fun i => k + i) ∧ Below B w w' ∧ (∀ u ys, ResI w B 3 u ys → (∀ q, u.ownBlock = some q → v.ownBlock ≠ some q) → ResI w' B 3 u ys) := by
  rcases hr with ⟨rfl, rfl⟩ | ⟨g, cap, rfl, hg, ho⟩
  · refine (markIntS_nil k w).mono fun e w' ⟨he, hw⟩ => ?_
    subst hw
    exact ⟨by rw [he]; simp, Or.inl ⟨rfl, rfl⟩, Below.refl _ _, fun u ys hu _ => hu⟩
  · refine (markIntS_own g cap xs k w hl h0 h1 ho).mono fun e w' ⟨he, ho', hc⟩ => ?_
    exact ⟨he, Or.inr ⟨g, cap, by rw [tab_length], hg, ho'⟩, hc.below hg hB, fun u ys hu hs => hu.chgNe hc (fun q => hs g q rfl)⟩

end Go.Proofs.Ytopkohkilmlpaaa
