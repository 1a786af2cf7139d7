/-
  The program's permutations, whatever visits them. By an AI agent.
-/
import Derived.Test.YtfgdhlnmndgjbaaGreatDoorAsA
namespace Go.Proofs.YtfgdhlnmndgjbaaGreatDoor
open Go.RowKit

theorem Own.newHA (w : World) (c : Array Value) (E : TypeId) {cs : List Value} {H : Nat} (h : c.toList = cs) (hH : w.heap.size = H) : Own (w.alloc (.cells c E)) H E cs := by subst hH; exact Own.newA w c E h
theorem madeBls (n : Nat) : (madeCells #[.bool false] n).toList = bls n [] := by
  rw [toList_madeCells_one]
  simp [bls, tab, List.map_const']
/-- What the first statement of permutations leaves, in whatever order. -/
def PRel (h n : Nat) (W : World) (s4 s5 : Value) (wc : World) : Prop := ∃ L X3 R0 U, s4 = .pointer (some ⟨L, 0, none⟩) ∧ s5 = .pointer (some ⟨X3, 0, none⟩) ∧ (h + 2 ≤ L ∧ h + 2 ≤ X3 ∧ h + 2 ≤ R0 ∧ h + 2 ≤ U) ∧ (L ≠ X3 ∧ L ≠ R0 ∧ L ≠ U ∧ X3 ≠ R0 ∧ X3 ≠ U ∧ R0 ≠ U) ∧ Own wc L 38 [.slice (some ⟨R0, 0, none⟩) 0 0] ∧ Own wc X3 102 [.slice (some ⟨U, 0, none⟩) n n] ∧ RowI wc h (.slice (some ⟨R0, 0, none⟩) 0 0) [] ∧ Own wc U 4 (bls n []) ∧ Below W.heap.size W wc ∧ h + 2 + 1 + 1 + 1 + 1 = wc.heap.size
theorem chain4 (W : World) (H : Nat) (hW : W.heap.size = H) (a b c d : Obj) : ((((W.alloc a).alloc b).alloc c).alloc d).drew.heap[H]? = some a ∧ ((((W.alloc a).alloc b).alloc c).alloc d).drew.heap[H + 1]? = some b ∧ ((((W.alloc a).alloc b).alloc c).alloc d).drew.heap[H + 1 + 1]? = some c ∧ ((((W.alloc a).alloc b).alloc c).alloc d).drew.heap[H + 1 + 1 + 1]? = some d ∧ Below W.heap.size W ((((W.alloc a).alloc b).alloc c).alloc d).drew ∧ H + 1 + 1 + 1 + 1 = ((((W.alloc a).alloc b).alloc c).alloc d).drew.heap.size := by
  subst hW
  have s1 : (W.alloc a).heap.size = W.heap.size + 1 := by simp
  have s2 : ((W.alloc a).alloc b).heap.size = W.heap.size + 1 + 1 := by simp
  have s3 : (((W.alloc a).alloc b).alloc c).heap.size = W.heap.size + 1 + 1 + 1 := by simp
  have s4 : ((((W.alloc a).alloc b).alloc c).alloc d).heap.size = W.heap.size + 1 + 1 + 1 + 1 := by simp
  refine ⟨?_, ?_, ?_, ?_, (bal_alloc (bal_alloc (bal_alloc (bal_alloc (Below.refl _ _))))).drew, s4.symm⟩
  · exact (Deep.blk_alloc_lt _ _ _ (by omega)).trans ((Deep.blk_alloc_lt _ _ _ (by omega)).trans ((Deep.blk_alloc_lt _ _ _ (by omega)).trans (heap_alloc_at _ _ rfl)))
  · exact (Deep.blk_alloc_lt _ _ _ (by omega)).trans ((Deep.blk_alloc_lt _ _ _ (by omega)).trans (heap_alloc_at _ _ s1.symm))
  · exact (Deep.blk_alloc_lt _ _ _ (by omega)).trans (heap_alloc_at _ _ s2.symm)
  · exact heap_alloc_at _ _ s3.symm
theorem mkPRel {h n L X3 R0 U : Nat} {W wc : World} (hL : wc.heap[L]? = some (.cells #[.slice (some ⟨R0, 0, none⟩) 0 0] 38)) (hX : wc.heap[X3]? = some (.cells #[.slice (some ⟨U, 0, none⟩) n n] 102)) (hR : wc.heap[R0]? = some (.cells #[] 3)) (hU : wc.heap[U]? = some (.cells (madeCells #[.bool false] n) 4))
    (h1 : h + 2 ≤ L ∧ h + 2 ≤ X3 ∧ h + 2 ≤ R0 ∧ h + 2 ≤ U) (h2 : L ≠ X3 ∧ L ≠ R0 ∧ L ≠ U ∧ X3 ≠ R0 ∧ X3 ≠ U ∧ R0 ≠ U) (hb : Below W.heap.size W wc) (hs : h + 2 + 1 + 1 + 1 + 1 = wc.heap.size) : PRel h n W (.pointer (some ⟨L, 0, none⟩)) (.pointer (some ⟨X3, 0, none⟩)) wc :=
  ⟨L, X3, R0, U, rfl, rfl, h1, h2, ⟨_, hL, rfl⟩, ⟨_, hX, rfl⟩, ⟨rfl, .inr ⟨R0, 0, #[], rfl, by omega, hR, Nat.le_refl _, by unfold maxLen; omega, rfl, rfl⟩⟩, ⟨_, hU, by rw [madeBls, List.take_of_length_le (by simp)]⟩, hb, hs⟩
theorem ordP1 (W : World) (h n : Nat) (hW : W.heap.size = h + 2) : PRel h n W (.pointer (some ⟨h + 2 + 1 + 1, 0, none⟩)) (.pointer (some ⟨h + 2 + 1 + 1 + 1, 0, none⟩)) ((((W.alloc (.cells #[] 3)).alloc (.cells (madeCells #[.bool false] n) 4)).alloc (.cells #[.slice (some ⟨h + 2, 0, none⟩) 0 0] 38)).alloc (.cells #[.slice (some ⟨h + 2 + 1, 0, none⟩) n n] 102)).drew := by
  obtain ⟨g1, g2, g3, g4, hb, hs⟩ := chain4 W (h + 2) hW (.cells #[] 3) (.cells (madeCells #[.bool false] n) 4) (.cells #[.slice (some ⟨h + 2, 0, none⟩) 0 0] 38) (.cells #[.slice (some ⟨h + 2 + 1, 0, none⟩) n n] 102)
  exact mkPRel g3 g4 g1 g2 ⟨by omega, by omega, by omega, by omega⟩ ⟨by omega, by omega, by omega, by omega, by omega, by omega⟩ hb hs
theorem ordP2 (W : World) (h n : Nat) (hW : W.heap.size = h + 2) : PRel h n W (.pointer (some ⟨h + 2 + 1 + 1 + 1, 0, none⟩)) (.pointer (some ⟨h + 2 + 1 + 1, 0, none⟩)) ((((W.alloc (.cells #[] 3)).alloc (.cells (madeCells #[.bool false] n) 4)).alloc (.cells #[.slice (some ⟨h + 2 + 1, 0, none⟩) n n] 102)).alloc (.cells #[.slice (some ⟨h + 2, 0, none⟩) 0 0] 38)).drew := by
  obtain ⟨g1, g2, g3, g4, hb, hs⟩ := chain4 W (h + 2) hW (.cells #[] 3) (.cells (madeCells #[.bool false] n) 4) (.cells #[.slice (some ⟨h + 2 + 1, 0, none⟩) n n] 102) (.cells #[.slice (some ⟨h + 2, 0, none⟩) 0 0] 38)
  exact mkPRel g4 g3 g1 g2 ⟨by omega, by omega, by omega, by omega⟩ ⟨by omega, by omega, by omega, by omega, by omega, by omega⟩ hb hs
theorem ordP3 (W : World) (h n : Nat) (hW : W.heap.size = h + 2) : PRel h n W (.pointer (some ⟨h + 2 + 1, 0, none⟩)) (.pointer (some ⟨h + 2 + 1 + 1 + 1, 0, none⟩)) ((((W.alloc (.cells #[] 3)).alloc (.cells #[.slice (some ⟨h + 2, 0, none⟩) 0 0] 38)).alloc (.cells (madeCells #[.bool false] n) 4)).alloc (.cells #[.slice (some ⟨h + 2 + 1 + 1, 0, none⟩) n n] 102)).drew := by
  obtain ⟨g1, g2, g3, g4, hb, hs⟩ := chain4 W (h + 2) hW (.cells #[] 3) (.cells #[.slice (some ⟨h + 2, 0, none⟩) 0 0] 38) (.cells (madeCells #[.bool false] n) 4) (.cells #[.slice (some ⟨h + 2 + 1 + 1, 0, none⟩) n n] 102)
  exact mkPRel g2 g4 g1 g3 ⟨by omega, by omega, by omega, by omega⟩ ⟨by omega, by omega, by omega, by omega, by omega, by omega⟩ hb hs
theorem ordP4 (W : World) (h n : Nat) (hW : W.heap.size = h + 2) : PRel h n W (.pointer (some ⟨h + 2 + 1, 0, none⟩)) (.pointer (some ⟨h + 2 + 1 + 1, 0, none⟩)) ((((W.alloc (.cells #[] 3)).alloc (.cells #[.slice (some ⟨h + 2, 0, none⟩) 0 0] 38)).alloc (.cells #[.slice (some ⟨h + 2 + 1 + 1 + 1, 0, none⟩) n n] 102)).alloc (.cells (madeCells #[.bool false] n) 4)).drew := by
  obtain ⟨g1, g2, g3, g4, hb, hs⟩ := chain4 W (h + 2) hW (.cells #[] 3) (.cells #[.slice (some ⟨h + 2, 0, none⟩) 0 0] 38) (.cells #[.slice (some ⟨h + 2 + 1 + 1 + 1, 0, none⟩) n n] 102) (.cells (madeCells #[.bool false] n) 4)
  exact mkPRel g2 g3 g1 g4 ⟨by omega, by omega, by omega, by omega⟩ ⟨by omega, by omega, by omega, by omega, by omega, by omega⟩ hb hs
theorem ordP5 (W : World) (h n : Nat) (hW : W.heap.size = h + 2) : PRel h n W (.pointer (some ⟨h + 2 + 1 + 1 + 1, 0, none⟩)) (.pointer (some ⟨h + 2 + 1, 0, none⟩)) ((((W.alloc (.cells #[] 3)).alloc (.cells #[.slice (some ⟨h + 2 + 1 + 1, 0, none⟩) n n] 102)).alloc (.cells (madeCells #[.bool false] n) 4)).alloc (.cells #[.slice (some ⟨h + 2, 0, none⟩) 0 0] 38)).drew := by
  obtain ⟨g1, g2, g3, g4, hb, hs⟩ := chain4 W (h + 2) hW (.cells #[] 3) (.cells #[.slice (some ⟨h + 2 + 1 + 1, 0, none⟩) n n] 102) (.cells (madeCells #[.bool false] n) 4) (.cells #[.slice (some ⟨h + 2, 0, none⟩) 0 0] 38)
  exact mkPRel g4 g2 g1 g3 ⟨by omega, by omega, by omega, by omega⟩ ⟨by omega, by omega, by omega, by omega, by omega, by omega⟩ hb hs
theorem ordP6 (W : World) (h n : Nat) (hW : W.heap.size = h + 2) : PRel h n W (.pointer (some ⟨h + 2 + 1 + 1, 0, none⟩)) (.pointer (some ⟨h + 2 + 1, 0, none⟩)) ((((W.alloc (.cells #[] 3)).alloc (.cells #[.slice (some ⟨h + 2 + 1 + 1 + 1, 0, none⟩) n n] 102)).alloc (.cells #[.slice (some ⟨h + 2, 0, none⟩) 0 0] 38)).alloc (.cells (madeCells #[.bool false] n) 4)).drew := by
  obtain ⟨g1, g2, g3, g4, hb, hs⟩ := chain4 W (h + 2) hW (.cells #[] 3) (.cells #[.slice (some ⟨h + 2 + 1 + 1 + 1, 0, none⟩) n n] 102) (.cells #[.slice (some ⟨h + 2, 0, none⟩) 0 0] 38) (.cells (madeCells #[.bool false] n) 4)
  exact mkPRel g3 g2 g1 g4 ⟨by omega, by omega, by omega, by omega⟩ ⟨by omega, by omega, by omega, by omega, by omega, by omega⟩ hb hs
theorem ordP7 (W : World) (h n : Nat) (hW : W.heap.size = h + 2) : PRel h n W (.pointer (some ⟨h + 2 + 1 + 1, 0, none⟩)) (.pointer (some ⟨h + 2 + 1 + 1 + 1, 0, none⟩)) ((((W.alloc (.cells (madeCells #[.bool false] n) 4)).alloc (.cells #[] 3)).alloc (.cells #[.slice (some ⟨h + 2 + 1, 0, none⟩) 0 0] 38)).alloc (.cells #[.slice (some ⟨h + 2, 0, none⟩) n n] 102)).drew := by
  obtain ⟨g1, g2, g3, g4, hb, hs⟩ := chain4 W (h + 2) hW (.cells (madeCells #[.bool false] n) 4) (.cells #[] 3) (.cells #[.slice (some ⟨h + 2 + 1, 0, none⟩) 0 0] 38) (.cells #[.slice (some ⟨h + 2, 0, none⟩) n n] 102)
  exact mkPRel g3 g4 g2 g1 ⟨by omega, by omega, by omega, by omega⟩ ⟨by omega, by omega, by omega, by omega, by omega, by omega⟩ hb hs
theorem ordP8 (W : World) (h n : Nat) (hW : W.heap.size = h + 2) : PRel h n W (.pointer (some ⟨h + 2 + 1 + 1 + 1, 0, none⟩)) (.pointer (some ⟨h + 2 + 1 + 1, 0, none⟩)) ((((W.alloc (.cells (madeCells #[.bool false] n) 4)).alloc (.cells #[] 3)).alloc (.cells #[.slice (some ⟨h + 2, 0, none⟩) n n] 102)).alloc (.cells #[.slice (some ⟨h + 2 + 1, 0, none⟩) 0 0] 38)).drew := by
  obtain ⟨g1, g2, g3, g4, hb, hs⟩ := chain4 W (h + 2) hW (.cells (madeCells #[.bool false] n) 4) (.cells #[] 3) (.cells #[.slice (some ⟨h + 2, 0, none⟩) n n] 102) (.cells #[.slice (some ⟨h + 2 + 1, 0, none⟩) 0 0] 38)
  exact mkPRel g4 g3 g2 g1 ⟨by omega, by omega, by omega, by omega⟩ ⟨by omega, by omega, by omega, by omega, by omega, by omega⟩ hb hs
theorem ordP9 (W : World) (h n : Nat) (hW : W.heap.size = h + 2) : PRel h n W (.pointer (some ⟨h + 2 + 1, 0, none⟩)) (.pointer (some ⟨h + 2 + 1 + 1 + 1, 0, none⟩)) ((((W.alloc (.cells (madeCells #[.bool false] n) 4)).alloc (.cells #[.slice (some ⟨h + 2 + 1 + 1, 0, none⟩) 0 0] 38)).alloc (.cells #[] 3)).alloc (.cells #[.slice (some ⟨h + 2, 0, none⟩) n n] 102)).drew := by
  obtain ⟨g1, g2, g3, g4, hb, hs⟩ := chain4 W (h + 2) hW (.cells (madeCells #[.bool false] n) 4) (.cells #[.slice (some ⟨h + 2 + 1 + 1, 0, none⟩) 0 0] 38) (.cells #[] 3) (.cells #[.slice (some ⟨h + 2, 0, none⟩) n n] 102)
  exact mkPRel g2 g4 g3 g1 ⟨by omega, by omega, by omega, by omega⟩ ⟨by omega, by omega, by omega, by omega, by omega, by omega⟩ hb hs
theorem ordP10 (W : World) (h n : Nat) (hW : W.heap.size = h + 2) : PRel h n W (.pointer (some ⟨h + 2 + 1, 0, none⟩)) (.pointer (some ⟨h + 2 + 1 + 1, 0, none⟩)) ((((W.alloc (.cells (madeCells #[.bool false] n) 4)).alloc (.cells #[.slice (some ⟨h + 2 + 1 + 1 + 1, 0, none⟩) 0 0] 38)).alloc (.cells #[.slice (some ⟨h + 2, 0, none⟩) n n] 102)).alloc (.cells #[] 3)).drew := by
  obtain ⟨g1, g2, g3, g4, hb, hs⟩ := chain4 W (h + 2) hW (.cells (madeCells #[.bool false] n) 4) (.cells #[.slice (some ⟨h + 2 + 1 + 1 + 1, 0, none⟩) 0 0] 38) (.cells #[.slice (some ⟨h + 2, 0, none⟩) n n] 102) (.cells #[] 3)
  exact mkPRel g2 g3 g4 g1 ⟨by omega, by omega, by omega, by omega⟩ ⟨by omega, by omega, by omega, by omega, by omega, by omega⟩ hb hs
theorem ordP11 (W : World) (h n : Nat) (hW : W.heap.size = h + 2) : PRel h n W (.pointer (some ⟨h + 2 + 1 + 1 + 1, 0, none⟩)) (.pointer (some ⟨h + 2 + 1, 0, none⟩)) ((((W.alloc (.cells (madeCells #[.bool false] n) 4)).alloc (.cells #[.slice (some ⟨h + 2, 0, none⟩) n n] 102)).alloc (.cells #[] 3)).alloc (.cells #[.slice (some ⟨h + 2 + 1 + 1, 0, none⟩) 0 0] 38)).drew := by
  obtain ⟨g1, g2, g3, g4, hb, hs⟩ := chain4 W (h + 2) hW (.cells (madeCells #[.bool false] n) 4) (.cells #[.slice (some ⟨h + 2, 0, none⟩) n n] 102) (.cells #[] 3) (.cells #[.slice (some ⟨h + 2 + 1 + 1, 0, none⟩) 0 0] 38)
  exact mkPRel g4 g2 g3 g1 ⟨by omega, by omega, by omega, by omega⟩ ⟨by omega, by omega, by omega, by omega, by omega, by omega⟩ hb hs
theorem ordP12 (W : World) (h n : Nat) (hW : W.heap.size = h + 2) : PRel h n W (.pointer (some ⟨h + 2 + 1 + 1, 0, none⟩)) (.pointer (some ⟨h + 2 + 1, 0, none⟩)) ((((W.alloc (.cells (madeCells #[.bool false] n) 4)).alloc (.cells #[.slice (some ⟨h + 2, 0, none⟩) n n] 102)).alloc (.cells #[.slice (some ⟨h + 2 + 1 + 1 + 1, 0, none⟩) 0 0] 38)).alloc (.cells #[] 3)).drew := by
  obtain ⟨g1, g2, g3, g4, hb, hs⟩ := chain4 W (h + 2) hW (.cells (madeCells #[.bool false] n) 4) (.cells #[.slice (some ⟨h + 2, 0, none⟩) n n] 102) (.cells #[.slice (some ⟨h + 2 + 1 + 1 + 1, 0, none⟩) 0 0] 38) (.cells #[] 3)
  exact mkPRel g3 g2 g4 g1 ⟨by omega, by omega, by omega, by omega⟩ ⟨by omega, by omega, by omega, by omega, by omega, by omega⟩ hb hs
theorem ordP13 (W : World) (h n : Nat) (hW : W.heap.size = h + 2) : PRel h n W (.pointer (some ⟨h + 2, 0, none⟩)) (.pointer (some ⟨h + 2 + 1 + 1 + 1, 0, none⟩)) ((((W.alloc (.cells #[.slice (some ⟨h + 2 + 1, 0, none⟩) 0 0] 38)).alloc (.cells #[] 3)).alloc (.cells (madeCells #[.bool false] n) 4)).alloc (.cells #[.slice (some ⟨h + 2 + 1 + 1, 0, none⟩) n n] 102)).drew := by
  obtain ⟨g1, g2, g3, g4, hb, hs⟩ := chain4 W (h + 2) hW (.cells #[.slice (some ⟨h + 2 + 1, 0, none⟩) 0 0] 38) (.cells #[] 3) (.cells (madeCells #[.bool false] n) 4) (.cells #[.slice (some ⟨h + 2 + 1 + 1, 0, none⟩) n n] 102)
  exact mkPRel g1 g4 g2 g3 ⟨by omega, by omega, by omega, by omega⟩ ⟨by omega, by omega, by omega, by omega, by omega, by omega⟩ hb hs
theorem ordP14 (W : World) (h n : Nat) (hW : W.heap.size = h + 2) : PRel h n W (.pointer (some ⟨h + 2, 0, none⟩)) (.pointer (some ⟨h + 2 + 1 + 1, 0, none⟩)) ((((W.alloc (.cells #[.slice (some ⟨h + 2 + 1, 0, none⟩) 0 0] 38)).alloc (.cells #[] 3)).alloc (.cells #[.slice (some ⟨h + 2 + 1 + 1 + 1, 0, none⟩) n n] 102)).alloc (.cells (madeCells #[.bool false] n) 4)).drew := by
  obtain ⟨g1, g2, g3, g4, hb, hs⟩ := chain4 W (h + 2) hW (.cells #[.slice (some ⟨h + 2 + 1, 0, none⟩) 0 0] 38) (.cells #[] 3) (.cells #[.slice (some ⟨h + 2 + 1 + 1 + 1, 0, none⟩) n n] 102) (.cells (madeCells #[.bool false] n) 4)
  exact mkPRel g1 g3 g2 g4 ⟨by omega, by omega, by omega, by omega⟩ ⟨by omega, by omega, by omega, by omega, by omega, by omega⟩ hb hs
theorem ordP15 (W : World) (h n : Nat) (hW : W.heap.size = h + 2) : PRel h n W (.pointer (some ⟨h + 2, 0, none⟩)) (.pointer (some ⟨h + 2 + 1 + 1 + 1, 0, none⟩)) ((((W.alloc (.cells #[.slice (some ⟨h + 2 + 1 + 1, 0, none⟩) 0 0] 38)).alloc (.cells (madeCells #[.bool false] n) 4)).alloc (.cells #[] 3)).alloc (.cells #[.slice (some ⟨h + 2 + 1, 0, none⟩) n n] 102)).drew := by
  obtain ⟨g1, g2, g3, g4, hb, hs⟩ := chain4 W (h + 2) hW (.cells #[.slice (some ⟨h + 2 + 1 + 1, 0, none⟩) 0 0] 38) (.cells (madeCells #[.bool false] n) 4) (.cells #[] 3) (.cells #[.slice (some ⟨h + 2 + 1, 0, none⟩) n n] 102)
  exact mkPRel g1 g4 g3 g2 ⟨by omega, by omega, by omega, by omega⟩ ⟨by omega, by omega, by omega, by omega, by omega, by omega⟩ hb hs
theorem ordP16 (W : World) (h n : Nat) (hW : W.heap.size = h + 2) : PRel h n W (.pointer (some ⟨h + 2, 0, none⟩)) (.pointer (some ⟨h + 2 + 1 + 1, 0, none⟩)) ((((W.alloc (.cells #[.slice (some ⟨h + 2 + 1 + 1 + 1, 0, none⟩) 0 0] 38)).alloc (.cells (madeCells #[.bool false] n) 4)).alloc (.cells #[.slice (some ⟨h + 2 + 1, 0, none⟩) n n] 102)).alloc (.cells #[] 3)).drew := by
  obtain ⟨g1, g2, g3, g4, hb, hs⟩ := chain4 W (h + 2) hW (.cells #[.slice (some ⟨h + 2 + 1 + 1 + 1, 0, none⟩) 0 0] 38) (.cells (madeCells #[.bool false] n) 4) (.cells #[.slice (some ⟨h + 2 + 1, 0, none⟩) n n] 102) (.cells #[] 3)
  exact mkPRel g1 g3 g4 g2 ⟨by omega, by omega, by omega, by omega⟩ ⟨by omega, by omega, by omega, by omega, by omega, by omega⟩ hb hs
theorem ordP17 (W : World) (h n : Nat) (hW : W.heap.size = h + 2) : PRel h n W (.pointer (some ⟨h + 2, 0, none⟩)) (.pointer (some ⟨h + 2 + 1, 0, none⟩)) ((((W.alloc (.cells #[.slice (some ⟨h + 2 + 1 + 1, 0, none⟩) 0 0] 38)).alloc (.cells #[.slice (some ⟨h + 2 + 1 + 1 + 1, 0, none⟩) n n] 102)).alloc (.cells #[] 3)).alloc (.cells (madeCells #[.bool false] n) 4)).drew := by
  obtain ⟨g1, g2, g3, g4, hb, hs⟩ := chain4 W (h + 2) hW (.cells #[.slice (some ⟨h + 2 + 1 + 1, 0, none⟩) 0 0] 38) (.cells #[.slice (some ⟨h + 2 + 1 + 1 + 1, 0, none⟩) n n] 102) (.cells #[] 3) (.cells (madeCells #[.bool false] n) 4)
  exact mkPRel g1 g2 g3 g4 ⟨by omega, by omega, by omega, by omega⟩ ⟨by omega, by omega, by omega, by omega, by omega, by omega⟩ hb hs
theorem ordP18 (W : World) (h n : Nat) (hW : W.heap.size = h + 2) : PRel h n W (.pointer (some ⟨h + 2, 0, none⟩)) (.pointer (some ⟨h + 2 + 1, 0, none⟩)) ((((W.alloc (.cells #[.slice (some ⟨h + 2 + 1 + 1 + 1, 0, none⟩) 0 0] 38)).alloc (.cells #[.slice (some ⟨h + 2 + 1 + 1, 0, none⟩) n n] 102)).alloc (.cells (madeCells #[.bool false] n) 4)).alloc (.cells #[] 3)).drew := by
  obtain ⟨g1, g2, g3, g4, hb, hs⟩ := chain4 W (h + 2) hW (.cells #[.slice (some ⟨h + 2 + 1 + 1 + 1, 0, none⟩) 0 0] 38) (.cells #[.slice (some ⟨h + 2 + 1 + 1, 0, none⟩) n n] 102) (.cells (madeCells #[.bool false] n) 4) (.cells #[] 3)
  exact mkPRel g1 g2 g4 g3 ⟨by omega, by omega, by omega, by omega⟩ ⟨by omega, by omega, by omega, by omega, by omega, by omega⟩ hb hs
theorem ordP19 (W : World) (h n : Nat) (hW : W.heap.size = h + 2) : PRel h n W (.pointer (some ⟨h + 2 + 1 + 1 + 1, 0, none⟩)) (.pointer (some ⟨h + 2, 0, none⟩)) ((((W.alloc (.cells #[.slice (some ⟨h + 2 + 1 + 1, 0, none⟩) n n] 102)).alloc (.cells #[] 3)).alloc (.cells (madeCells #[.bool false] n) 4)).alloc (.cells #[.slice (some ⟨h + 2 + 1, 0, none⟩) 0 0] 38)).drew := by
  obtain ⟨g1, g2, g3, g4, hb, hs⟩ := chain4 W (h + 2) hW (.cells #[.slice (some ⟨h + 2 + 1 + 1, 0, none⟩) n n] 102) (.cells #[] 3) (.cells (madeCells #[.bool false] n) 4) (.cells #[.slice (some ⟨h + 2 + 1, 0, none⟩) 0 0] 38)
  exact mkPRel g4 g1 g2 g3 ⟨by omega, by omega, by omega, by omega⟩ ⟨by omega, by omega, by omega, by omega, by omega, by omega⟩ hb hs
theorem ordP20 (W : World) (h n : Nat) (hW : W.heap.size = h + 2) : PRel h n W (.pointer (some ⟨h + 2 + 1 + 1, 0, none⟩)) (.pointer (some ⟨h + 2, 0, none⟩)) ((((W.alloc (.cells #[.slice (some ⟨h + 2 + 1 + 1 + 1, 0, none⟩) n n] 102)).alloc (.cells #[] 3)).alloc (.cells #[.slice (some ⟨h + 2 + 1, 0, none⟩) 0 0] 38)).alloc (.cells (madeCells #[.bool false] n) 4)).drew := by
  obtain ⟨g1, g2, g3, g4, hb, hs⟩ := chain4 W (h + 2) hW (.cells #[.slice (some ⟨h + 2 + 1 + 1 + 1, 0, none⟩) n n] 102) (.cells #[] 3) (.cells #[.slice (some ⟨h + 2 + 1, 0, none⟩) 0 0] 38) (.cells (madeCells #[.bool false] n) 4)
  exact mkPRel g3 g1 g2 g4 ⟨by omega, by omega, by omega, by omega⟩ ⟨by omega, by omega, by omega, by omega, by omega, by omega⟩ hb hs
theorem ordP21 (W : World) (h n : Nat) (hW : W.heap.size = h + 2) : PRel h n W (.pointer (some ⟨h + 2 + 1 + 1 + 1, 0, none⟩)) (.pointer (some ⟨h + 2, 0, none⟩)) ((((W.alloc (.cells #[.slice (some ⟨h + 2 + 1, 0, none⟩) n n] 102)).alloc (.cells (madeCells #[.bool false] n) 4)).alloc (.cells #[] 3)).alloc (.cells #[.slice (some ⟨h + 2 + 1 + 1, 0, none⟩) 0 0] 38)).drew := by
  obtain ⟨g1, g2, g3, g4, hb, hs⟩ := chain4 W (h + 2) hW (.cells #[.slice (some ⟨h + 2 + 1, 0, none⟩) n n] 102) (.cells (madeCells #[.bool false] n) 4) (.cells #[] 3) (.cells #[.slice (some ⟨h + 2 + 1 + 1, 0, none⟩) 0 0] 38)
  exact mkPRel g4 g1 g3 g2 ⟨by omega, by omega, by omega, by omega⟩ ⟨by omega, by omega, by omega, by omega, by omega, by omega⟩ hb hs
theorem ordP22 (W : World) (h n : Nat) (hW : W.heap.size = h + 2) : PRel h n W (.pointer (some ⟨h + 2 + 1 + 1, 0, none⟩)) (.pointer (some ⟨h + 2, 0, none⟩)) ((((W.alloc (.cells #[.slice (some ⟨h + 2 + 1, 0, none⟩) n n] 102)).alloc (.cells (madeCells #[.bool false] n) 4)).alloc (.cells #[.slice (some ⟨h + 2 + 1 + 1 + 1, 0, none⟩) 0 0] 38)).alloc (.cells #[] 3)).drew := by
  obtain ⟨g1, g2, g3, g4, hb, hs⟩ := chain4 W (h + 2) hW (.cells #[.slice (some ⟨h + 2 + 1, 0, none⟩) n n] 102) (.cells (madeCells #[.bool false] n) 4) (.cells #[.slice (some ⟨h + 2 + 1 + 1 + 1, 0, none⟩) 0 0] 38) (.cells #[] 3)
  exact mkPRel g3 g1 g4 g2 ⟨by omega, by omega, by omega, by omega⟩ ⟨by omega, by omega, by omega, by omega, by omega, by omega⟩ hb hs
theorem ordP23 (W : World) (h n : Nat) (hW : W.heap.size = h + 2) : PRel h n W (.pointer (some ⟨h + 2 + 1, 0, none⟩)) (.pointer (some ⟨h + 2, 0, none⟩)) ((((W.alloc (.cells #[.slice (some ⟨h + 2 + 1 + 1 + 1, 0, none⟩) n n] 102)).alloc (.cells #[.slice (some ⟨h + 2 + 1 + 1, 0, none⟩) 0 0] 38)).alloc (.cells #[] 3)).alloc (.cells (madeCells #[.bool false] n) 4)).drew := by
  obtain ⟨g1, g2, g3, g4, hb, hs⟩ := chain4 W (h + 2) hW (.cells #[.slice (some ⟨h + 2 + 1 + 1 + 1, 0, none⟩) n n] 102) (.cells #[.slice (some ⟨h + 2 + 1 + 1, 0, none⟩) 0 0] 38) (.cells #[] 3) (.cells (madeCells #[.bool false] n) 4)
  exact mkPRel g2 g1 g3 g4 ⟨by omega, by omega, by omega, by omega⟩ ⟨by omega, by omega, by omega, by omega, by omega, by omega⟩ hb hs
theorem ordP24 (W : World) (h n : Nat) (hW : W.heap.size = h + 2) : PRel h n W (.pointer (some ⟨h + 2 + 1, 0, none⟩)) (.pointer (some ⟨h + 2, 0, none⟩)) ((((W.alloc (.cells #[.slice (some ⟨h + 2 + 1 + 1, 0, none⟩) n n] 102)).alloc (.cells #[.slice (some ⟨h + 2 + 1 + 1 + 1, 0, none⟩) 0 0] 38)).alloc (.cells (madeCells #[.bool false] n) 4)).alloc (.cells #[] 3)).drew := by
  obtain ⟨g1, g2, g3, g4, hb, hs⟩ := chain4 W (h + 2) hW (.cells #[.slice (some ⟨h + 2 + 1 + 1, 0, none⟩) n n] 102) (.cells #[.slice (some ⟨h + 2 + 1 + 1 + 1, 0, none⟩) 0 0] 38) (.cells (madeCells #[.bool false] n) 4) (.cells #[] 3)
  exact mkPRel g2 g1 g4 g3 ⟨by omega, by omega, by omega, by omega⟩ ⟨by omega, by omega, by omega, by omega, by omega, by omega⟩ hb hs
section
variable {σ : Type} {V : World → σ → Value → Prop} {fp : Value → Nat → Prop} {step : σ → List Int → σ} {fid : FuncId} {c1 c2 c3 : Value} {n : Nat} {B0 : Nat → Prop}
set_option maxHeartbeats 6400000 in
set_option maxRecDepth 100000 in
theorem permutations_c (w : World) (s : σ) (vb : Value) (hn : 1 ≤ n ∧ n ≤ 6) (hH : VisH V fp step fid c1 c2 c3 n w.heap.size B0 w) (hv : V w s vb) (hB : ∀ q, fp vb q → B0 q) :
    Calls Tryz.prog 60 #[.int .i64 n, .func (Fn.func fid) #[] #[c1, c2, c3]] w fun e w' => e = .returned (.tuple #[]) ∧ ∃ vb', V w' ((prmA n).foldl step s) vb' ∧ FrP w.heap.size B0 w w' ∧ ∀ q, fp vb' q → B0 q ∨ w.heap.size ≤ q := by
  have HH := Lib.hid hH; have HV := Lib.hid hv; have HB := Lib.hid hB
  have hmk := fun (w : World) => run_makeN (P := Tryz.prog) 102 4 (.bool false) 1 1 Tryz.underlying102 (by kernel_rfl) n (by omega) (by omega) w
  clear hH hv hB
  obtain ⟨h, hh⟩ : ∃ h, w.heap.size = h := ⟨_, rfl⟩
  have kN : ((w.alloc (.cells #[.int .i64 n] 3)).alloc (.cells #[.func (Fn.func fid) #[] #[c1, c2, c3]] 78)).cell? ⟨h, 0, none⟩ = some (.int .i64 n) := ((Own.newHA w _ _ rfl hh).alloc _).cell? (i := 0) rfl
  go_enter Tryz.func60, Tryz.ntmps60
  go_wp2_with fail
  obtain ⟨W, hW⟩ : ∃ W, (w.alloc (.cells #[.int .i64 n] 3)).alloc (.cells #[.func (Fn.func fid) #[] #[c1, c2, c3]] 78) = W := ⟨_, rfl⟩
  rw [hW] at kN ⊢
  have HW := Lib.hid hW
  have hWs : W.heap.size = h + 2 := by rw [← hW]; simp; omega
  clear hW
  go_cut [4, 5] from 4 to 9 (fun s4 s5 wc => PRel h n W s4 s5 wc)
  case first =>
    go_region_held3 (fun w' => w'.cell? ⟨h, 0, none⟩ = some (.int .i64 n)) (with_reducible repeat' (first | assumption | apply cell_alloc' | apply cell_drew' | (refine cell_set' (by omega) ?_))) (fail)
    all_goals go_wp2_with fail
    all_goals go_meet
    all_goals with_reducible (first | exact ordP1 W h n hWs | exact ordP2 W h n hWs | exact ordP3 W h n hWs | exact ordP4 W h n hWs | exact ordP5 W h n hWs | exact ordP6 W h n hWs | exact ordP7 W h n hWs | exact ordP8 W h n hWs | exact ordP9 W h n hWs | exact ordP10 W h n hWs | exact ordP11 W h n hWs | exact ordP12 W h n hWs | exact ordP13 W h n hWs | exact ordP14 W h n hWs | exact ordP15 W h n hWs | exact ordP16 W h n hWs | exact ordP17 W h n hWs | exact ordP18 W h n hWs | exact ordP19 W h n hWs | exact ordP20 W h n hWs | exact ordP21 W h n hWs | exact ordP22 W h n hWs | exact ordP23 W h n hWs | exact ordP24 W h n hWs)
  case rest =>
    obtain ⟨L, X3, R0, U, rfl, rfl, ⟨b1, b2, b3, b4⟩, ⟨d1, d2, d3, d4, d5, d6⟩, hoL, hoX, hrl, hoU, hbel, hsz⟩ := hcut
    have HH2 := HH.out
    rw [hh] at HH2
    have kV : W.cell? ⟨h + 1, 0, none⟩ = some (.func (Fn.func fid) #[] #[c1, c2, c3]) := by
      rw [← HW.out]
      exact (Own.newHA _ _ _ rfl (by simp; omega)).cell? (i := 0) rfl
    have hbw : Below h w W := by
      rw [← HW.out, ← hh]
      exact bal_alloc (bal_alloc (Below.refl _ _))
    have hbw2 : Below h w wc := hbw.trans (hbel.mono (by omega))
    have HL := Lib.hid (show PermL h (wc.heap.size + 1) L U R0 h (h + 1) X3 wc.heap.size from ⟨by omega, ⟨by omega, by have := hoL.lt; omega⟩, ⟨by omega, by have := hoU.lt; omega, d3⟩, ⟨by omega, by have := (World.ownsRow.lt hrl R0 rfl).2; omega⟩, ⟨by omega, by omega, by omega, by omega, by omega⟩, ⟨by omega, by omega, by omega, by omega, by omega⟩, ⟨by omega, by have := hoX.lt; omega, by omega, by omega, by omega⟩, ⟨by omega, by omega, by have := hoL.lt; omega, by have := hoU.lt; omega, by have := (World.ownsRow.lt hrl R0 rfl).2; omega⟩⟩)
    have kN2 := bcell' hbel kN
    have kV2 := bcell' hbel kV
    have HQ := Lib.hid (fun (fv : Value) (hfv : fv = nxF L h (h + 1) X3 wc.heap.size) => by
      have hlast := (Own.newHA wc #[fv] 1 (cs := [fv]) rfl rfl).cell? (i := 0) rfl
      have hba := bal_alloc (o := .cells #[fv] 1) (Below.refl wc.heap.size wc)
      have hbw3 : Below h w (wc.alloc (.cells #[fv] 1)) := hbw2.trans (hba.mono (by omega))
      exact (show PermI V fp (wc.alloc (.cells #[fv] 1)) n h (wc.heap.size + 1) L U R0 B0 [] s (.slice (some ⟨R0, 0, none⟩) 0 0) vb ∧ PermC w (wc.alloc (.cells #[fv] 1)) fid c1 c2 c3 n h L U h (h + 1) X3 wc.heap.size B0 ∧ FrP h B0 w (wc.alloc (.cells #[fv] 1)) from
        ⟨⟨by simp, hoL.alloc _, hoU.alloc _, hrl.alloc', fun q hq => Or.inl (by simp [Value.ownBlock] at hq; exact hq.symm), HH2.loc HV.out (fun q hq => hbw3.block q (by have := HH2.lt HV.out hq; omega)), fun q hq => Or.inl ⟨by have := HH2.lt HV.out hq; omega, HB.out q hq⟩, fun q hq e => by
            have := HH2.lt HV.out hq
            simp [Value.ownBlock] at e
            omega⟩,
          ⟨cell_alloc' kN2, cell_alloc' kV2, (hoX.alloc _).cell? (i := 0) rfl, by rw [← hfv]; exact hlast, FrP.of_below hbw3 (Nat.le_refl _)⟩,
          FrP.of_below hbw3 (Nat.le_refl _)⟩))
    have CN := Lib.hid (nextP_c (w1 := w) hn HH2 HL.out n [] s (.slice (some ⟨R0, 0, none⟩) 0 0) vb)
    clear kN kV kN2 kV2 hoL hoX hrl hoU hbel HH HH2 HW hbw hbw2 hmk d1 d2 d3 d4 d5 d6 hsz
    unfold nxF at HQ
    go_wp2_with fail
    obtain ⟨hPI, hPC, hFR⟩ := HQ.out _ rfl
    refine (CN.out _ (Ndp.nil n) (by simp) hPI hPC).mono ?_
    rintro e w2 ⟨rfl, ⟨vl', vb', hi⟩, hch⟩
    have HF := Lib.hid (show V w2 ((prmA n).foldl step s) vb' ∧ FrP h B0 w w2 ∧ ∀ q, fp vb' q → B0 q ∨ h ≤ q from
      ⟨hi.v, hFR.trans (hch.mono HL.out.n (fun q hq e => by
        rcases e with ⟨_, e⟩ | e | e | e
        · exact e
        · omega
        · omega
        · omega)), fun q hq => by
        rcases hi.fpb q hq with ⟨_, g⟩ | g
        · exact Or.inl g
        · exact Or.inr (Nat.le_trans HL.out.n g)⟩)
    clear hPI hPC hFR hi hch
    go_wp2_with fail
    go_end0
    exact ⟨rfl, vb', HF.out.1, by rw [hh]; exact HF.out.2.1, by rw [hh]; exact HF.out.2.2⟩
end
end Go.Proofs.YtfgdhlnmndgjbaaGreatDoor
