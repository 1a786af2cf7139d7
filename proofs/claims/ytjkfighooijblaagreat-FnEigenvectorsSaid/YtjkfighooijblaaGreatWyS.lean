/-
  Least costs of so many steps to a vertex: the reference's. By an AI agent.
-/
import Derived.Test.YtjkfighooijblaaGreatWyG
namespace Go.Proofs.YtjkfighooijblaaGreat
open Go.RowKit

def toG (k n : Nat) (F : Nat → Nat → Int) : List (List Int) := tab k fun i => tab n (F i)
theorem toG_len (k n : Nat) (F : Nat → Nat → Int) : (toG k n F).length = k := tab_length _ _
theorem toG_row {k n : Nat} (F : Nat → Nat → Int) {i : Nat} (h : i < k) : (toG k n F).getD i [] = tab n (F i) := tab_getD h _
theorem toG_succ (k n : Nat) (F : Nat → Nat → Int) : toG (k + 1) n F = toG k n F ++ [tab n (F k)] := tab_succ _ _
theorem RdM.rowG {w : World} {ad : Option Addr} {k n : Nat} {F : Nat → Nat → Int} (h : RdM w ad (toG k n F)) (hk : 0 < k) (hn : 0 < n) : ∃ b off, ad = some ⟨b, off, none⟩ ∧ b < w.heap.size ∧ ∀ i, i < k → ∃ b2 o2 c, w.cell? ⟨b, off + i, none⟩ = some (.slice (some ⟨b2, o2, none⟩) n c) ∧ b2 < w.heap.size ∧ ∀ j, j < n → w.cell? ⟨b2, o2 + j, none⟩ = some (.int .i64 (F i j)) := by
  obtain ⟨b, off, a, c, rfl, hb, _⟩ := h 0 (by rw [toG_len]; exact hk)
  refine ⟨b, off, rfl, hb, fun i hi => ?_⟩
  obtain ⟨a, c, hc, hr⟩ := h.at (i := i) (by rw [toG_len]; exact hi)
  rw [toG_row F hi, tab_length] at hc
  rw [toG_row F hi] at hr
  obtain ⟨b2, o2, rfl, hb2, _⟩ := hr 0 (by rw [tab_length]; exact hn)
  refine ⟨b2, o2, c, hc, hb2, fun j hj => ?_⟩
  have := hr.at (j := j) (by rw [tab_length]; exact hj)
  rwa [tab_getD hj] at this
theorem MatO.one {w : World} {B H : Nat} {u : Value} {xs : List Int} (h : RowI w B u xs) (hB : B ≤ w.heap.size) (hH : w.heap.size = H) : MatO (w.alloc (.cells #[u] 25)) B (.slice (some ⟨H, 0, none⟩) 1 1) [xs] [u] := by
  subst hH
  refine ⟨⟨by simp, .inr ⟨w.heap.size, 1, #[u], rfl, hB, heap_alloc_new w _, Nat.le_refl _, by unfold maxLen; omega, rfl, by simp⟩⟩, fun i hi => ?_, fun i j hi hj hij => ?_⟩
  · obtain rfl : i = 0 := by simpa using hi
    exact (CellO.of_row h).below ((Below.refl _ _).alloc (Nat.le_refl _) _)
  · have h1 : i = 0 := by simpa using hi
    have h2 : j = 0 := by simpa using hj
    omega

end Go.Proofs.YtjkfighooijblaaGreat
