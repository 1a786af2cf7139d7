/-
  Some texts of this proof in one: WzA WzB WzE. Each part tells what it proves. By an AI agent.
-/
import Derived.Test.YtjlkgioinogbkaaWzP

/-
  Least costs of so many steps to a vertex: the program's. By an AI agent.
-/
namespace Go.Proofs.Ytjlkgioinogbkaa
open Go.RowKit

end Go.Proofs.Ytjlkgioinogbkaa

/-
  The unit matrix, and the least costs of ways of 0, 1, .. steps: the program's. By an AI agent.
-/
namespace Go.Proofs.Ytjlkgioinogbkaa
open Go.RowKit

theorem MatO.oneC {w : World} {B H : Nat} {u : Value} {xs : List Int} (h : CellO w B u xs) (hB : B ≤ w.heap.size) (hH : w.heap.size = H) : MatO (w.alloc (.cells #[u] 26)) B (.slice (some ⟨H, 0, none⟩) 1 1) [xs] [u] := by
  subst hH
  refine ⟨⟨by simp, .inr ⟨w.heap.size, 1, #[u], rfl, hB, heap_alloc_new w _, Nat.le_refl _, by unfold maxLen; omega, rfl, by simp⟩⟩, fun i hi => ?_, fun i j hi hj hij => ?_⟩
  · obtain rfl : i = 0 := by simpa using hi
    exact h.below ((Below.refl _ _).alloc (Nat.le_refl _) _)
  · have h1 : i = 0 := by simpa using hi
    have h2 : j = 0 := by simpa using hj
    omega

theorem ex_unit (n : Nat) (m : Nat → Nat → Int) (b : Nat) : tab n (unF b) = tab n (exF n m b 0) := tab_congr fun i _ => by
  unfold unF exF
  by_cases e : b = i
  · rw [if_pos e, if_pos e.symm]
  · rw [if_neg e, if_neg (fun h => e h.symm)]
theorem getD_appE {vs : List Value} {u : Value} {k : Nat} (h : vs.length = k) : (vs ++ [u]).getD k undef = u := by
  subst h
  exact getD_snocE _ _ _

end Go.Proofs.Ytjlkgioinogbkaa

/-
  Circuits: membership, and what a circuit costs; the program's. By an AI agent.
-/
namespace Go.Proofs.Ytjlkgioinogbkaa
open Go.RowKit

set_option maxHeartbeats 400000 in
theorem l1HasW (ad : Option Addr) (cap : Nat) (xs : List Int) (y : Int) (w : World) (hl : xs.length ≤ 1048576) (hr : RdI w ad xs) :
    Calls Try.prog 69 #[.slice ad xs.length cap, .int .i64 y] w fun e w' => e = .returned (.bool (decide (y ∈ xs))) ∧ w = w' := by
  have HR := Lib.hid hr; clear hr
  go_enter Try.func69, Try.ntmps69
  go_wp2
  go_loop [9] (fun i => ∃ k : Nat, k ≤ xs.length ∧ i = .int .i64 k ∧ ∀ j, j < k → xs.getD j 0 ≠ y) (fun i => xs.length - (intOf i).toNat)
  case atStart => exact ⟨0, Nat.zero_le _, rfl, fun j hj => by omega⟩
  case round =>
    obtain ⟨k, hk, rfl, hj⟩ := hrel
    have HJ := Lib.hid hj; clear hj
    by_cases hlt : k < xs.length
    · obtain ⟨b, off, rfl, hb, c⟩ := HR.out k hlt
      generalize hx : xs.getD k 0 = x at c
      have HX := Lib.hid hx; clear hx
      by_cases h1 : x = y
      · have h1' : (x == y) = true := by simpa using h1
        have H1 := Lib.hid h1; clear h1
        go_wp2
        go_ret
        refine ⟨ret_bool ?_, rfl⟩
        symm
        rw [decide_eq_true_iff, ← H1.out, ← HX.out]
        simp [List.getD, hlt]
      · have h1' : (x == y) = false := by simpa using h1
        have H1 := Lib.hid h1; clear h1
        go_wp2
        go_round
        case rel =>
          refine ⟨k + 1, by omega, by go_num, fun j hj => ?_⟩
          by_cases e : j = k
          · subst e; rw [HX.out]; exact H1.out
          · exact HJ.out j (by omega)
        case measure => simp [intOf]; omega
    · have he : k = xs.length := by omega
      subst he
      go_wp2
      go_ret
      refine ⟨ret_bool ?_, rfl⟩
      symm
      rw [decide_eq_false_iff_not]
      intro hc
      obtain ⟨j, hj, e⟩ := List.getElem_of_mem hc
      exact HJ.out j hj (by simp [List.getD, hj, e])

end Go.Proofs.Ytjlkgioinogbkaa
