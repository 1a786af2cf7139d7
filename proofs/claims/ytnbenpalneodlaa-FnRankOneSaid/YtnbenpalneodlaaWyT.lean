/-
  Some texts of this proof in one: WyT WzA WzB WzE. Each part tells what it proves. By an AI agent.
-/
import Derived.Test.YtnbenpalneodlaaWyS
import Derived.Test.YtnbenpalneodlaaWzP

/-
  The first cheapest way: the reference's. By an AI agent.
-/
namespace Go.Proofs.Ytnbenpalneodlaa
open Go.RowKit

theorem fst_spec (p : Nat → Bool) : ∀ (f k : Nat), (∃ j, k ≤ j ∧ j < k + f ∧ p j = true) → k ≤ fstN p f k ∧ fstN p f k < k + f ∧ p (fstN p f k) = true ∧ ∀ i, k ≤ i → i < fstN p f k → p i = false
  | 0, k, ⟨j, h1, h2, _⟩ => by omega
  | f + 1, k, ⟨j, h1, h2, h3⟩ => by
    unfold fstN
    by_cases e : p k = true
    · rw [if_pos e]
      exact ⟨Nat.le_refl _, by omega, e, fun i h4 h5 => by omega⟩
    · rw [if_neg e]
      obtain ⟨a1, a2, a3, a4⟩ := fst_spec p f (k + 1) ⟨j, by
        by_cases e2 : j = k
        · subst e2; exact absurd h3 e
        · omega, by omega, h3⟩
      refine ⟨by omega, by omega, a3, fun i h4 h5 => ?_⟩
      by_cases e2 : i = k
      · subst e2; simpa using e
      · exact a4 i (by omega) h5
theorem chK_spec {n : Nat} {m : Nat → Nat → Int} {b s a : Nat} (h : exF n m b (s + 1) a ≠ 1000000000) : chK n m b s a < n ∧ (m a (chK n m b s a) ≠ 1000000000 ∧ prodZ (m a (chK n m b s a)) (exF n m b s (chK n m b s a)) = exF n m b (s + 1) a) ∧ (∀ i, i < chK n m b s a → ¬ (m a i ≠ 1000000000 ∧ prodZ (m a i) (exF n m b s i) = exF n m b (s + 1) a)) ∧ exF n m b s (chK n m b s a) ≠ 1000000000 := by
  obtain ⟨k, h1, h2, h3, h4⟩ := ex_next h
  obtain ⟨_, a2, a3, a4⟩ := fst_spec (fun k => !(m a k == 1000000000) && decide (prodZ (m a k) (exF n m b s k) = exF n m b (s + 1) a)) n 0 ⟨k, Nat.zero_le _, by omega, by simp [h2, h4]⟩
  have a2 : chK n m b s a < n := by unfold chK; omega
  have a3 : m a (chK n m b s a) ≠ 1000000000 ∧ prodZ (m a (chK n m b s a)) (exF n m b s (chK n m b s a)) = exF n m b (s + 1) a := by
    have : (!(m a (chK n m b s a) == 1000000000) && decide (prodZ (m a (chK n m b s a)) (exF n m b s (chK n m b s a)) = exF n m b (s + 1) a)) = true := a3
    simpa using this
  refine ⟨a2, a3, fun i hi hc => ?_, ?_⟩
  · have := a4 i (Nat.zero_le _) hi
    simp [hc.1, hc.2] at this
  · rw [← a3.2] at h
    exact (prodZ_ne h).2.1
theorem chS_spec {n : Nat} {m : Nat → Nat → Int} {a b : Nat} (h : ∃ s, s < n ∧ exF n m b s a = bf n m n a b) : chS n m a b < n ∧ exF n m b (chS n m a b) a = bf n m n a b ∧ ∀ i, i < chS n m a b → exF n m b i a ≠ bf n m n a b := by
  obtain ⟨s, h1, h2⟩ := h
  obtain ⟨_, a2, a3, a4⟩ := fst_spec (fun s => decide (exF n m b s a = bf n m n a b)) n 0 ⟨s, Nat.zero_le _, by omega, by simp [h2]⟩
  refine ⟨by unfold chS; omega, of_decide_eq_true a3, fun i hi => of_decide_eq_false (a4 i (Nat.zero_le _) hi)⟩
theorem rowI_single (u : World) (B H : Nat) (x : Int) (hB : B ≤ u.heap.size) (hH : u.heap.size = H) : RowI (u.alloc (.cells #[.int .i64 x] 3)) B (.slice (some ⟨H, 0, none⟩) 1 1) [x] := by
  subst hH
  exact ⟨by simp [ints], .inr ⟨u.heap.size, 1, #[.int .i64 x], rfl, hB, heap_alloc_new u _, Nat.le_refl _, by unfold maxLen; omega, rfl, by simp [ints]⟩⟩

/-- the part behind the checks. -/
def chR (n : Nat) (m : Nat → Nat → Int) (a b : Nat) : Prop := (∃ s, s < n ∧ exF n m b s a = bf n m n a b) ∧ bf n m n a b ≠ 1000000000

end Go.Proofs.Ytnbenpalneodlaa

/-
  Least costs of so many steps to a vertex: the program's. By an AI agent.
-/
namespace Go.Proofs.Ytnbenpalneodlaa
open Go.RowKit

end Go.Proofs.Ytnbenpalneodlaa

/-
  The unit matrix, and the least costs of ways of 0, 1, .. steps: the program's. By an AI agent.
-/
namespace Go.Proofs.Ytnbenpalneodlaa
open Go.RowKit

theorem MatO.oneC {w : World} {B H : Nat} {u : Value} {xs : List Int} (h : CellO w B u xs) (hB : B ≤ w.heap.size) (hH : w.heap.size = H) : MatO (w.alloc (.cells #[u] 23)) B (.slice (some ⟨H, 0, none⟩) 1 1) [xs] [u] := by
  subst hH
  refine ⟨⟨by simp, .inr ⟨w.heap.size, 1, #[u], rfl, hB, heap_alloc_new w _, Nat.le_refl _, by unfold maxLen; omega, rfl, by simp⟩⟩, fun i hi => ?_, fun i j hi hj hij => ?_⟩
  · obtain rfl : i = 0 := by simpa using hi
    exact h.below ((Below.refl _ _).alloc (Nat.le_refl _) _)
  · have h1 : i = 0 := by simpa using hi
    have h2 : j = 0 := by simpa using hj
    omega

theorem ex_unit (n : Nat) (m : Nat → Nat → Int) (b : Nat) : tab n (unF b) = tab n (exF n m b 0) := tab_congr fun i _ => by
  unfold unF exF
  by_cases e : b = i
  · rw [if_pos e, if_pos e.symm]
  · rw [if_neg e, if_neg (fun h => e h.symm)]
theorem getD_appE {vs : List Value} {u : Value} {k : Nat} (h : vs.length = k) : (vs ++ [u]).getD k undef = u := by
  subst h
  exact getD_snocE _ _ _

end Go.Proofs.Ytnbenpalneodlaa

/-
  Circuits: membership, and what a circuit costs; the program's. By an AI agent.
-/
namespace Go.Proofs.Ytnbenpalneodlaa
open Go.RowKit

set_option maxHeartbeats 400000 in
theorem l1HasW (ad : Option Addr) (cap : Nat) (xs : List Int) (y : Int) (w : World) (hl : xs.length ≤ 1048576) (hr : RdI w ad xs) :
    Calls Try.prog 28 #[.slice ad xs.length cap, .int .i64 y] w fun e w' => e = .returned (.bool (decide (y ∈ xs))) ∧ w = w' := by
  have HR := Lib.hid hr; clear hr
  go_enter Try.func28, Try.ntmps28
  go_wp2
  go_loop [9] (fun i => ∃ k : Nat, k ≤ xs.length ∧ i = .int .i64 k ∧ ∀ j, j < k → xs.getD j 0 ≠ y) (fun i => xs.length - (intOf i).toNat)
  case atStart => exact ⟨0, Nat.zero_le _, rfl, fun j hj => by omega⟩
  case round =>
    obtain ⟨k, hk, rfl, hj⟩ := hrel
    have HJ := Lib.hid hj; clear hj
    by_cases hlt : k < xs.length
    · obtain ⟨b, off, rfl, hb, c⟩ := HR.out k hlt
      generalize hx : xs.getD k 0 = x at c
      have HX := Lib.hid hx; clear hx
      by_cases h1 : x = y
      · have h1' : (x == y) = true := by simpa using h1
        have H1 := Lib.hid h1; clear h1
        go_wp2
        go_ret
        refine ⟨ret_bool ?_, rfl⟩
        symm
        rw [decide_eq_true_iff, ← H1.out, ← HX.out]
        simp [List.getD, hlt]
      · have h1' : (x == y) = false := by simpa using h1
        have H1 := Lib.hid h1; clear h1
        go_wp2
        go_round
        case rel =>
          refine ⟨k + 1, by omega, by go_num, fun j hj => ?_⟩
          by_cases e : j = k
          · subst e; rw [HX.out]; exact H1.out
          · exact HJ.out j (by omega)
        case measure => simp [intOf]; omega
    · have he : k = xs.length := by omega
      subst he
      go_wp2
      go_ret
      refine ⟨ret_bool ?_, rfl⟩
      symm
      rw [decide_eq_false_iff_not]
      intro hc
      obtain ⟨j, hj, e⟩ := List.getElem_of_mem hc
      exact HJ.out j hj (by simp [List.getD, hj, e])

end Go.Proofs.Ytnbenpalneodlaa
