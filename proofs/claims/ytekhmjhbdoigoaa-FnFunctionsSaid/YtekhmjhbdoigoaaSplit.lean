/-
  The reference's split of a text at a byte.
-/
import Derived.Test.YtekhmjhbdoigoaaCutS
namespace Go.Proofs.Ytekhmjhbdoigoaa
open Go.RowKit

/-- The pieces of a text between bytes of one kind. -/
def splitB (b : Nat) : List UInt8 → List (List UInt8)
  | [] => [[]]
  | x :: xs => if x.toNat = b then [] :: splitB b xs else match splitB b xs with
    | p :: ps => (x :: p) :: ps
    | [] => [[x]]
theorem split_no {b : Nat} : ∀ (p : List UInt8), (∀ x ∈ p, x.toNat ≠ b) → splitB b p = [p]
  | [], _ => rfl
  | x :: p, h => by
    have ih := split_no p (fun y hy => h y (List.mem_cons_of_mem _ hy))
    rw [splitB, if_neg (h x (by simp)), ih]
theorem split_at {b : Nat} : ∀ (p r : List UInt8) (c : UInt8), (∀ x ∈ p, x.toNat ≠ b) → c.toNat = b → splitB b (p ++ c :: r) = p :: splitB b r
  | [], r, c, _, hc => by rw [List.nil_append, splitB, if_pos hc]
  | x :: p, r, c, h, hc => by
    have ih := split_at p r c (fun y hy => h y (List.mem_cons_of_mem _ hy)) hc
    rw [List.cons_append, splitB, if_neg (h x (by simp)), ih]
theorem slice_both (s : ByteArray) (i j : Nat) (h0 : i ≤ j) (h : j ≤ s.size) (w : World) :
    (Instr.slice 9 (.string s) (some (.int .i64 (i : Int))) (some (.int .i64 (j : Int))) none).run Try.prog w = .ok (.string (s.extract i j)) w := by
  simp [Instr.slice, Instr.sliceBounds, Instr.sliceBound, asIntOf, run_underlying (P := Try.prog) Try.underlying9, h0, h]
theorem extract_list (s : ByteArray) (i j : Nat) : (s.extract i j).toList = (s.toList.drop i).take (j - i) := by
  rw [ByteArray.toList_eq, ByteArray.toList_eq, ByteArray.data_extract, Array.toList_extract, List.extract]
theorem mem_piece {b : Nat} {l : List UInt8} {F k : Nat} (h : ∀ j, F ≤ j → j < k → (l.getD j 0).toNat ≠ b) : ∀ x ∈ (l.drop F).take (k - F), x.toNat ≠ b := fun x hx => by
  obtain ⟨i, hi, rfl⟩ := List.getElem_of_mem hx
  have hi' : i < k - F ∧ F + i < l.length := by
    rw [List.length_take, List.length_drop] at hi
    omega
  have := h (F + i) (by omega) (by omega)
  rw [List.getElem_take, List.getElem_drop]
  rw [List.getD_eq_getElem?_getD, List.getElem?_eq_getElem hi'.2, Option.getD_some] at this
  exact this
theorem drop_cut {l : List UInt8} {F k : Nat} (hF : F ≤ k) (hk : k < l.length) : l.drop F = (l.drop F).take (k - F) ++ l.getD k 0 :: l.drop (k + 1) := by
  have h1 : (l.drop F).drop (k - F) = l.getD k 0 :: l.drop (k + 1) := by
    rw [List.drop_drop, show F + (k - F) = k by omega, List.drop_eq_getElem_cons hk, List.getD_eq_getElem?_getD, List.getElem?_eq_getElem hk, Option.getD_some]
  rw [← h1, List.take_append_drop]

end Go.Proofs.Ytekhmjhbdoigoaa
