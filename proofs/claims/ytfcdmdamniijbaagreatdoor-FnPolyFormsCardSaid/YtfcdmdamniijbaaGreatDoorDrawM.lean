/-
  The draws of numbers and texts from bytes. Printed by gen_drawm.py.
-/
import Derived.Test.YtfcdmdamniijbaaGreatDoorDrawN
import Derived.Test.YtfcdmdamniijbaaGreatDoorOpenB
namespace Go.Proofs.YtfcdmdamniijbaaGreatDoor
open Go.RowKit

def PairD (w : World) (e : Ending) (w' : World) : Prop := ∃ a b : Int, e = .returned (.tuple #[.int .i64 a, .int .i64 b]) ∧ Below w.heap.size w w'
def TextD (S : Nat) (w : World) (e : Ending) (w' : World) : Prop := ∃ u : ByteArray, e = .returned (.string u) ∧ u.size ≤ S ∧ Below w.heap.size w w'

theorem numTxt_len {n : Int} (h : numB n = true) : (numTxt n).length ≤ 8 := by
  have hb := numB_t h
  unfold numTxt
  split
  · decide
  · rename_i hi
    have hn : n.natAbs ≤ 1000000 := by omega
    have hd : ∀ u, u ≤ 1000000 → (Lib.decDigits u).length ≤ 7 := fun u hu => by
      rw [Lib.decDigits_length]
      have h10 : (10 : Nat) ^ 7 = 10000000 := by decide
      rcases Nat.lt_or_ge 7 (Lib.nDigits u) with h7 | h7
      · exfalso
        obtain ⟨k, hk⟩ : ∃ k, Lib.nDigits u = k + 8 := ⟨Lib.nDigits u - 8, by omega⟩
        exact absurd (nDig_low u (by omega)) (by
          rw [hk]
          have : (10 : Nat) ^ 7 ≤ 10 ^ (k + 8 - 1) := Nat.pow_le_pow_right (by omega) (by omega)
          omega)
      · exact h7
    unfold Lib.itoa
    split
    · simp; exact hd _ hn
    · have := hd n.toNat (by omega); omega

end Go.Proofs.YtfcdmdamniijbaaGreatDoor
