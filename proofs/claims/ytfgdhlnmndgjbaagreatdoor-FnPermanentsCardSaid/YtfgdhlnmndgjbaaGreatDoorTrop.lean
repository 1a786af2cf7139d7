/-
  Tropical sums, products, quotients and powers of numbers: program and reference. Printed by gen_trop.py.
-/
import Derived.Test.YtfgdhlnmndgjbaaGreatDoorNum
namespace Go.Proofs.YtfgdhlnmndgjbaaGreatDoor
open Go.RowKit

def okAB (a b : Int) : Bool := numB a && numB b
def sumR (a b : Int) : Int × Bool := if okAB a b = true then (leastZ a b, true) else (0, false)
def prodR (a b : Int) : Int × Bool := if okAB a b = true then (toldZ (prodZ a b), numB (prodZ a b)) else (0, false)
def quotR (a b : Int) : Int × Bool := if okAB a b = true ∧ b ≠ 1000000000 then (toldZ (prodZ a (-b)), numB (prodZ a (-b))) else (0, false)
def powZ (a k : Int) : Int := if k = 0 then 0 else if a = 1000000000 then 1000000000 else k * a
def powR (a k : Int) : Int × Bool := if numB a = true ∧ inB k 0 20 = true then (toldZ (powZ a k), numB (powZ a k)) else (0, false)
def pairR (r : Int × Bool) : Value := pairV r.1 r.2
theorem okAB_t {a b : Int} (h : okAB a b = true) : numB a = true ∧ numB b = true := Bool.and_eq_true_iff.1 h
theorem powZ_bd {a k : Int} (ha : numB a = true) (hk : 0 ≤ k ∧ k ≤ 20) : -20000000 ≤ powZ a k ∧ powZ a k ≤ 1000000000 := by
  unfold powZ
  split
  · omega
  · split
    · omega
    · rename_i h1 h2
      have h3 := numB_t ha
      rcases h3 with h3 | h3
      · have h4 : -(20 * 1000000) ≤ k * a ∧ k * a ≤ 20 * 1000000 := by
          have h5 : (k * a).natAbs ≤ 20 * 1000000 := by
            rw [Int.natAbs_mul]
            exact Nat.mul_le_mul (by omega) (by omega)
          omega
        omega
      · exact absurd h3 h2
theorem powZ_step {a : Int} {k : Nat} (ha : numB a = true) (hk : k ≤ 19) : prodZ (powZ a k) a = powZ a ((k : Int) + 1) := by
  have h3 := numB_t ha
  by_cases hi : a = 1000000000
  · unfold prodZ powZ
    rw [if_pos (Or.inr hi), if_neg (by omega), if_pos hi]
  · have hb := powZ_bd ha (k := k) ⟨by omega, by omega⟩
    have e1 : powZ a k = k * a := by
      unfold powZ
      by_cases h0 : (k : Int) = 0
      · rw [if_pos h0, h0]; omega
      · rw [if_neg h0, if_neg hi]
    have hb2 : (powZ a k).natAbs ≤ 20000000 := by
      rw [e1, Int.natAbs_mul]
      have : ((k : Int)).natAbs * a.natAbs ≤ 20 * 1000000 := Nat.mul_le_mul (by omega) (by omega)
      omega
    have e2 : powZ a ((k : Int) + 1) = (k + 1) * a := by
      unfold powZ
      rw [if_neg (by omega), if_neg hi]
    unfold prodZ
    rw [if_neg (by rintro (h | h) <;> omega), e2, e1]
    rw [Int.add_mul]; omega
theorem areTwo_c (a b : Int) (g : Nat) (w : World) (ho : Own w g 3 (ints [a, b])) :
    Calls Tryz.prog 82 #[.slice (some ⟨g, 0, none⟩) 2 2] w fun e w' => e = .returned (.bool (okAB a b)) ∧ w = w' := by
  have c := areNumbers_c (some ⟨g, 0, none⟩) 2 [a, b] w ho.rd (by simp)
  have e : [a, b].all numB = okAB a b := by simp [okAB]
  rw [e] at c
  exact c

end Go.Proofs.YtfgdhlnmndgjbaaGreatDoor
