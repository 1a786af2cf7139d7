/-
  Numbers, plain: texts are read back, the two readings agree; quotients undo products, powers are products. No program in sight.
-/
import Derived.Test.YtfgdhlnmndgjbaaGreatDoorNumI
import Derived.Test.YtfgdhlnmndgjbaaGreatDoorTrop
namespace Go.Proofs.YtfgdhlnmndgjbaaGreatDoor
open Lib (decDigits decFrom digitVal)

theorem digit_of (d : Nat) (h : d < 10) : digitVal (UInt8.ofNat (48 + d)) = some d ∧ (UInt8.ofNat (48 + d)).toNat = 48 + d := by
  have e : (UInt8.ofNat (48 + d)).toNat = 48 + d := by
    rw [UInt8.toNat_ofNat']
    omega
  refine ⟨?_, e⟩
  unfold digitVal
  rw [e, if_pos ⟨by omega, by omega⟩]
  congr 1; omega
theorem decFrom_snoc {l : List UInt8} {m d : Nat} {b : UInt8} (h : decFrom 0 l = some m) (hb : digitVal b = some d) : decFrom 0 (l ++ [b]) = some (m * 10 + d) := by
  have := Lib.decFrom_take (l ++ [b]) l.length 0 m b d (by simpa using h) (by simp) hb
  rw [List.take_of_length_le (by simp)] at this
  exact this
theorem decFrom_digits (u : Nat) : decFrom 0 (decDigits u) = some u := by
  induction u using Nat.strongRecOn with
  | _ u ih =>
    by_cases h : u < 10
    · rw [Lib.decDigits_one h]
      have h2 := decFrom_snoc (l := []) (m := 0) (by rfl) (digit_of u h).1
      simpa using h2
    · rw [decDigits, dif_neg h]
      have h2 := decFrom_snoc (ih (u / 10) (by omega)) (digit_of (u % 10) (by omega)).1
      rw [h2]; congr 1; omega
/-- The first digit. -/
theorem head_digits (u : Nat) : 48 ≤ ((decDigits u).getD 0 0).toNat ∧ ((decDigits u).getD 0 0).toNat ≤ 57 ∧ (1 ≤ u → ((decDigits u).getD 0 0).toNat ≠ 48) := by
  induction u using Nat.strongRecOn with
  | _ u ih =>
    by_cases h : u < 10
    · rw [Lib.decDigits_one h]
      have h2 := (digit_of u h).2
      simp only [List.getD_cons_zero]
      omega
    · have h2 := ih (u / 10) (by omega)
      rw [decDigits, dif_neg h]
      have hne : (decDigits (u / 10)).length ≠ 0 := by rw [Lib.decDigits_length]; have := Lib.nDigits_pos (u / 10); omega
      have e : (decDigits (u / 10) ++ [UInt8.ofNat (48 + u % 10)]).getD 0 0 = (decDigits (u / 10)).getD 0 0 := by
        rw [List.getD_eq_getElem?_getD, List.getD_eq_getElem?_getD, List.getElem?_append_left (by omega)]
      rw [e]
      exact ⟨h2.1, h2.2.1, fun _ => h2.2.2 (by omega)⟩
theorem digits_len {u : Nat} (h : u ≤ 1000000) : 1 ≤ (decDigits u).length ∧ (decDigits u).length ≤ 7 := by
  rw [Lib.decDigits_length]
  refine ⟨Lib.nDigits_pos u, ?_⟩
  rcases Nat.lt_or_ge 7 (Lib.nDigits u) with h7 | h7
  · exfalso
    have := nDig_low u (by omega)
    obtain ⟨k, hk⟩ : ∃ k, Lib.nDigits u = k + 8 := ⟨Lib.nDigits u - 8, by omega⟩
    have h10 : (10 : Nat) ^ 7 = 10000000 := by decide
    have h11 : (10 : Nat) ^ 7 ≤ 10 ^ (k + 8 - 1) := Nat.pow_le_pow_right (by omega) (by omega)
    rw [hk] at this
    omega
  · exact h7
theorem digits_two {u : Nat} (h : 1 < (decDigits u).length) : 10 ≤ u := by
  rcases Nat.lt_or_ge u 10 with h1 | h1
  · rw [Lib.decDigits_one h1] at h; simp at h
  · exact h1
theorem nuRead_digits {u : Nat} (h : u ≤ 1000000) : nuReadF (decDigits u) = u := by
  obtain ⟨h1, h2⟩ := digits_len h
  unfold nuReadF
  rw [if_pos ⟨inB_t.2 (by omega), fun hh => (head_digits u).2.2 (by have := digits_two hh.2; omega) hh.1⟩, decFrom_digits]
theorem atoi_itoa {n : Int} (h : -1000000 ≤ n ∧ n ≤ 1000000) : Lib.atoi (Lib.itoa n) = some n := by
  have hdn : ∀ u, Lib.decNat (decDigits u) = some u := fun u => by
    unfold Lib.decNat
    have hne : (decDigits u).isEmpty = false := by
      have h1 := Lib.decDigits_length u
      have h2 := Lib.nDigits_pos u
      cases hd : decDigits u with
      | nil => rw [hd, List.length_nil] at h1; omega
      | cons _ _ => rfl
    rw [hne, decFrom_digits]; rfl
  unfold Lib.itoa
  by_cases hn : n < 0
  · rw [if_pos hn]
    show (if ((45 : UInt8) == 45) = true then (Lib.decNat (decDigits n.natAbs)).map fun (m : Nat) => -(m : Int) else if ((45 : UInt8) == 43) = true then (Lib.decNat (decDigits n.natAbs)).map fun (m : Nat) => (m : Int) else (Lib.decNat (45 :: decDigits n.natAbs)).map fun (m : Nat) => (m : Int)) = some n
    rw [if_pos (by rfl), hdn]
    simp only [Option.map_some]
    congr 1; omega
  · rw [if_neg hn]
    have hh := head_digits n.toNat
    have hd := hdn n.toNat
    cases hc : decDigits n.toNat with
    | nil => rw [hc] at hd; exact absurd hd (by simp [Lib.decNat])
    | cons b r =>
      rw [hc] at hd hh
      simp only [List.getD_cons_zero] at hh
      show (if (b == 45) = true then (Lib.decNat r).map fun (m : Nat) => -(m : Int) else if (b == 43) = true then (Lib.decNat r).map fun (m : Nat) => (m : Int) else (Lib.decNat (b :: r)).map fun (m : Nat) => (m : Int)) = some n
      rw [if_neg (fun h => by have : b = 45 := by simpa using h
                              subst this; exact absurd hh.1 (by decide)), if_neg (fun h => by have : b = 43 := by simpa using h
                                                                                              subst this; exact absurd hh.1 (by decide)), hd]
      simp only [Option.map_some]
      congr 1; omega
theorem itoa_ne_inf {n : Int} (h : -1000000 ≤ n ∧ n ≤ 1000000) : Lib.itoa n ≠ infL := fun e => by
  have h1 := atoi_itoa h
  rw [e, show Lib.atoi infL = none by decide] at h1
  cases h1
theorem finB'_t {n : Int} : finB' n = true ↔ -1000000 ≤ n ∧ n ≤ 1000000 := inB_t
theorem numB_fin {n : Int} (h : numB n = true) (hi : n ≠ 1000000000) : -1000000 ≤ n ∧ n ≤ 1000000 := by
  rcases numB_t h with h | h
  · exact h
  · exact absurd h hi
theorem nuParseN_itoa {n : Int} (h : -1000000 ≤ n ∧ n ≤ 1000000) : nuParseN (Lib.itoa n) = n := by
  unfold nuParseN
  rw [if_neg (itoa_ne_inf h)]
  unfold Lib.itoa
  by_cases hn : n < 0
  · rw [if_pos hn, if_pos ⟨by have := (digits_len (u := n.natAbs) (by omega)).1; simp; omega, by rfl⟩]
    rw [show (45 :: decDigits n.natAbs).drop 1 = decDigits n.natAbs from rfl, nuRead_digits (by omega)]
    omega
  · rw [if_neg hn, if_neg (fun hh => by have := (head_digits n.toNat).1; omega), nuRead_digits (by omega)]
    omega
/-- THE TWO READINGS AGREE. -/
theorem parse_same (l : List UInt8) : nuParseR l = parseR l := by
  unfold nuParseR parseR
  by_cases h1 : l = infL
  · have : nuParseN l = 1000000000 := by unfold nuParseN; rw [if_pos h1]
    rw [this, if_pos h1, if_pos ⟨by decide, by rw [show numTxt 1000000000 = infL from if_pos rfl, h1]⟩]
  · rw [if_neg h1]
    by_cases h2 : numB (nuParseN l) = true ∧ numTxt (nuParseN l) = l
    · rw [if_pos h2]
      have hni : nuParseN l ≠ 1000000000 := fun e => h1 (by rw [← h2.2, e]; exact if_pos rfl)
      have hf := numB_fin h2.1 hni
      have ht : Lib.itoa (nuParseN l) = l := by have h5 := h2.2; unfold numTxt at h5; rwa [if_neg hni] at h5
      have ha : Lib.atoi l = some (nuParseN l) := by rw [← ht, nuParseN_itoa hf]; exact atoi_itoa hf
      rw [ha]
      simp only
      rw [if_pos (by rw [finB'_t.2 hf, decide_eq_true ht]; rfl)]
    · rw [if_neg h2]
      cases ha : Lib.atoi l with
      | none => rfl
      | some n =>
        simp only
        rw [if_neg]
        intro h3
        obtain ⟨h4, h5⟩ := Bool.and_eq_true_iff.1 h3
        have hf := finB'_t.1 h4
        have ht := of_decide_eq_true h5
        have hp : nuParseN l = n := by rw [← ht]; exact nuParseN_itoa hf
        exact h2 ⟨by rw [hp]; unfold numB; rw [show inB n (-1000000) 1000000 = true from h4]; rfl, by rw [hp]; unfold numTxt; rw [if_neg (by omega)]; exact ht⟩
/-- TEXTS ARE READ BACK. -/
theorem parse_back {n : Int} (h : numB n = true) : parseR (numTxt n) = (n, true) := by
  unfold parseR numTxt
  by_cases hi : n = 1000000000
  · rw [if_pos hi, if_pos rfl, hi]
  · have hf := numB_fin h hi
    rw [if_neg hi, if_neg (itoa_ne_inf hf), atoi_itoa hf]
    simp only
    rw [if_pos (by rw [finB'_t.2 hf]; simp)]

/-! ### Products, quotients, powers -/
theorem prodZ_comm (a b : Int) : prodZ a b = prodZ b a := by unfold prodZ; split <;> split <;> omega
theorem prodR_comm (a b : Int) : prodR a b = prodR b a := by
  unfold prodR okAB
  rw [prodZ_comm a b, Bool.and_comm]
theorem prodR_ok {a b : Int} (h : (prodR a b).2 = true) : okAB a b = true ∧ numB (prodZ a b) = true ∧ (prodR a b).1 = prodZ a b := by
  unfold prodR at h ⊢
  by_cases h1 : okAB a b = true
  · rw [if_pos h1] at h ⊢
    simp only at h ⊢
    exact ⟨h1, h, by unfold toldZ; rw [if_pos h]⟩
  · rw [if_neg h1] at h
    exact absurd h (by simp)
theorem sumR_ok (a b : Int) : (sumR a b).2 = okAB a b := by
  unfold sumR
  cases h : okAB a b
  · rw [if_neg (by simp)]
  · rw [if_pos rfl]
theorem quot_undo {a b : Int} (h : (prodR a b).2 = true) (hb : b ≠ 1000000000) : quotR (prodZ a b) b = (a, true) := by
  obtain ⟨h1, h2, h3⟩ := prodR_ok h
  obtain ⟨ha, hbb⟩ := okAB_t h1
  have hbf := numB_fin hbb hb
  have hz : prodZ (prodZ a b) (-b) = a := by
    rcases numB_t ha with h4 | h4
    · have e : prodZ a b = a + b := by unfold prodZ; rw [if_neg (by rintro (h | h) <;> omega)]
      rw [e]; unfold prodZ; rw [if_neg (by rintro (h | h) <;> omega)]; omega
    · subst h4
      have e : prodZ 1000000000 b = 1000000000 := by unfold prodZ; rw [if_pos (Or.inl rfl)]
      rw [e]; unfold prodZ; rw [if_pos (Or.inl rfl)]
  unfold quotR
  rw [if_pos ⟨by unfold okAB; rw [h2, hbb]; rfl, hb⟩, hz]
  unfold toldZ
  rw [if_pos ha, ha]
theorem leastZ_ok (a b : Int) : (leastZ a b = a ∨ leastZ a b = b) ∧ leastZ a b ≤ a ∧ leastZ a b ≤ b := by unfold leastZ; split <;> omega
theorem pow_step {n k : Int} (h : (powR n k).2 = true) (hk : 0 < k) : (powR n (k - 1)).2 = true ∧ prodR (powR n (k - 1)).1 n = powR n k := by
  have hc : numB n = true ∧ inB k 0 20 = true := by
    unfold powR at h
    by_cases hc : numB n = true ∧ inB k 0 20 = true
    · exact hc
    · rw [if_neg hc] at h; exact absurd h (by simp)
  have hkb := inB_t.1 hc.2
  have hp : numB (powZ n k) = true := by
    unfold powR at h; rw [if_pos hc] at h; exact h
  have hc1 : numB n = true ∧ inB (k - 1) 0 20 = true := ⟨hc.1, inB_t.2 (by omega)⟩
  have hp1 : numB (powZ n (k - 1)) = true := by
    rcases numB_t hc.1 with h4 | h4
    · by_cases h0 : k - 1 = 0
      · unfold powZ; rw [if_pos h0]; decide
      · have e1 : powZ n k = k * n := by unfold powZ; rw [if_neg (by omega), if_neg (by omega)]
        have e2 : powZ n (k - 1) = (k - 1) * n := by unfold powZ; rw [if_neg h0, if_neg (by omega)]
        rw [e1] at hp
        rw [e2]
        have hb : (k * n).natAbs ≤ 20 * 1000000 := by rw [Int.natAbs_mul]; exact Nat.mul_le_mul (by omega) (by omega)
        have hf := numB_fin hp (by omega)
        have hle : ((k - 1) * n).natAbs ≤ (k * n).natAbs := by rw [Int.natAbs_mul, Int.natAbs_mul]; exact Nat.mul_le_mul_right _ (by omega)
        unfold numB
        rw [show inB ((k - 1) * n) (-1000000) 1000000 = true from inB_t.2 (by omega)]; rfl
    · unfold powZ
      split
      · decide
      · first | (rw [if_pos h4]; decide) | decide
  have e1 : powR n (k - 1) = (powZ n (k - 1), true) := by
    unfold powR; rw [if_pos hc1, hp1]; unfold toldZ; rw [if_pos hp1]
  have e2 : powR n k = (powZ n k, true) := by
    unfold powR; rw [if_pos hc, hp]; unfold toldZ; rw [if_pos hp]
  obtain ⟨K, hK⟩ : ∃ K : Nat, k - 1 = K := ⟨(k - 1).toNat, by omega⟩
  have hs := powZ_step (a := n) (k := K) hc.1 (by omega)
  rw [← hK, show k - 1 + 1 = k by omega] at hs
  rw [e1, e2]
  refine ⟨rfl, ?_⟩
  unfold prodR okAB
  simp only
  rw [if_pos (by rw [hp1, hc.1]; rfl), hs]
  unfold toldZ
  rw [if_pos hp, hp]

end Go.Proofs.YtfgdhlnmndgjbaaGreatDoor
