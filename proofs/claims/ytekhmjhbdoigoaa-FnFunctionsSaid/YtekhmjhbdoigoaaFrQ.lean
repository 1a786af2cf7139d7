/-
  Fractions' texts and their readings, plain. No program in sight.
-/
import Derived.Test.YtekhmjhbdoigoaaFrP
import Derived.Test.YtekhmjhbdoigoaaSplit
namespace Go.Proofs.Ytekhmjhbdoigoaa
open Lib (decDigits decFrom digitVal)

def frTxt (f : Fr) : List UInt8 := if f.d = 1 then Lib.itoa f.n else Lib.itoa f.n ++ 47 :: Lib.itoa f.d
theorem digits_lenW {u : Nat} (h : u ≤ 1000000000) : 1 ≤ (decDigits u).length ∧ (decDigits u).length ≤ 10 := by
  rw [Lib.decDigits_length]
  refine ⟨Lib.nDigits_pos u, ?_⟩
  rcases Nat.lt_or_ge 10 (Lib.nDigits u) with h7 | h7
  · exfalso
    have := nDig_low u (by omega)
    obtain ⟨k, hk⟩ : ∃ k, Lib.nDigits u = k + 11 := ⟨Lib.nDigits u - 11, by omega⟩
    have h10 : (10 : Nat) ^ 10 = 10000000000 := by decide
    have h11 : (10 : Nat) ^ 10 ≤ 10 ^ (k + 11 - 1) := Nat.pow_le_pow_right (by omega) (by omega)
    rw [hk] at this
    omega
  · exact h7
theorem itoa_lenW {n : Int} (h : -1000000000 ≤ n ∧ n ≤ 1000000000) : (Lib.itoa n).length ≤ 11 := by
  unfold Lib.itoa
  split
  · have := digits_lenW (u := n.natAbs) (by omega)
    simp
    omega
  · have := digits_lenW (u := n.toNat) (by omega)
    omega
theorem atoi_itoaW (n : Int) : Lib.atoi (Lib.itoa n) = some n := by
  have hdn : ∀ u, Lib.decNat (decDigits u) = some u := fun u => by
    unfold Lib.decNat
    have hne : (decDigits u).isEmpty = false := by
      have h1 := Lib.decDigits_length u
      have h2 := Lib.nDigits_pos u
      cases hd : decDigits u with
      | nil => rw [hd, List.length_nil] at h1; omega
      | cons _ _ => rfl
    rw [hne, decFrom_digits]; rfl
  unfold Lib.itoa
  by_cases hn : n < 0
  · rw [if_pos hn]
    show (if ((45 : UInt8) == 45) = true then (Lib.decNat (decDigits n.natAbs)).map fun (m : Nat) => -(m : Int) else if ((45 : UInt8) == 43) = true then (Lib.decNat (decDigits n.natAbs)).map fun (m : Nat) => (m : Int) else (Lib.decNat (45 :: decDigits n.natAbs)).map fun (m : Nat) => (m : Int)) = some n
    rw [if_pos (by rfl), hdn]
    simp only [Option.map_some]
    congr 1; omega
  · rw [if_neg hn]
    have hh := head_digits n.toNat
    have hd := hdn n.toNat
    cases hc : decDigits n.toNat with
    | nil => rw [hc] at hd; exact absurd hd (by simp [Lib.decNat])
    | cons b r =>
      rw [hc] at hd hh
      simp only [List.getD_cons_zero] at hh
      show (if (b == 45) = true then (Lib.decNat r).map fun (m : Nat) => -(m : Int) else if (b == 43) = true then (Lib.decNat r).map fun (m : Nat) => (m : Int) else (Lib.decNat (b :: r)).map fun (m : Nat) => (m : Int)) = some n
      rw [if_neg (fun h => by have : b = 45 := by simpa using h
                              subst this; exact absurd hh.1 (by decide)), if_neg (fun h => by have : b = 43 := by simpa using h
                                                                                              subst this; exact absurd hh.1 (by decide)), hd]
      simp only [Option.map_some]
      congr 1; omega
theorem itoa_pos {n : Int} (h : 0 ≤ n) : Lib.itoa n = decDigits n.toNat := by
  unfold Lib.itoa
  rw [if_neg (by omega)]

/-! ### The program's reading -/
def cutP (l : List UInt8) : List UInt8 := (Lib.cut l [47]).1
def cutR (l : List UInt8) : List UInt8 := (Lib.cut l [47]).2.1
def cutK (l : List UInt8) : Bool := (Lib.cut l [47]).2.2
def denA (l : List UInt8) : Option Int := if cutK l = true then Lib.atoi (cutR l) else some 1
def parA (l : List UInt8) : Option Fr := match Lib.atoi (cutP l) with
  | some n => match denA l with
    | some d => some ⟨n, d⟩
    | none => none
  | none => none
def fitB (l : List UInt8) (f : Fr) : Bool := frB f && decide (frTxt f = l)
def fparB (l : List UInt8) : Bool := match parA l with
  | some f => fitB l f
  | none => false
def fparF (l : List UInt8) : Fr := match parA l with
  | some f => f
  | none => Fr.z
/-! ### The reference's reading -/
def frReadF (l : List UInt8) : Int := if inB l.length 1 10 = true then (match Lib.decFrom 0 l with | some n => (n : Int) | none => -1) else -1
def minusB (l : List UInt8) : Bool := match l with
  | [] => false
  | x :: _ => decide (x.toNat = 45)
def numW (l : List UInt8) : Int := if minusB l = true then -frReadF (l.drop 1) else frReadF l
def parW (l : List UInt8) : Fr := ⟨numW ((splitB 47 l).getD 0 []), if (splitB 47 l).length = 2 then frReadF ((splitB 47 l).getD 1 []) else 1⟩
def fparW (l : List UInt8) : Bool := decide ((splitB 47 l).length ≤ 2) && fitB l (parW l)

theorem fit_t {l : List UInt8} {f : Fr} : fitB l f = true ↔ frB f = true ∧ frTxt f = l := by
  unfold fitB
  rw [Bool.and_eq_true_iff, decide_eq_true_iff]
theorem frRead_digits {u : Nat} (h : u ≤ 1000000000) : frReadF (decDigits u) = u := by
  obtain ⟨h1, h2⟩ := digits_lenW h
  unfold frReadF
  rw [if_pos (inB_t.2 (by omega)), decFrom_digits]
theorem numW_itoa {n : Int} (h : -1000000000 ≤ n ∧ n ≤ 1000000000) : numW (Lib.itoa n) = n := by
  unfold numW Lib.itoa
  by_cases hn : n < 0
  · rw [if_pos hn]
    rw [show minusB (45 :: decDigits n.natAbs) = true from rfl, if_pos rfl, show (45 :: decDigits n.natAbs).drop 1 = decDigits n.natAbs from rfl, frRead_digits (by omega)]
    omega
  · rw [if_neg hn]
    have hh := head_digits n.toNat
    have hm : minusB (decDigits n.toNat) = false := by
      cases hc : decDigits n.toNat with
      | nil => rfl
      | cons b r =>
        rw [hc] at hh
        simp only [List.getD_cons_zero] at hh
        exact decide_eq_false (by omega)
    rw [hm, if_neg (by simp), frRead_digits (by omega)]
    omega
theorem itoa47 (n : Int) : (47 : UInt8) ∉ Lib.itoa n := itoa_no (by decide) (by decide)
theorem itoa47' (n : Int) : ∀ x ∈ Lib.itoa n, x.toNat ≠ 47 := fun x hx e => by
  have := itoa_in n x hx
  omega
theorem cut_no {l : List UInt8} {c : UInt8} (h : c ∉ l) : Lib.cut l [c] = (l, [], false) := by
  unfold Lib.cut
  rw [Lib.index_one, indexByte_no l c h, if_neg (by omega)]
/-- THE TWO READ A FRACTION'S TEXT AS THE FRACTION. -/
theorem par_txt {f : Fr} (h : frB f = true) : parA (frTxt f) = some f ∧ (splitB 47 (frTxt f)).length ≤ 2 ∧ parW (frTxt f) = f := by
  obtain ⟨hn, hd, _⟩ := frB_t.1 h
  obtain ⟨n, d⟩ := f
  simp only at hn hd
  unfold parA denA cutP cutR cutK parW frTxt
  simp only
  by_cases h1 : d = 1
  · subst h1
    rw [if_pos rfl, cut_no (itoa47 n), split_no _ (itoa47' n)]
    refine ⟨?_, by simp, ?_⟩
    · simp only [atoi_itoaW]
      rfl
    · simp [numW_itoa hn]
  · rw [if_neg h1, cut_first _ _ _ (itoa47 n), split_at _ _ _ (itoa47' n) rfl, split_no _ (itoa47' d)]
    refine ⟨?_, by simp, ?_⟩
    · simp only [atoi_itoaW, if_true]
    · have e : frReadF (Lib.itoa d) = d := by
        rw [itoa_pos (by omega), frRead_digits (by omega)]
        omega
      simp [numW_itoa hn, e]
theorem fpar_t {l : List UInt8} (h : fparB l = true) : frB (fparF l) = true ∧ frTxt (fparF l) = l := by
  unfold fparB at h
  unfold fparF
  cases hp : parA l with
  | none => rw [hp] at h; exact absurd h (by simp)
  | some f => rw [hp] at h; exact fit_t.1 h
theorem fparW_t {l : List UInt8} (h : fparW l = true) : frB (parW l) = true ∧ frTxt (parW l) = l := by
  unfold fparW at h
  exact fit_t.1 (Bool.and_eq_true_iff.1 h).2
theorem fpar_txt {f : Fr} (h : frB f = true) : fparB (frTxt f) = true ∧ fparF (frTxt f) = f := by
  obtain ⟨h1, _, _⟩ := par_txt h
  unfold fparB fparF
  rw [h1]
  exact ⟨fit_t.2 ⟨h, rfl⟩, rfl⟩
theorem fparW_txt {f : Fr} (h : frB f = true) : fparW (frTxt f) = true ∧ parW (frTxt f) = f := by
  obtain ⟨_, h2, h3⟩ := par_txt h
  unfold fparW
  rw [h3]
  exact ⟨Bool.and_eq_true_iff.2 ⟨decide_eq_true h2, fit_t.2 ⟨h, rfl⟩⟩, rfl⟩
/-- Both readings are the same. -/
theorem fpar_eq (l : List UInt8) : fparW l = fparB l ∧ (fparB l = true → parW l = fparF l) := by
  cases h : fparB l
  · refine ⟨?_, fun h => by cases h⟩
    cases g : fparW l
    · rfl
    · obtain ⟨h1, h2⟩ := fparW_t g
      have := (fpar_txt h1).1
      rw [h2, h] at this
      exact absurd this (by simp)
  · obtain ⟨h1, h2⟩ := fpar_t h
    obtain ⟨g1, g2⟩ := fparW_txt h1
    rw [h2] at g1 g2
    exact ⟨g1, fun _ => g2⟩
/-- The parts of a text are short. -/
def PF (l : List UInt8) : Prop := l.length ≤ 1000 ∧ (cutP l).length ≤ 18 ∧ (cutR l).length ≤ 18
theorem cut_lenF (l : List UInt8) : (cutP l).length ≤ l.length ∧ (cutR l).length ≤ l.length := by
  unfold cutP cutR Lib.cut
  split
  · simp
    omega
  · simp
theorem PF_short {l : List UInt8} (h : l.length ≤ 18) : PF l := ⟨by omega, by have := cut_lenF l; omega, by have := cut_lenF l; omega⟩
theorem frTxt_len {f : Fr} (h : frB f = true) : (frTxt f).length ≤ 23 := by
  obtain ⟨hn, hd, _⟩ := frB_t.1 h
  unfold frTxt
  have l1 := itoa_lenW hn
  have l2 := itoa_lenW (n := f.d) (by omega)
  split
  · omega
  · simp; omega
theorem PF_txt {f : Fr} (h : frB f = true) : PF (frTxt f) := by
  have hl := frTxt_len h
  obtain ⟨hn, hd, _⟩ := frB_t.1 h
  have l1 := itoa_lenW hn
  have l2 := itoa_lenW (n := f.d) (by omega)
  refine ⟨by omega, ?_⟩
  unfold cutP cutR frTxt
  by_cases h1 : f.d = 1
  · rw [if_pos h1, cut_no (itoa47 _)]
    exact ⟨by simp only; omega, by simp⟩
  · rw [if_neg h1, cut_first _ _ _ (itoa47 _)]
    exact ⟨by simp only; omega, by simp only; omega⟩

end Go.Proofs.Ytekhmjhbdoigoaa
