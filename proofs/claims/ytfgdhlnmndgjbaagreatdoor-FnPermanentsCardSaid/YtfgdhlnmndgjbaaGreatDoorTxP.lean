/-
  Plain: texts of numbers. By an AI agent.
-/
import Derived.Test.YtfgdhlnmndgjbaaGreatDoorLineP
import Derived.Test.YtfgdhlnmndgjbaaGreatDoorCutS
import Derived.Lib.SplitLaws
import Derived.Lib.AtoiTie
namespace Go.Proofs.YtfgdhlnmndgjbaaGreatDoor
open Lib (decDigits decFrom digitVal)

theorem digits_lenW {u : Nat} (h : u ≤ 1000000000) : 1 ≤ (decDigits u).length ∧ (decDigits u).length ≤ 10 := by
  rw [Lib.decDigits_length]
  refine ⟨Lib.nDigits_pos u, ?_⟩
  rcases Nat.lt_or_ge 10 (Lib.nDigits u) with h7 | h7
  · exfalso
    have := nDig_low u (by omega)
    obtain ⟨k, hk⟩ : ∃ k, Lib.nDigits u = k + 11 := ⟨Lib.nDigits u - 11, by omega⟩
    have h10 : (10 : Nat) ^ 10 = 10000000000 := by decide
    have h11 : (10 : Nat) ^ 10 ≤ 10 ^ (k + 11 - 1) := Nat.pow_le_pow_right (by omega) (by omega)
    rw [hk] at this
    omega
  · exact h7
theorem itoa_lenW {n : Int} (h : -1000000000 ≤ n ∧ n ≤ 1000000000) : (Lib.itoa n).length ≤ 11 := by
  unfold Lib.itoa
  split
  · have := digits_lenW (u := n.natAbs) (by omega)
    simp
    omega
  · have := digits_lenW (u := n.toNat) (by omega)
    omega
theorem atoi_itoaW (n : Int) : Lib.atoi (Lib.itoa n) = some n := by
  have hdn : ∀ u, Lib.decNat (decDigits u) = some u := fun u => by
    unfold Lib.decNat
    have hne : (decDigits u).isEmpty = false := by
      have h1 := Lib.decDigits_length u
      have h2 := Lib.nDigits_pos u
      cases hd : decDigits u with
      | nil => rw [hd, List.length_nil] at h1; omega
      | cons _ _ => rfl
    rw [hne, decFrom_digits]; rfl
  unfold Lib.itoa
  by_cases hn : n < 0
  · rw [if_pos hn]
    show (if ((45 : UInt8) == 45) = true then (Lib.decNat (decDigits n.natAbs)).map fun (m : Nat) => -(m : Int) else if ((45 : UInt8) == 43) = true then (Lib.decNat (decDigits n.natAbs)).map fun (m : Nat) => (m : Int) else (Lib.decNat (45 :: decDigits n.natAbs)).map fun (m : Nat) => (m : Int)) = some n
    rw [if_pos (by rfl), hdn]
    simp only [Option.map_some]
    congr 1; omega
  · rw [if_neg hn]
    have hh := head_digits n.toNat
    have hd := hdn n.toNat
    cases hc : decDigits n.toNat with
    | nil => rw [hc] at hd; exact absurd hd (by simp [Lib.decNat])
    | cons b r =>
      rw [hc] at hd hh
      simp only [List.getD_cons_zero] at hh
      show (if (b == 45) = true then (Lib.decNat r).map fun (m : Nat) => -(m : Int) else if (b == 43) = true then (Lib.decNat r).map fun (m : Nat) => (m : Int) else (Lib.decNat (b :: r)).map fun (m : Nat) => (m : Int)) = some n
      rw [if_neg (fun h => by have : b = 45 := by simpa using h
                              subst this; exact absurd hh.1 (by decide)), if_neg (fun h => by have : b = 43 := by simpa using h
                                                                                              subst this; exact absurd hh.1 (by decide)), hd]
      simp only [Option.map_some]
      congr 1; omega
theorem itoa_pos {n : Int} (h : 0 ≤ n) : Lib.itoa n = decDigits n.toNat := by
  unfold Lib.itoa
  rw [if_neg (by omega)]

def minusB (l : List UInt8) : Bool := match l with
  | [] => false
  | x :: _ => decide (x.toNat = 45)
theorem cut_no {l : List UInt8} {c : UInt8} (h : c ∉ l) : Lib.cut l [c] = (l, [], false) := by
  unfold Lib.cut
  rw [Lib.index_one, indexByte_no l c h, if_neg (by omega)]
/-- The number that a text of any length spells. -/
def atoiO (l : List UInt8) : Option Int := match Lib.atoiAll l with
  | .ok n => some n
  | _ => none
theorem atoiO_itoa {n : Int} (h : -1000000000 ≤ n ∧ n ≤ 1000000000) : atoiO (Lib.itoa n) = some n := by
  have h1 := itoa_lenW h
  unfold atoiO
  rw [Lib.atoiAll_short _ (by omega), atoi_itoaW]
  rfl
/-- The library's split at one byte. -/
theorem splitK_eq (c : UInt8) : ∀ (k : Nat) (l : List UInt8), l.count c = k → Lib.splitK [c] 0 k l = splitB c.toNat l
  | 0, l, h => by
    have hc : c ∉ l := List.count_eq_zero.1 h
    rw [Lib.splitK, split_no l (fun x hx e => hc (by rw [← UInt8.toNat_inj.1 e]; exact hx))]
  | k + 1, l, h => by
    have hm : c ∈ l := List.count_pos_iff.1 (by omega)
    obtain ⟨p, r, rfl, hp⟩ := List.eq_append_cons_of_mem hm
    have hi : Lib.index (p ++ c :: r) [c] = p.length := by rw [Lib.index_one, indexByte_first p r c hp]
    have hk : r.count c = k := by
      rw [List.count_append, List.count_cons_self, List.count_eq_zero.2 hp] at h
      omega
    rw [split_at p r c (fun x hx e => hp (by rw [← UInt8.toNat_inj.1 e]; exact hx)) rfl, Lib.splitK, hi, if_neg (by simp)]
    have e1 : ((p.length : Int)).toNat = p.length := by omega
    rw [e1, Nat.add_zero, List.take_left' rfl, show (p ++ c :: r).drop (p.length + [c].length) = r from (by
      rw [← List.drop_drop, List.drop_left' rfl]; first | rfl | simp), splitK_eq c k r hk]

/-- How a text is read with separators between numbers. -/
def swS (sp : List UInt8) (r : List UInt8) (k : Nat) : List UInt8 × List UInt8 × Bool := if k < sp.length then Lib.cut r [sp.getD k 0] else (r, [], true)
def swR (sp l : List UInt8) : Nat → List UInt8
  | 0 => l
  | k + 1 => (swS sp (swR sp l k) k).2.1
def swP (sp l : List UInt8) (k : Nat) : List UInt8 := (swS sp (swR sp l k) k).1
def swO (sp l : List UInt8) (k : Nat) : Bool := (swS sp (swR sp l k) k).2.2 && (atoiO (swP sp l k)).isSome
def swN (sp l : List UInt8) (k : Nat) : Int := (atoiO (swP sp l k)).getD 0
def swB (sp l : List UInt8) : Bool := (List.range (sp.length + 1)).all (swO sp l)
theorem swB_f {sp l : List UInt8} {k : Nat} (hk : k ≤ sp.length) (h : swO sp l k = false) : swB sp l = false := by
  cases e : swB sp l
  · rfl
  · unfold swB at e
    rw [List.all_eq_true] at e
    have := e k (List.mem_range.2 (by omega))
    rw [h] at this
    exact absurd this (by simp)
theorem swB_t {sp l : List UInt8} (h : ∀ k, k < sp.length + 1 → swO sp l k = true) : swB sp l = true := by
  unfold swB
  rw [List.all_eq_true]
  intro k hk
  exact h k (List.mem_range.1 hk)
theorem cut_len2 (l : List UInt8) (c : UInt8) : (Lib.cut l [c]).1.length ≤ l.length ∧ (Lib.cut l [c]).2.1.length ≤ l.length := by
  unfold Lib.cut
  split
  · simp
    omega
  · simp
theorem swS_len (sp l : List UInt8) (k : Nat) : (swS sp l k).1.length ≤ l.length ∧ (swS sp l k).2.1.length ≤ l.length := by
  unfold swS
  split
  · exact cut_len2 l _
  · simp
theorem swR_len (sp l : List UInt8) : ∀ k, (swR sp l k).length ≤ l.length
  | 0 => Nat.le_refl _
  | k + 1 => Nat.le_trans (swS_len sp _ k).2 (swR_len sp l k)
theorem swP_len (sp l : List UInt8) (k : Nat) : (swP sp l k).length ≤ l.length := Nat.le_trans (swS_len sp _ k).1 (swR_len sp l k)
/-- What the reference reads as a number without a sign. -/
def l1RdF (l : List UInt8) : Int := if inB l.length 1 6 = true ∧ ¬ ((l.getD 0 0).toNat = 48 ∧ 1 < l.length) then (match Lib.decFrom 0 l with | some n => (n : Int) | none => -1) else -1
theorem digits_len6 {u : Nat} (h : u ≤ 999999) : 1 ≤ (decDigits u).length ∧ (decDigits u).length ≤ 6 := by
  rw [Lib.decDigits_length]
  refine ⟨Lib.nDigits_pos u, ?_⟩
  rcases Nat.lt_or_ge 6 (Lib.nDigits u) with h7 | h7
  · exfalso
    have := nDig_low u (by omega)
    obtain ⟨k, hk⟩ : ∃ k, Lib.nDigits u = k + 7 := ⟨Lib.nDigits u - 7, by omega⟩
    have h10 : (10 : Nat) ^ 6 = 1000000 := by decide
    have h11 : (10 : Nat) ^ 6 ≤ 10 ^ (k + 7 - 1) := Nat.pow_le_pow_right (by omega) (by omega)
    rw [hk] at this
    omega
  · exact h7
theorem l1Rd_digits {u : Nat} (h : u ≤ 999999) : l1RdF (decDigits u) = u := by
  obtain ⟨h1, h2⟩ := digits_len6 h
  unfold l1RdF
  rw [if_pos ⟨inB_t.2 (by omega), fun hh => (head_digits u).2.2 (by have := digits_two hh.2; omega) hh.1⟩, decFrom_digits]
end Go.Proofs.YtfgdhlnmndgjbaaGreatDoor
