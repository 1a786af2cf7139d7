/-
  The roots' texts: program and reference. Printed by gen_rtX.py.
-/
import Derived.Test.YtfcdmdamniijbaaGreatDoorRtT
namespace Go.Proofs.YtfcdmdamniijbaaGreatDoor
open Go.RowKit

def rootTxt (r : Rt) : List UInt8 := frTxt r.f ++ 42 :: (Lib.itoa r.t ++ [59])
def textP (l : List Rt) : List UInt8 := l.flatMap rootTxt
theorem textP_take {l : List Rt} {j : Nat} (h : j < l.length) : textP (l.take (j + 1)) = textP (l.take j) ++ rootTxt (l.getD j Rt.z) := by
  unfold textP
  rw [List.take_succ_eq_append_getElem h, List.flatMap_append, List.getD_eq_getElem?_getD, List.getElem?_eq_getElem h]
  simp
/-- What is known of the roots. -/
theorem root_facts {p : List Int} (hp : polyB p = true) : (rootsP p).length ≤ 12 ∧ ∀ j, j < (rootsP p).length → frB ((rootsP p).getD j Rt.z).f = true ∧ 1 ≤ ((rootsP p).getD j Rt.z).t ∧ ((rootsP p).getD j Rt.z).t ≤ 13 := by
  obtain ⟨h1, h13, hc, hs⟩ := cor_facts hp
  have hl := rootsP_len p
  have hpl := (polyB_t hp).1
  refine ⟨by omega, fun j hj => ?_⟩
  have h := hs ((corP p).length - 2 - j) (by omega)
  rw [show (corP p).length - 2 - ((corP p).length - 2 - j) = j by omega] at h
  obtain ⟨h4, h5⟩ := h
  have a := hc ((corP p).length - 2 - j) (by omega)
  have b := hc ((corP p).length - 2 - j + 1) (by omega)
  rw [h5]
  exact ⟨root_good h4 (by omega) a.2.2 b.2.2, show 1 ≤ ((((corP p).getD ((corP p).length - 2 - j + 1) 0 : Nat) : Int) - (((corP p).getD ((corP p).length - 2 - j) 0 : Nat) : Int)) by omega, show ((((corP p).getD ((corP p).length - 2 - j + 1) 0 : Nat) : Int) - (((corP p).getD ((corP p).length - 2 - j) 0 : Nat) : Int)) ≤ 13 by omega⟩
theorem rootTxt_len {r : Rt} (h : frB r.f = true) (ht : 1 ≤ r.t ∧ r.t ≤ 13) : (frTxt r.f).length ≤ 23 ∧ (Lib.itoa r.t).length ≤ 11 ∧ (rootTxt r).length ≤ 40 := by
  have h1 := frTxt_len h
  have h2 := itoa_lenW (n := r.t) (by omega)
  refine ⟨h1, h2, ?_⟩
  unfold rootTxt
  simp
  omega
theorem textP_len {p : List Int} (hp : polyB p = true) : ∀ j, j ≤ (rootsP p).length → (textP ((rootsP p).take j)).length ≤ 40 * j
  | 0, _ => by simp [textP]
  | j + 1, hj => by
    have ih := textP_len hp j (by omega)
    have hf := (root_facts hp).2 j (by omega)
    have := (rootTxt_len hf.1 hf.2).2.2
    rw [textP_take (by omega), List.length_append]
    omega
theorem bytesR (s A D : List UInt8) : (⟨s.toArray⟩ : ByteArray) ++ ((⟨A.toArray⟩ : ByteArray) ++ ⟨#[42]⟩ ++ ⟨D.toArray⟩ ++ ⟨#[59]⟩) = ⟨(s ++ (A ++ 42 :: (D ++ [59]))).toArray⟩ := by
  apply ByteArray.ext
  simp
end Go.Proofs.YtfcdmdamniijbaaGreatDoor
