/-
  The value by the roots: program and reference. Printed by gen_rtV.py.
-/
import Derived.Test.YtekhmjhbdoigoaaRtU
namespace Go.Proofs.Ytekhmjhbdoigoaa
open Go.RowKit

theorem RowR.setOther {w : World} {B g : Nat} {v : Value} {l : List Rt} {a b : Int} (h : RowR w B v l) (hg : g < B) : RowR (fr2 w g a b) B v l :=
  row_chg (row_chg h (Chg.set g 0 w (.int .i64 a)) hg) (Chg.set g 1 _ (.int .i64 b)) hg
theorem gname {w : World} {g : Nat} {f : Fr} (_ : FrO w g f) : ∃ g', g = g' := ⟨_, rfl⟩
theorem FrO.drew' {w : World} {g : Nat} {f : Fr} (h : FrO w g f) : FrO w.drew g f := h.below (Below.refl _ _).drew
set_option maxHeartbeats 800000 in
theorem poFin_c (n : Int) (w : World) :
    Calls Try.prog 46 #[.int .i64 n] w fun e w' => e = .returned (.bool (finB' n)) ∧ w = w' := by
  have c := Lib.hid (fun w => l1In_any n (-1000000) 1000000 w)
  unfold finB'
  generalize inB n (-1000000) 1000000 = u at c ⊢
  go_enter Try.func46, Try.ntmps46
  go_wp2_with fail
  refine (c.out _).mono ?_
  rintro e w' ⟨rfl, rfl⟩
  go_wp2_with fail
  go_ret
  exact ⟨rfl, rfl⟩
theorem acc_succ (p : List Int) (x : Int) (j : Nat) : accV p x (j + 1) = accV p x j + stepJ (cof p) x (stP p) j := by
  unfold accV
  rw [sumJ]
  omega
end Go.Proofs.Ytekhmjhbdoigoaa
