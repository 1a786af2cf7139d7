/-
  Whether the bytes of a law are too many.
-/
import Derived.Test.YtfcdmdamniijbaaGreatDoorLaws
namespace Go.Proofs.YtfcdmdamniijbaaGreatDoor
open Go.RowKit

def bigB (a b : Nat) : Bool := decide (1048576 < (a : Int)) || decide (1048576 - (a : Int) < (b : Int))
set_option maxHeartbeats 800000 in
theorem big_c (ad : Option Addr) (a cap : Nat) (ad' : Option Addr) (b cap' : Nat) (w : World) (ha : a ≤ 9223372036854775807) :
    Calls Tryz.prog 4 #[.slice ad a cap, .slice ad' b cap'] w fun e w' => e = .returned (.bool (bigB a b)) ∧ w = w' := by
  by_cases h1 : 1048576 < (a : Int)
  · have hd : bigB a b = true := by unfold bigB; simp [h1]
    have HD := Lib.hid hd; clear hd
    go_enter Tryz.func4, Tryz.ntmps4
    go_wp2_with fail
    go_ret
    exact ⟨ret_bool (by rw [HD.out]), rfl⟩
  · have h3 : bigB a b = decide (1048576 - (a : Int) < (b : Int)) := by unfold bigB; rw [decide_eq_false h1]; rfl
    have HD := Lib.hid h3; clear h3
    go_enter Tryz.func4, Tryz.ntmps4
    go_wp2_with fail
    go_ret
    exact ⟨ret_bool (by rw [HD.out]), rfl⟩

end Go.Proofs.YtfcdmdamniijbaaGreatDoor
