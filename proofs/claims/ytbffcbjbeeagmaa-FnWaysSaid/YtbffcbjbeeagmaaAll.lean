/-
  Whether all numbers of a list lie in a range: the reference's.
-/
import Derived.Test.YtbffcbjbeeagmaaGood
namespace Go.Proofs.Ytbffcbjbeeagmaa
open Go.RowKit

def allB (l : List Int) (lo hi : Int) : Bool := l.all fun x => inB x lo hi
theorem allB_t {l : List Int} {lo hi : Int} : allB l lo hi = true ↔ ∀ j, j < l.length → lo ≤ l.getD j 0 ∧ l.getD j 0 ≤ hi := by
  unfold allB
  rw [List.all_eq_true]
  constructor
  · intro h j hj
    have := h (l.getD j 0) (by simp [List.getD, hj])
    exact inB_t.1 this
  · intro h x hx
    obtain ⟨j, hj, rfl⟩ := List.getElem_of_mem hx
    have := h j hj
    rw [inB_t]
    simpa [List.getD, hj] using this
theorem allB_f {l : List Int} {lo hi : Int} {j : Nat} (hj : j < l.length) (h : inB (l.getD j 0) lo hi = false) : allB l lo hi = false := by
  unfold allB
  rw [List.all_eq_false]
  exact ⟨l.getD j 0, by simp [List.getD, hj], by simpa using h⟩

set_option maxHeartbeats 400000 in
theorem l1All_any (ad : Option Addr) (cap : Nat) (xs : List Int) (lo hi : Int) (w : World) (hl : xs.length ≤ 1048576) (hr : RdI w ad xs) :
    Calls Try.prog 67 #[.slice ad xs.length cap, .int .i64 lo, .int .i64 hi] w fun e w' => e = .returned (.bool (allB xs lo hi)) ∧ w = w' := by
  have HR := Lib.hid hr; clear hr
  go_enter Try.func67, Try.ntmps67
  go_wp2
  go_loop [11] (fun i => ∃ k : Nat, k ≤ xs.length ∧ i = .int .i64 k ∧ ∀ j, j < k → lo ≤ xs.getD j 0 ∧ xs.getD j 0 ≤ hi) (fun i => xs.length - (intOf i).toNat)
  case atStart => exact ⟨0, Nat.zero_le _, rfl, fun j hj => by omega⟩
  case round =>
    obtain ⟨k, hk, rfl, hj⟩ := hrel
    have HJ := Lib.hid hj; clear hj
    by_cases hlt : k < xs.length
    · obtain ⟨b, off, rfl, hb, c⟩ := HR.out k hlt
      generalize hx : xs.getD k 0 = x at c
      have HX := Lib.hid hx; clear hx
      by_cases h1 : inB x lo hi = true
      · go_wp2_with (go_at_call 46; refine (l1In_any _ _ _ _).mono ?_; rintro e w' ⟨rfl, rfl⟩)
        go_round
        case rel =>
          refine ⟨k + 1, by omega, by go_num, fun j hj => ?_⟩
          by_cases e : j = k
          · subst e; rw [HX.out]; exact inB_t.1 h1
          · exact HJ.out j (by omega)
        case measure => simp [intOf]; omega
      · have h1' := Bool.eq_false_iff.2 h1
        go_wp2_with (go_at_call 46; refine (l1In_any _ _ _ _).mono ?_; rintro e w' ⟨rfl, rfl⟩)
        go_ret
        exact ⟨ret_bool (allB_f hlt (by rw [HX.out]; exact h1')).symm, rfl⟩
    · have he : k = xs.length := by omega
      subst he
      go_wp2
      go_ret
      exact ⟨ret_bool (allB_t.2 HJ.out).symm, rfl⟩

end Go.Proofs.Ytbffcbjbeeagmaa
