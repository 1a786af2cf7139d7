/-
  When n vertices and links are a graph: the reference's chGood and the program's isGraph answer the same Bool.
-/
import Derived.Test.YtfgdhlnmndgjbaaGreatDoorLaws
namespace Go.Proofs.YtfgdhlnmndgjbaaGreatDoor
open Go.RowKit

def lkOk (n : Int) (x : Lk) : Bool := inB x.b 1 (n-1) && inB x.a 0 (x.b-1) && inB x.n 1 5
def lkLt (x y : Lk) : Bool := decide (x.a < y.a ∨ (x.a = y.a ∧ x.b < y.b))
def goodAt (n : Int) (ls : List Lk) (i : Nat) : Bool := lkOk n (ls.getD i Lk.z) && (i == 0 || lkLt (ls.getD (i-1) Lk.z) (ls.getD i Lk.z))
def goodL (n : Int) (ls : List Lk) : Bool := inB n 1 8 && (List.range ls.length).all (goodAt n ls)

theorem goodL_n {n : Int} {ls : List Lk} (h : inB n 1 8 = false) : goodL n ls = false := by simp [goodL, h]
theorem goodL_false {n : Int} {ls : List Lk} {k : Nat} (hk : k < ls.length) (h : goodAt n ls k = false) : goodL n ls = false := by
  simp only [goodL, Bool.and_eq_false_iff, List.all_eq_false]
  exact Or.inr ⟨k, by simpa using hk, by simp [h]⟩
theorem goodL_true {n : Int} {ls : List Lk} (hn : inB n 1 8 = true) (h : ∀ j, j < ls.length → goodAt n ls j = true) : goodL n ls = true := by
  simp only [goodL, Bool.and_eq_true, List.all_eq_true]
  exact ⟨hn, fun j hj => h j (by simpa using hj)⟩

/-- What one link's tests come to. -/
theorem goodAt_bad {n : Int} {ls : List Lk} {k : Nat} {x : Lk} (hx : ls.getD k Lk.z = x) (h : lkOk n x = false) : goodAt n ls k = false := by unfold goodAt; rw [hx, h]; rfl
theorem goodAt_head {n : Int} {ls : List Lk} {k : Nat} {x : Lk} (hx : ls.getD k Lk.z = x) (h : lkOk n x = true) (hk : k = 0) : goodAt n ls k = true := by unfold goodAt; rw [hx, h, hk]; rfl
theorem goodAt_next {n : Int} {ls : List Lk} {k : Nat} {x p : Lk} (hx : ls.getD k Lk.z = x) (hp : ls.getD (k-1) Lk.z = p) (h : lkOk n x = true) (hk : k ≠ 0) : goodAt n ls k = lkLt p x := by unfold goodAt; rw [hx, hp, h]; simp [hk]

set_option maxHeartbeats 400000 in
theorem l1In_any (n lo hi : Int) (w : World) :
    Calls Tryz.prog 66 #[.int .i64 n, .int .i64 lo, .int .i64 hi] w fun e w' => e = .returned (.bool (inB n lo hi)) ∧ w = w' := by
  go_enter Tryz.func66, Tryz.ntmps66
  go_wp2
  all_goals go_ret
  · exact ⟨ret_bool (by simp [inB, *]), rfl⟩
  · exact ⟨ret_bool (by simp [inB]; omega), rfl⟩

set_option maxHeartbeats 400000 in
theorem within_any (n lo hi : Int) (w : World) :
    Calls Tryz.prog 67 #[.int .i64 n, .int .i64 lo, .int .i64 hi] w fun e w' => e = .returned (.bool (inB n lo hi)) ∧ w = w' := by
  go_enter Tryz.func67, Tryz.ntmps67
  go_wp2
  all_goals go_ret
  · exact ⟨ret_bool (by simp [inB, *]), rfl⟩
  · exact ⟨ret_bool (by simp [inB]; omega), rfl⟩

end Go.Proofs.YtfgdhlnmndgjbaaGreatDoor
