/-
  Valid rays and stars: the program's. By an AI agent.
-/
import Derived.Test.YtlplodkabeiimaaRyB
import Derived.Test.YtlplodkabeiimaaStQ
namespace Go.Proofs.Ytlplodkabeiimaa
open Go.RowKit
open RaySort (Bd compareRays_g)

def stepsB (a b : Int) : Bool := (inB a (-20) 20 && inB b (-20) 20) && (decide (a ≠ 0) || decide (b ≠ 0))
theorem ry_steps (r : Ry) : ryB r = (stepsB r.x r.y && decide (gcdN r.x r.y = 1) && inB r.w 1 20) := by
  have h : (decide (r.x ≠ 0) || decide (r.y ≠ 0)) = false → decide (gcdN r.x r.y = 1) = false := fun e => by
    have : r.x = 0 ∧ r.y = 0 := by simpa using e
    rw [this.1, this.2]
    decide
  unfold ryB stepsB
  generalize decide (gcdN r.x r.y = 1) = g at h ⊢
  generalize (decide (r.x ≠ 0) || decide (r.y ≠ 0)) = z at h ⊢
  generalize inB r.x (-20) 20 = u
  generalize inB r.y (-20) 20 = v
  generalize inB r.w 1 20 = k
  cases z
  · rw [h rfl]; simp
  · simp [Bool.and_assoc]
theorem ry_bd {r : Ry} (h : ryB r = true) : Bd r := by
  have := ry_of h
  exact ⟨by omega, by omega, by omega, by omega⟩

set_option maxHeartbeats 800000 in
theorem areSteps_c (a b : Int) (w : World) :
    Calls Try.prog 53 #[.int .i64 a, .int .i64 b] w fun e w' => e = .returned (.bool (stepsB a b)) ∧ w = w' := by
  have C1 := Lib.hid (fun w => within_any a (-20) 20 w)
  have C2 := Lib.hid (fun w => within_any b (-20) 20 w)
  unfold stepsB
  generalize inB a (-20) 20 = u at C1 ⊢
  generalize inB b (-20) 20 = v at C2 ⊢
  cases u
  · go_enter Try.func53, Try.ntmps53
    go_wp2_with fail
    refine (C1.out _).mono ?_
    rintro e w1 ⟨rfl, rfl⟩
    go_wp2_with fail
    go_ret
    exact ⟨rfl, rfl⟩
  · cases v
    · go_enter Try.func53, Try.ntmps53
      go_wp2_with fail
      refine (C1.out _).mono ?_
      rintro e w1 ⟨rfl, rfl⟩
      go_wp2_with fail
      refine (C2.out _).mono ?_
      rintro e w1 ⟨rfl, rfl⟩
      go_wp2_with fail
      go_ret
      exact ⟨rfl, rfl⟩
    · by_cases ha : a = 0
      · subst ha
        by_cases hb : b = 0
        · subst hb
          go_enter Try.func53, Try.ntmps53
          go_wp2_with fail
          refine (C1.out _).mono ?_
          rintro e w1 ⟨rfl, rfl⟩
          go_wp2_with fail
          refine (C2.out _).mono ?_
          rintro e w1 ⟨rfl, rfl⟩
          go_wp2_with fail
          go_ret
          exact ⟨ret_bool (by simp), rfl⟩
        · have hb' : (b != 0) = true := by simpa using hb
          go_enter Try.func53, Try.ntmps53
          go_wp2_with fail
          refine (C1.out _).mono ?_
          rintro e w1 ⟨rfl, rfl⟩
          go_wp2_with fail
          refine (C2.out _).mono ?_
          rintro e w1 ⟨rfl, rfl⟩
          go_wp2_with fail
          go_ret
          exact ⟨ret_bool (by simp [hb]), rfl⟩
      · have ha' : (a != 0) = true := by simpa using ha
        go_enter Try.func53, Try.ntmps53
        go_wp2_with fail
        refine (C1.out _).mono ?_
        rintro e w1 ⟨rfl, rfl⟩
        go_wp2_with fail
        refine (C2.out _).mono ?_
        rintro e w1 ⟨rfl, rfl⟩
        go_wp2_with fail
        go_ret
        exact ⟨ret_bool (by simp [ha]), rfl⟩

theorem steps_of {a b : Int} (h : stepsB a b = true) : (-20 ≤ a ∧ a ≤ 20) ∧ -20 ≤ b ∧ b ≤ 20 := by
  unfold stepsB inB at h
  simp only [Bool.and_eq_true, decide_eq_true_eq] at h
  omega

set_option maxHeartbeats 800000 in
theorem isRay_c (r : Ry) (w : World) :
    Calls Try.prog 39 #[ryV r] w fun e w' => e = .returned (.bool (ryB r)) ∧ Below w.heap.size w w' := by
  rw [ry_steps]
  obtain ⟨a, b, c⟩ := r
  unfold ryV
  simp only
  have C1 := Lib.hid (fun w => areSteps_c a b w)
  have G1 := Lib.hid (fun w (h : stepsB a b = true) => gcdW_c a b w (by have := steps_of h; omega) (by have := steps_of h; omega))
  have C3 := Lib.hid (fun w => within_any c 1 20 w)
  generalize stepsB a b = u at C1 G1 ⊢
  generalize gcdN a b = g at G1 ⊢
  generalize inB c 1 20 = v at C3 ⊢
  have hb := (Below.refl w.heap.size w).alloc (Nat.le_refl _) (.cells #[.int .i64 a, .int .i64 b, .int .i64 c] 35)
  cases u
  · go_enter Try.func39, Try.ntmps39
    go_wp2_with fail
    refine (C1.out _).mono ?_
    rintro e w1 ⟨rfl, rfl⟩
    go_wp2_with fail
    go_ret
    exact ⟨rfl, hb⟩
  · have G := Lib.hid (fun w => G1.out w rfl); clear G1
    by_cases hg : g = 1
    · subst hg
      go_enter Try.func39, Try.ntmps39
      go_wp2_with fail
      refine (C1.out _).mono ?_
      rintro e w1 ⟨rfl, rfl⟩
      go_wp2_with fail
      refine (G.out _).mono ?_
      rintro e w2 ⟨rfl, hw2⟩
      have m2 := bcell hw2 (show w.heap.size < (w.alloc (.cells #[.int .i64 a, .int .i64 b, .int .i64 c] 35)).heap.size by simp) (show (w.alloc (.cells #[.int .i64 a, .int .i64 b, .int .i64 c] 35)).cell? ⟨w.heap.size, 2, none⟩ = some (.int .i64 c) by simp [go_sem])
      go_wp2_with fail
      refine (C3.out _).mono ?_
      rintro e w3 ⟨rfl, rfl⟩
      go_wp2_with fail
      go_ret
      exact ⟨ret_bool (by simp), ball hb hw2⟩
    · have hg' : (g == 1) = false := by simpa using hg
      go_enter Try.func39, Try.ntmps39
      go_wp2_with fail
      refine (C1.out _).mono ?_
      rintro e w1 ⟨rfl, rfl⟩
      go_wp2_with fail
      refine (G.out _).mono ?_
      rintro e w2 ⟨rfl, hw2⟩
      go_wp2_with fail
      go_ret
      exact ⟨ret_bool (by simp [hg]), ball hb hw2⟩

end Go.Proofs.Ytlplodkabeiimaa
