/-
  Valid rays: the reference's. By an AI agent.
-/
import Derived.Test.YtlplodkabeiimaaStJ
namespace Go.Proofs.Ytlplodkabeiimaa
open Go.RowKit

set_option maxHeartbeats 800000 in
theorem stCommon_c (m n : Nat) (w : World) (hmb : m ≤ 4000000000000000000) (hnb : n ≤ 4000000000000000000) :
    Calls Try.prog 42 #[.int .i64 (m : Int), .int .i64 (n : Int)] w fun e w' => e = .returned (.int .i64 (Nat.gcd m n : Nat)) ∧ w = w' := by
  go_enter Try.func42, Try.ntmps42
  go_wp2_with fail
  go_loopw [0, 1] (fun u v wr => ∃ p q : Nat, u = .int .i64 p ∧ v = .int .i64 q ∧ p ≤ 4000000000000000000 ∧ q ≤ 4000000000000000000 ∧ Nat.gcd p q = Nat.gcd m n ∧ w = wr) (fun _ v _ => (intOf v).toNat)
  case atStart => exact ⟨m, n, rfl, rfl, hmb, hnb, rfl, rfl⟩
  case round =>
    obtain ⟨p, q, rfl, rfl, hp, hq, hgc, rfl⟩ := hrel
    have HGC := Lib.hid hgc; clear hgc
    by_cases h0 : q = 0
    case pos =>
      have h1 : decide (0 < (q : Int)) = false := decide_eq_false (by omega)
      have h2 : ¬ 0 < q := by omega
      have HPG := Lib.hid (show Nat.gcd m n = p by rw [← HGC.out, h0, Nat.gcd_zero_right])
      clear h0 HGC
      go_wp2_with fail
      all_goals first
        | (exfalso; omega)
        | (go_ret; exact ⟨congrArg (fun z : Nat => Ending.returned (.int .i64 (z : Int))) HPG.out.symm, rfl⟩)
    case neg =>
      have h1 : decide (0 < (q : Int)) = true := decide_eq_true (by omega)
      have h2 : ¬ (q : Int) = 0 := by omega
      have h3 : 0 < q := by omega
      obtain ⟨r, hr⟩ : ∃ r, p % q = r := ⟨_, rfl⟩
      have e1 : Int.tmod (p : Int) (q : Int) = (r : Int) := by rw [← hr]; rfl
      have hrq : r < q := by rw [← hr]; exact Nat.mod_lt _ (by omega)
      have hg2 := Lib.hid (show Nat.gcd q r = Nat.gcd m n by rw [← HGC.out, ← hr, Nat.gcd_comm p q, Nat.gcd_rec q p, Nat.gcd_comm])
      clear hr
      go_wp2_with fail
      go_roundw
      case rel => exact ⟨q, r, rfl, rfl, hq, by omega, hg2.out, by trivial⟩
      case measure => simp [intOf]; omega

set_option maxHeartbeats 800000 in
theorem stBefore_c (p q : Ry) (w : World) :
    Calls Try.prog 61 #[ryV p, ryV q] w fun e w' => e = .returned (.bool (decide (bef p q))) ∧ Below w.heap.size w w' := by
  obtain ⟨a, b, c⟩ := p
  obtain ⟨x, y, z⟩ := q
  have hb := ((Below.refl w.heap.size w).alloc (Nat.le_refl _) (.cells #[.int .i64 a, .int .i64 b, .int .i64 c] 35)).alloc (by simp) (.cells #[.int .i64 x, .int .i64 y, .int .i64 z] 35)
  unfold ryV
  by_cases h1 : a < x
  · have g1 : decide (a < x) = true := decide_eq_true h1
    go_enter Try.func61, Try.ntmps61
    go_wp2_with fail
    go_ret
    exact ⟨ret_bool (by simp [bef, h1]), hb⟩
  · have g1 : decide (a < x) = false := decide_eq_false h1
    by_cases h2 : a = x
    · subst h2
      go_enter Try.func61, Try.ntmps61
      go_wp2_with fail
      go_ret
      exact ⟨ret_bool (by simp [bef]), hb⟩
    · have g2 : (a == x) = false := by simpa using h2
      go_enter Try.func61, Try.ntmps61
      go_wp2_with fail
      go_ret
      exact ⟨ret_bool (by simp [bef, h1, h2]), hb⟩

set_option maxHeartbeats 800000 in
theorem stSteps_c (a b : Int) (w : World) :
    Calls Try.prog 54 #[.int .i64 a, .int .i64 b] w fun e w' => e = .returned (.bool (stepsB a b)) ∧ w = w' := by
  have C1 := Lib.hid (fun w => l1In_any a (-20) 20 w)
  have C2 := Lib.hid (fun w => l1In_any b (-20) 20 w)
  unfold stepsB
  generalize inB a (-20) 20 = u at C1 ⊢
  generalize inB b (-20) 20 = v at C2 ⊢
  cases u
  · go_enter Try.func54, Try.ntmps54
    go_wp2_with fail
    refine (C1.out _).mono ?_
    rintro e w1 ⟨rfl, rfl⟩
    go_wp2_with fail
    go_ret
    exact ⟨rfl, rfl⟩
  · cases v
    · go_enter Try.func54, Try.ntmps54
      go_wp2_with fail
      refine (C1.out _).mono ?_
      rintro e w1 ⟨rfl, rfl⟩
      go_wp2_with fail
      refine (C2.out _).mono ?_
      rintro e w1 ⟨rfl, rfl⟩
      go_wp2_with fail
      go_ret
      exact ⟨rfl, rfl⟩
    · by_cases ha : a = 0
      · subst ha
        by_cases hb : b = 0
        · subst hb
          go_enter Try.func54, Try.ntmps54
          go_wp2_with fail
          refine (C1.out _).mono ?_
          rintro e w1 ⟨rfl, rfl⟩
          go_wp2_with fail
          refine (C2.out _).mono ?_
          rintro e w1 ⟨rfl, rfl⟩
          go_wp2_with fail
          go_ret
          exact ⟨ret_bool (by simp), rfl⟩
        · have hb' : (b != 0) = true := by simpa using hb
          go_enter Try.func54, Try.ntmps54
          go_wp2_with fail
          refine (C1.out _).mono ?_
          rintro e w1 ⟨rfl, rfl⟩
          go_wp2_with fail
          refine (C2.out _).mono ?_
          rintro e w1 ⟨rfl, rfl⟩
          go_wp2_with fail
          go_ret
          exact ⟨ret_bool (by simp [hb]), rfl⟩
      · have ha' : (a != 0) = true := by simpa using ha
        go_enter Try.func54, Try.ntmps54
        go_wp2_with fail
        refine (C1.out _).mono ?_
        rintro e w1 ⟨rfl, rfl⟩
        go_wp2_with fail
        refine (C2.out _).mono ?_
        rintro e w1 ⟨rfl, rfl⟩
        go_wp2_with fail
        go_ret
        exact ⟨ret_bool (by simp [ha]), rfl⟩

end Go.Proofs.Ytlplodkabeiimaa
