/-
  Greatest common divisors of wide numbers: program and reference.
-/
import Derived.Test.YtjkfighooijblaaGreatGood
import Derived.Deep.RegionHeld3
namespace Go.Proofs.YtjkfighooijblaaGreat
open Go.RowKit

/-! ### Divisors -/
set_option maxHeartbeats 400000 in
theorem absW_c (n : Int) (w : World) (h : -4000000000000000000 ≤ n ∧ n ≤ 4000000000000000000) :
    Calls Tryz.prog 102 #[.int .i64 n] w fun e w' => e = .returned (.int .i64 n.natAbs) ∧ w = w' := by
  have e1 : IntKind.i64.wrap (-n) = -n := i64_small (by omega) (by omega)
  go_enter Tryz.func102, Tryz.ntmps102
  go_wp2_with fail
  all_goals
    go_ret
    first
      | exact ⟨congrArg Ending.returned (congrArg (Value.int IntKind.i64) (show n = _ by omega)), rfl⟩
      | exact ⟨congrArg Ending.returned (congrArg (Value.int IntKind.i64) (show -n = _ by omega)), rfl⟩

def gcdN (a b : Int) : Int := (Int.gcd a b : Nat)

set_option maxHeartbeats 800000 in
theorem gcdW_c (x y : Int) (w : World) (hx : -4000000000000000000 ≤ x ∧ x ≤ 4000000000000000000) (hy : -4000000000000000000 ≤ y ∧ y ≤ 4000000000000000000) :
    Calls Tryz.prog 98 #[.int .i64 x, .int .i64 y] w fun e w' => e = .returned (.int .i64 (gcdN x y)) ∧ Below w.heap.size w w' := by
  have c1 := fun w => absW_c x w hx
  have c2 := fun w => absW_c y w hy
  have C1 := Lib.hid c1; have C2 := Lib.hid c2; clear c1 c2
  obtain ⟨m, hm⟩ : ∃ m : Nat, x.natAbs = m := ⟨_, rfl⟩
  obtain ⟨n, hn⟩ : ∃ n : Nat, y.natAbs = n := ⟨_, rfl⟩
  have hg : gcdN x y = (Nat.gcd m n : Nat) := by unfold gcdN Int.gcd; rw [hm, hn]
  rw [hm] at C1
  rw [hn] at C2
  have hmb : m ≤ 4000000000000000000 := by omega
  have hnb : n ≤ 4000000000000000000 := by omega
  rw [hg]
  clear hg hm hn hx hy
  go_enter Tryz.func98, Tryz.ntmps98
  go_wp2_with fail
  refine (C1.out _).mono ?_
  rintro e w' ⟨rfl, rfl⟩
  go_wp2_with fail
  refine (C2.out _).mono ?_
  rintro e w' ⟨rfl, rfl⟩
  go_wp2_with fail
  go_loopw [0, 1] (fun u v wr => ∃ p q : Nat, u = .int .i64 p ∧ v = .int .i64 q ∧ p ≤ 4000000000000000000 ∧ q ≤ 4000000000000000000 ∧ Nat.gcd p q = Nat.gcd m n ∧ Below w.heap.size w wr) (fun _ v _ => (intOf v).toNat)
  case atStart => exact ⟨m, n, rfl, rfl, hmb, hnb, rfl, Below.refl _ _⟩
  case round =>
    obtain ⟨p, q, rfl, rfl, hp, hq, hgc, hbel⟩ := hrel
    have HGC := Lib.hid hgc; clear hgc
    by_cases h0 : q = 0
    case pos =>
      subst h0
      go_wp2_with fail
      go_ret
      exact ⟨by rw [← HGC.out, Nat.gcd_zero_right]; rfl, hbel⟩
    case neg =>
      have h1 : ((q : Int) == 0) = false := by simpa using h0
      have h2 : ¬ (q : Int) = 0 := by omega
      obtain ⟨r, hr⟩ : ∃ r, p % q = r := ⟨_, rfl⟩
      have e1 : Int.tmod (p : Int) (q : Int) = (r : Int) := by rw [← hr]; rfl
      have hrq : r < q := by rw [← hr]; exact Nat.mod_lt _ (by omega)
      have hg2 := Lib.hid (show Nat.gcd q r = Nat.gcd m n by rw [← HGC.out, ← hr, Nat.gcd_comm p q, Nat.gcd_rec q p, Nat.gcd_comm])
      clear hr
      go_wp2_with fail
      go_quiet (fail)
      go_wp2_with fail
      go_roundw
      case rel => exact ⟨q, r, rfl, rfl, hq, by omega, hg2.out, bdrewN hbel nq⟩
      case measure => simp [intOf]; omega

set_option maxHeartbeats 400000 in
theorem l1MostW_c (x y : Int) (w : World) :
    Calls Tryz.prog 103 #[.int .i64 x, .int .i64 y] w fun e w' => e = .returned (.int .i64 (if x > y then x else y)) ∧ w = w' := by
  by_cases h : y < x
  · rw [if_pos h]
    go_enter Tryz.func103, Tryz.ntmps103
    go_wp2_with fail
    go_ret
    exact ⟨rfl, rfl⟩
  · rw [if_neg h]
    go_enter Tryz.func103, Tryz.ntmps103
    go_wp2_with fail
    go_ret
    exact ⟨rfl, rfl⟩
set_option maxHeartbeats 400000 in
theorem l1AbsW_c (n : Int) (w : World) (h : -4000000000000000000 ≤ n ∧ n ≤ 4000000000000000000) :
    Calls Tryz.prog 101 #[.int .i64 n] w fun e w' => e = .returned (.int .i64 n.natAbs) ∧ w = w' := by
  have e1 : IntKind.i64.wrap (-n) = -n := i64_small (by omega) (by omega)
  have c := fun w => l1MostW_c n (-n) w
  have hv : (if n > -n then n else -n) = (n.natAbs : Int) := by split <;> omega
  rw [hv] at c
  have C := Lib.hid c; clear c hv
  generalize (n.natAbs : Int) = z at C ⊢
  go_enter Tryz.func101, Tryz.ntmps101
  go_wp2_with fail
  refine (C.out _).mono ?_
  rintro e w' ⟨rfl, rfl⟩
  go_wp2_with fail
  go_ret
  exact ⟨rfl, rfl⟩
set_option maxHeartbeats 800000 in
theorem frGcdW_c (x y : Int) (w : World) (hx : -4000000000000000000 ≤ x ∧ x ≤ 4000000000000000000) (hy : -4000000000000000000 ≤ y ∧ y ≤ 4000000000000000000) :
    Calls Tryz.prog 93 #[.int .i64 x, .int .i64 y] w fun e w' => e = .returned (.int .i64 (gcdN x y)) ∧ Below w.heap.size w w' := by
  obtain ⟨G, hG⟩ : ∃ G, gcdN x y = G := ⟨_, rfl⟩
  rw [hG]
  have HG := Lib.hid hG; clear hG
  go_enter Tryz.func93, Tryz.ntmps93
  go_wp2_with fail
  go_loopw [0, 1] (fun u v wr => ∃ p q : Int, u = .int .i64 p ∧ v = .int .i64 q ∧ (-4000000000000000000 ≤ p ∧ p ≤ 4000000000000000000) ∧ (-4000000000000000000 ≤ q ∧ q ≤ 4000000000000000000) ∧ gcdN p q = G ∧ Below w.heap.size w wr) (fun _ v _ => (intOf v).natAbs)
  case atStart => exact ⟨x, y, rfl, rfl, hx, hy, HG.out, Below.refl _ _⟩
  case round =>
    obtain ⟨p, q, rfl, rfl, hp, hq, hgc, hbel⟩ := hrel
    have HGC := Lib.hid hgc; clear hgc
    by_cases h0 : q = 0
    case pos =>
      subst h0
      have hv : (p.natAbs : Int) = G := by rw [← HGC.out]; unfold gcdN; rw [Int.gcd_zero_right]
      have c := fun w => l1AbsW_c p w hp
      rw [hv] at c
      have C := Lib.hid c; clear c hv HGC
      go_wp2_with fail
      refine (C.out _).mono ?_
      rintro e w' ⟨rfl, rfl⟩
      go_wp2_with fail
      go_ret
      exact ⟨rfl, hbel⟩
    case neg =>
      have h1 : (q == 0) = false := by simpa using h0
      obtain ⟨r, hr⟩ : ∃ r, Int.tmod p q = r := ⟨_, rfl⟩
      have hra : r.natAbs = p.natAbs % q.natAbs := by rw [← hr, Int.natAbs_tmod]
      have hrq : r.natAbs < q.natAbs := by rw [hra]; exact Nat.mod_lt _ (by omega)
      have hg2 := Lib.hid (show gcdN q r = G by
        rw [← HGC.out]
        unfold gcdN Int.gcd
        rw [hra, Nat.gcd_comm p.natAbs q.natAbs, Nat.gcd_rec q.natAbs p.natAbs, Nat.gcd_comm])
      clear hra
      go_wp2_with fail
      go_roundw
      case rel => exact ⟨q, r, rfl, by first | rfl | (rw [hr]), hq, by omega, hg2.out, hbel⟩
      case measure => simp [intOf]; omega

end Go.Proofs.YtjkfighooijblaaGreat
