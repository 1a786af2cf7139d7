/-
  What is computed of points and numbers: turns, crosses, differences, divisors: program and reference. By an AI agent.
-/
import Derived.Test.YtapbdfkaaeoonaaPtB
import Derived.Test.YtapbdfkaaeoonaaGood
import Derived.Deep.RegionHeld3
namespace Go.Proofs.Ytapbdfkaaeoonaa
open Go.RowKit

/-- Small coordinates. -/
def Sm (p : Pt) : Prop := -1000000 ≤ p.x ∧ p.x ≤ 1000000 ∧ -1000000 ≤ p.y ∧ p.y ≤ 1000000
def crossZ (p q : Pt) : Int := p.x * q.y - p.y * q.x
def subP (p q : Pt) : Pt := ⟨p.x - q.x, p.y - q.y⟩
theorem mulb {k m K M : Int} (hK : 0 ≤ K) (hk : -K ≤ k ∧ k ≤ K) (hm : -M ≤ m ∧ m ≤ M) : -(K * M) ≤ k * m ∧ k * m ≤ K * M := by
  have h1 : k.natAbs ≤ K.toNat := by omega
  have h2 : m.natAbs ≤ M.toNat := by omega
  have h3 : (k * m).natAbs ≤ K.toNat * M.toNat := by rw [Int.natAbs_mul]; exact Nat.mul_le_mul h1 h2
  have h4 : ((K.toNat * M.toNat : Nat) : Int) = K * M := by rw [Int.natCast_mul, Int.toNat_of_nonneg hK, Int.toNat_of_nonneg (by omega)]
  omega

set_option maxHeartbeats 800000 in
theorem minus_c (p q : Pt) (w : World) (hp : Sm p) (hq : Sm q) :
    Calls Try.prog 50 #[ptV p, ptV q] w fun e w' => e = .returned (ptV (subP p q)) ∧ Below w.heap.size w w' := by
  obtain ⟨a, b⟩ := p
  obtain ⟨c, d⟩ := q
  obtain ⟨h1, h2, h3, h4⟩ := hp
  obtain ⟨h5, h6, h7, h8⟩ := hq
  simp only at h1 h2 h3 h4 h5 h6 h7 h8
  have e1 : IntKind.i64.wrap (a - c) = a - c := i64_small (by omega) (by omega)
  have e2 : IntKind.i64.wrap (b - d) = b - d := i64_small (by omega) (by omega)
  unfold ptV subP
  go_enter Try.func50, Try.ntmps50
  go_wp2_with fail
  exact bodyPost_ret (v := .agg #[.int .i64 (a - c), .int .i64 (b - d)]) (by simp [results, Try.results50, go_sem]) rfl ⟨rfl, (((Below.refl _ _).alloc (Nat.le_refl _) _).alloc (by simp) _).alloc (by simp; omega) _⟩

set_option maxHeartbeats 800000 in
theorem cross_c (p q : Pt) (w : World) (hp : Sm p) (hq : Sm q) :
    Calls Try.prog 41 #[ptV p, ptV q] w fun e w' => e = .returned (.int .i64 (crossZ p q)) ∧ Below w.heap.size w w' := by
  obtain ⟨a, b⟩ := p
  obtain ⟨c, d⟩ := q
  obtain ⟨h1, h2, h3, h4⟩ := hp
  obtain ⟨h5, h6, h7, h8⟩ := hq
  simp only at h1 h2 h3 h4 h5 h6 h7 h8
  have m1 := mulb (K := 1000000) (M := 1000000) (by omega) (show -1000000 ≤ a ∧ a ≤ 1000000 by omega) (show -1000000 ≤ d ∧ d ≤ 1000000 by omega)
  have m2 := mulb (K := 1000000) (M := 1000000) (by omega) (show -1000000 ≤ b ∧ b ≤ 1000000 by omega) (show -1000000 ≤ c ∧ c ≤ 1000000 by omega)
  unfold ptV crossZ
  simp only
  generalize hx : a * d = x at m1
  generalize hy : b * c = y at m2
  have e1 : IntKind.i64.wrap x = x := i64_small (by omega) (by omega)
  have e2 : IntKind.i64.wrap y = y := i64_small (by omega) (by omega)
  have e3 : IntKind.i64.wrap (x - y) = x - y := i64_small (by omega) (by omega)
  have hb := ((Below.refl w.heap.size w).alloc (Nat.le_refl _) (.cells #[.int .i64 a, .int .i64 b] 35)).alloc (by simp) (.cells #[.int .i64 c, .int .i64 d] 35)
  go_enter Try.func41, Try.ntmps41
  go_wp2_with fail
  go_ret
  exact ⟨rfl, hb⟩

set_option maxHeartbeats 800000 in
theorem pyTurn_c (p q r : Pt) (w : World) (hp : Sm p) (hq : Sm q) (hr : Sm r) :
    Calls Try.prog 80 #[ptV p, ptV q, ptV r] w fun e w' => e = .returned (.int .i64 (turnZ p q r)) ∧ Below w.heap.size w w' := by
  obtain ⟨a, b⟩ := p
  obtain ⟨c, d⟩ := q
  obtain ⟨f, g⟩ := r
  obtain ⟨h1, h2, h3, h4⟩ := hp
  obtain ⟨h5, h6, h7, h8⟩ := hq
  obtain ⟨k1, k2, k3, k4⟩ := hr
  simp only at h1 h2 h3 h4 h5 h6 h7 h8 k1 k2 k3 k4
  have m1 := mulb (K := 2000000) (M := 2000000) (by omega) (show -2000000 ≤ c - a ∧ c - a ≤ 2000000 by omega) (show -2000000 ≤ g - b ∧ g - b ≤ 2000000 by omega)
  have m2 := mulb (K := 2000000) (M := 2000000) (by omega) (show -2000000 ≤ d - b ∧ d - b ≤ 2000000 by omega) (show -2000000 ≤ f - a ∧ f - a ≤ 2000000 by omega)
  unfold ptV turnZ
  simp only
  have s1 : IntKind.i64.wrap (c - a) = c - a := i64_small (by omega) (by omega)
  have s2 : IntKind.i64.wrap (g - b) = g - b := i64_small (by omega) (by omega)
  have s3 : IntKind.i64.wrap (d - b) = d - b := i64_small (by omega) (by omega)
  have s4 : IntKind.i64.wrap (f - a) = f - a := i64_small (by omega) (by omega)
  have e1 : IntKind.i64.wrap ((c - a) * (g - b)) = (c - a) * (g - b) := i64_small (by omega) (by omega)
  have e2 : IntKind.i64.wrap ((d - b) * (f - a)) = (d - b) * (f - a) := i64_small (by omega) (by omega)
  have e3 : IntKind.i64.wrap ((c - a) * (g - b) - (d - b) * (f - a)) = (c - a) * (g - b) - (d - b) * (f - a) := i64_small (by omega) (by omega)
  have hb := (((Below.refl w.heap.size w).alloc (Nat.le_refl _) (.cells #[.int .i64 a, .int .i64 b] 35)).alloc (by simp) (.cells #[.int .i64 c, .int .i64 d] 35)).alloc (by simp; omega) (.cells #[.int .i64 f, .int .i64 g] 35)
  clear h1 h2 h3 h4 h5 h6 h7 h8 k1 k2 k3 k4
  go_enter Try.func80, Try.ntmps80
  go_wp2_with fail
  go_ret
  exact ⟨rfl, hb⟩

set_option maxHeartbeats 800000 in
theorem pyBefore_c (p q : Pt) (w : World) :
    Calls Try.prog 79 #[ptV p, ptV q] w fun e w' => e = .returned (.bool (ltPt p q)) ∧ Below w.heap.size w w' := by
  obtain ⟨a, b⟩ := p
  obtain ⟨c, d⟩ := q
  have hb := ((Below.refl w.heap.size w).alloc (Nat.le_refl _) (.cells #[.int .i64 a, .int .i64 b] 35)).alloc (by simp) (.cells #[.int .i64 c, .int .i64 d] 35)
  unfold ptV
  by_cases h : a < c
  · go_enter Try.func79, Try.ntmps79
    go_wp2_with fail
    go_ret
    exact ⟨ret_bool (by simp [ltPt, h]), hb⟩
  · by_cases h2 : a = c
    · subst h2
      go_enter Try.func79, Try.ntmps79
      go_wp2_with fail
      go_ret
      exact ⟨ret_bool (by simp [ltPt]), hb⟩
    · have h2' : (a == c) = false := by simpa using h2
      go_enter Try.func79, Try.ntmps79
      go_wp2_with fail
      go_ret
      exact ⟨ret_bool (by simp [ltPt, h, h2]), hb⟩

theorem turn_eq (p q r : Pt) : crossZ (subP q p) (subP r p) = turnZ p q r := rfl
def Sh (p : Pt) : Prop := -500000 ≤ p.x ∧ p.x ≤ 500000 ∧ -500000 ≤ p.y ∧ p.y ≤ 500000
theorem Sh.sm {p : Pt} (h : Sh p) : Sm p := ⟨by have := h.1; omega, by have := h.2.1; omega, by have := h.2.2.1; omega, by have := h.2.2.2; omega⟩
theorem Sh.bd {p : Pt} (h : Sh p) : Bd p := ⟨by have := h.1; omega, by have := h.2.1; omega, by have := h.2.2.1; omega, by have := h.2.2.2; omega⟩
theorem Sh.sub {p q : Pt} (h : Sh p) (k : Sh q) : Sm (subP p q) := by
  obtain ⟨h1, h2, h3, h4⟩ := h
  obtain ⟨k1, k2, k3, k4⟩ := k
  exact ⟨show -1000000 ≤ p.x - q.x by omega, show p.x - q.x ≤ 1000000 by omega, show -1000000 ≤ p.y - q.y by omega, show p.y - q.y ≤ 1000000 by omega⟩

set_option maxHeartbeats 1600000 in
theorem turn_c (p q r : Pt) (w : World) (hp : Sh p) (hq : Sh q) (hr : Sh r) :
    Calls Try.prog 78 #[ptV p, ptV q, ptV r] w fun e w' => e = .returned (.int .i64 (turnZ p q r)) ∧ Below w.heap.size w w' := by
  have c1 := fun w => minus_c q p w hq.sm hp.sm
  have c2 := fun w => minus_c r p w hr.sm hp.sm
  have c3 := fun w => cross_c (subP q p) (subP r p) w (hq.sub hp) (hr.sub hp)
  rw [turn_eq] at c3
  generalize turnZ p q r = z at c3 ⊢
  generalize subP q p = s1 at c1 c3
  generalize subP r p = s2 at c2 c3
  clear hp hq hr
  obtain ⟨a, b⟩ := p
  obtain ⟨c, d⟩ := q
  obtain ⟨f, g⟩ := r
  obtain ⟨u, v⟩ := s1
  obtain ⟨x, y⟩ := s2
  unfold ptV at *
  simp only at c1 c2 c3 ⊢
  have C1 := Lib.hid c1; have C2 := Lib.hid c2; have C3 := Lib.hid c3; clear c1 c2 c3
  go_enter Try.func78, Try.ntmps78
  have hbw : Below w.heap.size w (((w.alloc (.cells #[.int .i64 a, .int .i64 b] 35)).alloc (.cells #[.int .i64 c, .int .i64 d] 35)).alloc (.cells #[.int .i64 f, .int .i64 g] 35)) := (((Below.refl _ _).alloc (Nat.le_refl _) _).alloc (by simp) _).alloc (by simp; omega) _
  have hz : (((w.alloc (.cells #[.int .i64 a, .int .i64 b] 35)).alloc (.cells #[.int .i64 c, .int .i64 d] 35)).alloc (.cells #[.int .i64 f, .int .i64 g] 35)).heap.size = w.heap.size + 1 + 1 + 1 := by simp
  have k0 : (((w.alloc (.cells #[.int .i64 a, .int .i64 b] 35)).alloc (.cells #[.int .i64 c, .int .i64 d] 35)).alloc (.cells #[.int .i64 f, .int .i64 g] 35)).cell? ⟨w.heap.size, 0, none⟩ = some (.int .i64 a) := by simp [go_sem]
  have k1 : (((w.alloc (.cells #[.int .i64 a, .int .i64 b] 35)).alloc (.cells #[.int .i64 c, .int .i64 d] 35)).alloc (.cells #[.int .i64 f, .int .i64 g] 35)).cell? ⟨w.heap.size, 1, none⟩ = some (.int .i64 b) := by simp [go_sem]
  have k2 : (((w.alloc (.cells #[.int .i64 a, .int .i64 b] 35)).alloc (.cells #[.int .i64 c, .int .i64 d] 35)).alloc (.cells #[.int .i64 f, .int .i64 g] 35)).cell? ⟨(w.heap.size + 1), 0, none⟩ = some (.int .i64 c) := by simp [go_sem]
  have k3 : (((w.alloc (.cells #[.int .i64 a, .int .i64 b] 35)).alloc (.cells #[.int .i64 c, .int .i64 d] 35)).alloc (.cells #[.int .i64 f, .int .i64 g] 35)).cell? ⟨(w.heap.size + 1), 1, none⟩ = some (.int .i64 d) := by simp [go_sem]
  have k4 : (((w.alloc (.cells #[.int .i64 a, .int .i64 b] 35)).alloc (.cells #[.int .i64 c, .int .i64 d] 35)).alloc (.cells #[.int .i64 f, .int .i64 g] 35)).cell? ⟨(w.heap.size + 1 + 1), 0, none⟩ = some (.int .i64 f) := by simp [go_sem]
  have k5 : (((w.alloc (.cells #[.int .i64 a, .int .i64 b] 35)).alloc (.cells #[.int .i64 c, .int .i64 d] 35)).alloc (.cells #[.int .i64 f, .int .i64 g] 35)).cell? ⟨(w.heap.size + 1 + 1), 1, none⟩ = some (.int .i64 g) := by simp [go_sem]
  go_wp2_with fail
  generalize (((w.alloc (.cells #[.int .i64 a, .int .i64 b] 35)).alloc (.cells #[.int .i64 c, .int .i64 d] 35)).alloc (.cells #[.int .i64 f, .int .i64 g] 35)) = W at hbw hz k0 k1 k2 k3 k4 k5 ⊢
  have l0 : w.heap.size < W.heap.size := by omega
  have l1 : w.heap.size + 1 < W.heap.size := by omega
  have l2 : w.heap.size + 1 + 1 < W.heap.size := by omega
  go_region_held3 (fun w' => w'.cell? ⟨w.heap.size, 0, none⟩ = some (.int .i64 a) ∧ w'.cell? ⟨w.heap.size, 1, none⟩ = some (.int .i64 b) ∧ w'.cell? ⟨(w.heap.size + 1), 0, none⟩ = some (.int .i64 c) ∧ w'.cell? ⟨(w.heap.size + 1), 1, none⟩ = some (.int .i64 d) ∧ w'.cell? ⟨(w.heap.size + 1 + 1), 0, none⟩ = some (.int .i64 f) ∧ w'.cell? ⟨(w.heap.size + 1 + 1), 1, none⟩ = some (.int .i64 g)) (exact ⟨by assumption, by assumption, by assumption, by assumption, by assumption, by assumption⟩)
    (first
      | (go_at_call 50; (with_reducible refine (C1.out _).mono ?_); rintro e W1 ⟨rfl, hw1⟩; have m0 := bcell hw1 l0 k0; have m1 := bcell hw1 l0 k1; have m2 := bcell hw1 l1 k2; have m3 := bcell hw1 l1 k3; have m4 := bcell hw1 l2 k4; have m5 := bcell hw1 l2 k5)
      | (go_at_call 50; (with_reducible refine (C2.out _).mono ?_); rintro e W2 ⟨rfl, hw2⟩; have n0 := bcell hw2 (Nat.lt_of_lt_of_le l0 hw1.size) m0; have n1 := bcell hw2 (Nat.lt_of_lt_of_le l0 hw1.size) m1; have n2 := bcell hw2 (Nat.lt_of_lt_of_le l1 hw1.size) m2; have n3 := bcell hw2 (Nat.lt_of_lt_of_le l1 hw1.size) m3; have n4 := bcell hw2 (Nat.lt_of_lt_of_le l2 hw1.size) m4; have n5 := bcell hw2 (Nat.lt_of_lt_of_le l2 hw1.size) m5)
      | (go_at_call 41; (with_reducible refine (C3.out _).mono ?_); rintro e W3 ⟨rfl, hw3⟩; have q0 := bcell hw3 (Nat.lt_of_lt_of_le (Nat.lt_of_lt_of_le l0 hw1.size) hw2.size) n0; have q1 := bcell hw3 (Nat.lt_of_lt_of_le (Nat.lt_of_lt_of_le l0 hw1.size) hw2.size) n1; have q2 := bcell hw3 (Nat.lt_of_lt_of_le (Nat.lt_of_lt_of_le l1 hw1.size) hw2.size) n2; have q3 := bcell hw3 (Nat.lt_of_lt_of_le (Nat.lt_of_lt_of_le l1 hw1.size) hw2.size) n3; have q4 := bcell hw3 (Nat.lt_of_lt_of_le (Nat.lt_of_lt_of_le l2 hw1.size) hw2.size) n4; have q5 := bcell hw3 (Nat.lt_of_lt_of_le (Nat.lt_of_lt_of_le l2 hw1.size) hw2.size) n5))
  go_wp2_with fail
  go_ret
  exact ⟨rfl, ((hbw.drew.trans (hw1.mono (by have := hbw.size; simpa using this))).trans (hw2.mono (by have := hbw.size; have := hw1.size; simp at this ⊢; omega))).trans (hw3.mono (by have := hbw.size; have := hw1.size; have := hw2.size; simp at *; omega))⟩

/-! ### Divisors -/
set_option maxHeartbeats 400000 in
theorem abs_c (n : Int) (w : World) (h : -1000000000000 ≤ n ∧ n ≤ 1000000000000) :
    Calls Try.prog 72 #[.int .i64 n] w fun e w' => e = .returned (.int .i64 n.natAbs) ∧ w = w' := by
  have e1 : IntKind.i64.wrap (-n) = -n := i64_small (by omega) (by omega)
  go_enter Try.func72, Try.ntmps72
  go_wp2_with fail
  all_goals
    go_ret
    first
      | exact ⟨congrArg Ending.returned (congrArg (Value.int IntKind.i64) (show n = _ by omega)), rfl⟩
      | exact ⟨congrArg Ending.returned (congrArg (Value.int IntKind.i64) (show -n = _ by omega)), rfl⟩

def gcdN (a b : Int) : Int := (Int.gcd a b : Nat)

set_option maxHeartbeats 800000 in
theorem gcd_c (x y : Int) (w : World) (hx : -1000000000000 ≤ x ∧ x ≤ 1000000000000) (hy : -1000000000000 ≤ y ∧ y ≤ 1000000000000) :
    Calls Try.prog 51 #[.int .i64 x, .int .i64 y] w fun e w' => e = .returned (.int .i64 (gcdN x y)) ∧ Below w.heap.size w w' := by
  have c1 := fun w => abs_c x w hx
  have c2 := fun w => abs_c y w hy
  have C1 := Lib.hid c1; have C2 := Lib.hid c2; clear c1 c2
  obtain ⟨m, hm⟩ : ∃ m : Nat, x.natAbs = m := ⟨_, rfl⟩
  obtain ⟨n, hn⟩ : ∃ n : Nat, y.natAbs = n := ⟨_, rfl⟩
  have hg : gcdN x y = (Nat.gcd m n : Nat) := by unfold gcdN Int.gcd; rw [hm, hn]
  rw [hm] at C1
  rw [hn] at C2
  have hmb : m ≤ 1000000000000 := by omega
  have hnb : n ≤ 1000000000000 := by omega
  rw [hg]
  clear hg hm hn hx hy
  go_enter Try.func51, Try.ntmps51
  go_wp2_with fail
  refine (C1.out _).mono ?_
  rintro e w' ⟨rfl, rfl⟩
  go_wp2_with fail
  refine (C2.out _).mono ?_
  rintro e w' ⟨rfl, rfl⟩
  go_wp2_with fail
  go_loopw [0, 1] (fun u v wr => ∃ p q : Nat, u = .int .i64 p ∧ v = .int .i64 q ∧ p ≤ 1000000000000 ∧ q ≤ 1000000000000 ∧ Nat.gcd p q = Nat.gcd m n ∧ Below w.heap.size w wr) (fun _ v _ => (intOf v).toNat)
  case atStart => exact ⟨m, n, rfl, rfl, hmb, hnb, rfl, Below.refl _ _⟩
  case round =>
    obtain ⟨p, q, rfl, rfl, hp, hq, hgc, hbel⟩ := hrel
    have HGC := Lib.hid hgc; clear hgc
    by_cases h0 : q = 0
    case pos =>
      subst h0
      go_wp2_with fail
      go_ret
      exact ⟨by rw [← HGC.out, Nat.gcd_zero_right]; rfl, hbel⟩
    case neg =>
      have h1 : ((q : Int) == 0) = false := by simpa using h0
      have h2 : ¬ (q : Int) = 0 := by omega
      obtain ⟨r, hr⟩ : ∃ r, p % q = r := ⟨_, rfl⟩
      have e1 : Int.tmod (p : Int) (q : Int) = (r : Int) := by rw [← hr]; rfl
      have hrq : r < q := by rw [← hr]; exact Nat.mod_lt _ (by omega)
      have hg2 := Lib.hid (show Nat.gcd q r = Nat.gcd m n by rw [← HGC.out, ← hr, Nat.gcd_comm p q, Nat.gcd_rec q p, Nat.gcd_comm])
      clear hr
      go_wp2_with fail
      go_quiet (fail)
      go_wp2_with fail
      go_roundw
      case rel => exact ⟨q, r, rfl, rfl, hq, by omega, hg2.out, bdrewN hbel nq⟩
      case measure => simp [intOf]; omega

set_option maxHeartbeats 400000 in
theorem l1Most_c (x y : Int) (w : World) :
    Calls Try.prog 39 #[.int .i64 x, .int .i64 y] w fun e w' => e = .returned (.int .i64 (if x > y then x else y)) ∧ w = w' := by
  by_cases h : y < x
  · rw [if_pos h]
    go_enter Try.func39, Try.ntmps39
    go_wp2_with fail
    go_ret
    exact ⟨rfl, rfl⟩
  · rw [if_neg h]
    go_enter Try.func39, Try.ntmps39
    go_wp2_with fail
    go_ret
    exact ⟨rfl, rfl⟩
set_option maxHeartbeats 400000 in
theorem l1Abs_c (n : Int) (w : World) (h : -1000000000000 ≤ n ∧ n ≤ 1000000000000) :
    Calls Try.prog 73 #[.int .i64 n] w fun e w' => e = .returned (.int .i64 n.natAbs) ∧ w = w' := by
  have e1 : IntKind.i64.wrap (-n) = -n := i64_small (by omega) (by omega)
  have c := fun w => l1Most_c n (-n) w
  have hv : (if n > -n then n else -n) = (n.natAbs : Int) := by split <;> omega
  rw [hv] at c
  have C := Lib.hid c; clear c hv
  generalize (n.natAbs : Int) = z at C ⊢
  go_enter Try.func73, Try.ntmps73
  go_wp2_with fail
  refine (C.out _).mono ?_
  rintro e w' ⟨rfl, rfl⟩
  go_wp2_with fail
  go_ret
  exact ⟨rfl, rfl⟩
set_option maxHeartbeats 800000 in
theorem frGcd_c (x y : Int) (w : World) (hx : -1000000000000 ≤ x ∧ x ≤ 1000000000000) (hy : -1000000000000 ≤ y ∧ y ≤ 1000000000000) :
    Calls Try.prog 54 #[.int .i64 x, .int .i64 y] w fun e w' => e = .returned (.int .i64 (gcdN x y)) ∧ Below w.heap.size w w' := by
  obtain ⟨G, hG⟩ : ∃ G, gcdN x y = G := ⟨_, rfl⟩
  rw [hG]
  have HG := Lib.hid hG; clear hG
  go_enter Try.func54, Try.ntmps54
  go_wp2_with fail
  go_loopw [0, 1] (fun u v wr => ∃ p q : Int, u = .int .i64 p ∧ v = .int .i64 q ∧ (-1000000000000 ≤ p ∧ p ≤ 1000000000000) ∧ (-1000000000000 ≤ q ∧ q ≤ 1000000000000) ∧ gcdN p q = G ∧ Below w.heap.size w wr) (fun _ v _ => (intOf v).natAbs)
  case atStart => exact ⟨x, y, rfl, rfl, hx, hy, HG.out, Below.refl _ _⟩
  case round =>
    obtain ⟨p, q, rfl, rfl, hp, hq, hgc, hbel⟩ := hrel
    have HGC := Lib.hid hgc; clear hgc
    by_cases h0 : q = 0
    case pos =>
      subst h0
      have hv : (p.natAbs : Int) = G := by rw [← HGC.out]; unfold gcdN; rw [Int.gcd_zero_right]
      have c := fun w => l1Abs_c p w hp
      rw [hv] at c
      have C := Lib.hid c; clear c hv HGC
      go_wp2_with fail
      refine (C.out _).mono ?_
      rintro e w' ⟨rfl, rfl⟩
      go_wp2_with fail
      go_ret
      exact ⟨rfl, hbel⟩
    case neg =>
      have h1 : (q == 0) = false := by simpa using h0
      obtain ⟨r, hr⟩ : ∃ r, Int.tmod p q = r := ⟨_, rfl⟩
      have hra : r.natAbs = p.natAbs % q.natAbs := by rw [← hr, Int.natAbs_tmod]
      have hrq : r.natAbs < q.natAbs := by rw [hra]; exact Nat.mod_lt _ (by omega)
      have hg2 := Lib.hid (show gcdN q r = G by
        rw [← HGC.out]
        unfold gcdN Int.gcd
        rw [hra, Nat.gcd_comm p.natAbs q.natAbs, Nat.gcd_rec q.natAbs p.natAbs, Nat.gcd_comm])
      clear hra
      go_wp2_with fail
      go_roundw
      case rel => exact ⟨q, r, rfl, by first | rfl | (rw [hr]), hq, by omega, hg2.out, hbel⟩
      case measure => simp [intOf]; omega

end Go.Proofs.Ytapbdfkaaeoonaa
