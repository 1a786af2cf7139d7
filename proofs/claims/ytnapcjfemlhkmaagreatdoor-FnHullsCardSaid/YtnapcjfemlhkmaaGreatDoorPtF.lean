/-
  What is computed of points and numbers: turns, crosses, differences, divisors: program and reference. By an AI agent.
-/
import Derived.Test.YtnapcjfemlhkmaaGreatDoorPtB
import Derived.Test.YtnapcjfemlhkmaaGreatDoorLaws
import Derived.Deep.RegionHeld3
namespace Go.Proofs.YtnapcjfemlhkmaaGreatDoor
open Go.RowKit

/-- Small coordinates. -/
def Sm (p : Pt) : Prop := -1000000 ≤ p.x ∧ p.x ≤ 1000000 ∧ -1000000 ≤ p.y ∧ p.y ≤ 1000000
def crossZ (p q : Pt) : Int := p.x * q.y - p.y * q.x
def subP (p q : Pt) : Pt := ⟨p.x - q.x, p.y - q.y⟩
theorem mulb {k m K M : Int} (hK : 0 ≤ K) (hk : -K ≤ k ∧ k ≤ K) (hm : -M ≤ m ∧ m ≤ M) : -(K * M) ≤ k * m ∧ k * m ≤ K * M := by
  have h1 : k.natAbs ≤ K.toNat := by omega
  have h2 : m.natAbs ≤ M.toNat := by omega
  have h3 : (k * m).natAbs ≤ K.toNat * M.toNat := by rw [Int.natAbs_mul]; exact Nat.mul_le_mul h1 h2
  have h4 : ((K.toNat * M.toNat : Nat) : Int) = K * M := by rw [Int.natCast_mul, Int.toNat_of_nonneg hK, Int.toNat_of_nonneg (by omega)]
  omega

set_option maxHeartbeats 800000 in
theorem minus_c (p q : Pt) (w : World) (hp : Sm p) (hq : Sm q) :
    Calls Tryz.prog 31 #[ptV p, ptV q] w fun e w' => e = .returned (ptV (subP p q)) ∧ Below w.heap.size w w' := by
  obtain ⟨a, b⟩ := p
  obtain ⟨c, d⟩ := q
  obtain ⟨h1, h2, h3, h4⟩ := hp
  obtain ⟨h5, h6, h7, h8⟩ := hq
  simp only at h1 h2 h3 h4 h5 h6 h7 h8
  have e1 : IntKind.i64.wrap (a - c) = a - c := i64_small (by omega) (by omega)
  have e2 : IntKind.i64.wrap (b - d) = b - d := i64_small (by omega) (by omega)
  unfold ptV subP
  go_enter Tryz.func31, Tryz.ntmps31
  go_wp2_with fail
  exact bodyPost_ret (v := .agg #[.int .i64 (a - c), .int .i64 (b - d)]) (by simp [results, Tryz.results31, go_sem]) rfl ⟨rfl, (((Below.refl _ _).alloc (Nat.le_refl _) _).alloc (by simp) _).alloc (by simp; omega) _⟩

set_option maxHeartbeats 800000 in
theorem cross_c (p q : Pt) (w : World) (hp : Sm p) (hq : Sm q) :
    Calls Tryz.prog 32 #[ptV p, ptV q] w fun e w' => e = .returned (.int .i64 (crossZ p q)) ∧ Below w.heap.size w w' := by
  obtain ⟨a, b⟩ := p
  obtain ⟨c, d⟩ := q
  obtain ⟨h1, h2, h3, h4⟩ := hp
  obtain ⟨h5, h6, h7, h8⟩ := hq
  simp only at h1 h2 h3 h4 h5 h6 h7 h8
  have m1 := mulb (K := 1000000) (M := 1000000) (by omega) (show -1000000 ≤ a ∧ a ≤ 1000000 by omega) (show -1000000 ≤ d ∧ d ≤ 1000000 by omega)
  have m2 := mulb (K := 1000000) (M := 1000000) (by omega) (show -1000000 ≤ b ∧ b ≤ 1000000 by omega) (show -1000000 ≤ c ∧ c ≤ 1000000 by omega)
  unfold ptV crossZ
  simp only
  generalize hx : a * d = x at m1
  generalize hy : b * c = y at m2
  have e1 : IntKind.i64.wrap x = x := i64_small (by omega) (by omega)
  have e2 : IntKind.i64.wrap y = y := i64_small (by omega) (by omega)
  have e3 : IntKind.i64.wrap (x - y) = x - y := i64_small (by omega) (by omega)
  have hb := ((Below.refl w.heap.size w).alloc (Nat.le_refl _) (.cells #[.int .i64 a, .int .i64 b] 30)).alloc (by simp) (.cells #[.int .i64 c, .int .i64 d] 30)
  go_enter Tryz.func32, Tryz.ntmps32
  go_wp2_with fail
  go_ret
  exact ⟨rfl, hb⟩

set_option maxHeartbeats 800000 in
theorem pyTurn_c (p q r : Pt) (w : World) (hp : Sm p) (hq : Sm q) (hr : Sm r) :
    Calls Tryz.prog 77 #[ptV p, ptV q, ptV r] w fun e w' => e = .returned (.int .i64 (turnZ p q r)) ∧ Below w.heap.size w w' := by
  obtain ⟨a, b⟩ := p
  obtain ⟨c, d⟩ := q
  obtain ⟨f, g⟩ := r
  obtain ⟨h1, h2, h3, h4⟩ := hp
  obtain ⟨h5, h6, h7, h8⟩ := hq
  obtain ⟨k1, k2, k3, k4⟩ := hr
  simp only at h1 h2 h3 h4 h5 h6 h7 h8 k1 k2 k3 k4
  have m1 := mulb (K := 2000000) (M := 2000000) (by omega) (show -2000000 ≤ c - a ∧ c - a ≤ 2000000 by omega) (show -2000000 ≤ g - b ∧ g - b ≤ 2000000 by omega)
  have m2 := mulb (K := 2000000) (M := 2000000) (by omega) (show -2000000 ≤ d - b ∧ d - b ≤ 2000000 by omega) (show -2000000 ≤ f - a ∧ f - a ≤ 2000000 by omega)
  unfold ptV turnZ
  simp only
  have s1 : IntKind.i64.wrap (c - a) = c - a := i64_small (by omega) (by omega)
  have s2 : IntKind.i64.wrap (g - b) = g - b := i64_small (by omega) (by omega)
  have s3 : IntKind.i64.wrap (d - b) = d - b := i64_small (by omega) (by omega)
  have s4 : IntKind.i64.wrap (f - a) = f - a := i64_small (by omega) (by omega)
  have e1 : IntKind.i64.wrap ((c - a) * (g - b)) = (c - a) * (g - b) := i64_small (by omega) (by omega)
  have e2 : IntKind.i64.wrap ((d - b) * (f - a)) = (d - b) * (f - a) := i64_small (by omega) (by omega)
  have e3 : IntKind.i64.wrap ((c - a) * (g - b) - (d - b) * (f - a)) = (c - a) * (g - b) - (d - b) * (f - a) := i64_small (by omega) (by omega)
  have hb := (((Below.refl w.heap.size w).alloc (Nat.le_refl _) (.cells #[.int .i64 a, .int .i64 b] 30)).alloc (by simp) (.cells #[.int .i64 c, .int .i64 d] 30)).alloc (by simp; omega) (.cells #[.int .i64 f, .int .i64 g] 30)
  clear h1 h2 h3 h4 h5 h6 h7 h8 k1 k2 k3 k4
  go_enter Tryz.func77, Tryz.ntmps77
  go_wp2_with fail
  go_ret
  exact ⟨rfl, hb⟩

set_option maxHeartbeats 800000 in
theorem pyBefore_c (p q : Pt) (w : World) :
    Calls Tryz.prog 81 #[ptV p, ptV q] w fun e w' => e = .returned (.bool (ltPt p q)) ∧ Below w.heap.size w w' := by
  obtain ⟨a, b⟩ := p
  obtain ⟨c, d⟩ := q
  have hb := ((Below.refl w.heap.size w).alloc (Nat.le_refl _) (.cells #[.int .i64 a, .int .i64 b] 30)).alloc (by simp) (.cells #[.int .i64 c, .int .i64 d] 30)
  unfold ptV
  by_cases h : a < c
  · go_enter Tryz.func81, Tryz.ntmps81
    go_wp2_with fail
    go_ret
    exact ⟨ret_bool (by simp [ltPt, h]), hb⟩
  · by_cases h2 : a = c
    · subst h2
      go_enter Tryz.func81, Tryz.ntmps81
      go_wp2_with fail
      go_ret
      exact ⟨ret_bool (by simp [ltPt]), hb⟩
    · have h2' : (a == c) = false := by simpa using h2
      go_enter Tryz.func81, Tryz.ntmps81
      go_wp2_with fail
      go_ret
      exact ⟨ret_bool (by simp [ltPt, h, h2]), hb⟩

theorem turn_eq (p q r : Pt) : crossZ (subP q p) (subP r p) = turnZ p q r := rfl
def Sh (p : Pt) : Prop := -500000 ≤ p.x ∧ p.x ≤ 500000 ∧ -500000 ≤ p.y ∧ p.y ≤ 500000
theorem Sh.sm {p : Pt} (h : Sh p) : Sm p := ⟨by have := h.1; omega, by have := h.2.1; omega, by have := h.2.2.1; omega, by have := h.2.2.2; omega⟩
theorem Sh.bd {p : Pt} (h : Sh p) : Bd p := ⟨by have := h.1; omega, by have := h.2.1; omega, by have := h.2.2.1; omega, by have := h.2.2.2; omega⟩
theorem Sh.sub {p q : Pt} (h : Sh p) (k : Sh q) : Sm (subP p q) := by
  obtain ⟨h1, h2, h3, h4⟩ := h
  obtain ⟨k1, k2, k3, k4⟩ := k
  exact ⟨show -1000000 ≤ p.x - q.x by omega, show p.x - q.x ≤ 1000000 by omega, show -1000000 ≤ p.y - q.y by omega, show p.y - q.y ≤ 1000000 by omega⟩

set_option maxHeartbeats 1600000 in
theorem turn_c (p q r : Pt) (w : World) (hp : Sh p) (hq : Sh q) (hr : Sh r) :
    Calls Tryz.prog 33 #[ptV p, ptV q, ptV r] w fun e w' => e = .returned (.int .i64 (turnZ p q r)) ∧ Below w.heap.size w w' := by
  have c1 := fun w => minus_c q p w hq.sm hp.sm
  have c2 := fun w => minus_c r p w hr.sm hp.sm
  have c3 := fun w => cross_c (subP q p) (subP r p) w (hq.sub hp) (hr.sub hp)
  rw [turn_eq] at c3
  generalize turnZ p q r = z at c3 ⊢
  generalize subP q p = s1 at c1 c3
  generalize subP r p = s2 at c2 c3
  clear hp hq hr
  obtain ⟨a, b⟩ := p
  obtain ⟨c, d⟩ := q
  obtain ⟨f, g⟩ := r
  obtain ⟨u, v⟩ := s1
  obtain ⟨x, y⟩ := s2
  unfold ptV at *
  simp only at c1 c2 c3 ⊢
  have C1 := Lib.hid c1; have C2 := Lib.hid c2; have C3 := Lib.hid c3; clear c1 c2 c3
  go_enter Tryz.func33, Tryz.ntmps33
  have hbw : Below w.heap.size w (((w.alloc (.cells #[.int .i64 a, .int .i64 b] 30)).alloc (.cells #[.int .i64 c, .int .i64 d] 30)).alloc (.cells #[.int .i64 f, .int .i64 g] 30)) := (((Below.refl _ _).alloc (Nat.le_refl _) _).alloc (by simp) _).alloc (by simp; omega) _
  have hz : (((w.alloc (.cells #[.int .i64 a, .int .i64 b] 30)).alloc (.cells #[.int .i64 c, .int .i64 d] 30)).alloc (.cells #[.int .i64 f, .int .i64 g] 30)).heap.size = w.heap.size + 1 + 1 + 1 := by simp
  have k0 : (((w.alloc (.cells #[.int .i64 a, .int .i64 b] 30)).alloc (.cells #[.int .i64 c, .int .i64 d] 30)).alloc (.cells #[.int .i64 f, .int .i64 g] 30)).cell? ⟨w.heap.size, 0, none⟩ = some (.int .i64 a) := by simp [go_sem]
  have k1 : (((w.alloc (.cells #[.int .i64 a, .int .i64 b] 30)).alloc (.cells #[.int .i64 c, .int .i64 d] 30)).alloc (.cells #[.int .i64 f, .int .i64 g] 30)).cell? ⟨w.heap.size, 1, none⟩ = some (.int .i64 b) := by simp [go_sem]
  have k2 : (((w.alloc (.cells #[.int .i64 a, .int .i64 b] 30)).alloc (.cells #[.int .i64 c, .int .i64 d] 30)).alloc (.cells #[.int .i64 f, .int .i64 g] 30)).cell? ⟨(w.heap.size + 1), 0, none⟩ = some (.int .i64 c) := by simp [go_sem]
  have k3 : (((w.alloc (.cells #[.int .i64 a, .int .i64 b] 30)).alloc (.cells #[.int .i64 c, .int .i64 d] 30)).alloc (.cells #[.int .i64 f, .int .i64 g] 30)).cell? ⟨(w.heap.size + 1), 1, none⟩ = some (.int .i64 d) := by simp [go_sem]
  have k4 : (((w.alloc (.cells #[.int .i64 a, .int .i64 b] 30)).alloc (.cells #[.int .i64 c, .int .i64 d] 30)).alloc (.cells #[.int .i64 f, .int .i64 g] 30)).cell? ⟨(w.heap.size + 1 + 1), 0, none⟩ = some (.int .i64 f) := by simp [go_sem]
  have k5 : (((w.alloc (.cells #[.int .i64 a, .int .i64 b] 30)).alloc (.cells #[.int .i64 c, .int .i64 d] 30)).alloc (.cells #[.int .i64 f, .int .i64 g] 30)).cell? ⟨(w.heap.size + 1 + 1), 1, none⟩ = some (.int .i64 g) := by simp [go_sem]
  go_wp2_with fail
  generalize (((w.alloc (.cells #[.int .i64 a, .int .i64 b] 30)).alloc (.cells #[.int .i64 c, .int .i64 d] 30)).alloc (.cells #[.int .i64 f, .int .i64 g] 30)) = W at hbw hz k0 k1 k2 k3 k4 k5 ⊢
  have l0 : w.heap.size < W.heap.size := by omega
  have l1 : w.heap.size + 1 < W.heap.size := by omega
  have l2 : w.heap.size + 1 + 1 < W.heap.size := by omega
  go_region_held3 (fun w' => w'.cell? ⟨w.heap.size, 0, none⟩ = some (.int .i64 a) ∧ w'.cell? ⟨w.heap.size, 1, none⟩ = some (.int .i64 b) ∧ w'.cell? ⟨(w.heap.size + 1), 0, none⟩ = some (.int .i64 c) ∧ w'.cell? ⟨(w.heap.size + 1), 1, none⟩ = some (.int .i64 d) ∧ w'.cell? ⟨(w.heap.size + 1 + 1), 0, none⟩ = some (.int .i64 f) ∧ w'.cell? ⟨(w.heap.size + 1 + 1), 1, none⟩ = some (.int .i64 g)) (exact ⟨by assumption, by assumption, by assumption, by assumption, by assumption, by assumption⟩)
    (first
      | (go_at_call 31; (with_reducible refine (C1.out _).mono ?_); rintro e W1 ⟨rfl, hw1⟩; have m0 := bcell hw1 l0 k0; have m1 := bcell hw1 l0 k1; have m2 := bcell hw1 l1 k2; have m3 := bcell hw1 l1 k3; have m4 := bcell hw1 l2 k4; have m5 := bcell hw1 l2 k5)
      | (go_at_call 31; (with_reducible refine (C2.out _).mono ?_); rintro e W2 ⟨rfl, hw2⟩; have n0 := bcell hw2 (Nat.lt_of_lt_of_le l0 hw1.size) m0; have n1 := bcell hw2 (Nat.lt_of_lt_of_le l0 hw1.size) m1; have n2 := bcell hw2 (Nat.lt_of_lt_of_le l1 hw1.size) m2; have n3 := bcell hw2 (Nat.lt_of_lt_of_le l1 hw1.size) m3; have n4 := bcell hw2 (Nat.lt_of_lt_of_le l2 hw1.size) m4; have n5 := bcell hw2 (Nat.lt_of_lt_of_le l2 hw1.size) m5)
      | (go_at_call 32; (with_reducible refine (C3.out _).mono ?_); rintro e W3 ⟨rfl, hw3⟩; have q0 := bcell hw3 (Nat.lt_of_lt_of_le (Nat.lt_of_lt_of_le l0 hw1.size) hw2.size) n0; have q1 := bcell hw3 (Nat.lt_of_lt_of_le (Nat.lt_of_lt_of_le l0 hw1.size) hw2.size) n1; have q2 := bcell hw3 (Nat.lt_of_lt_of_le (Nat.lt_of_lt_of_le l1 hw1.size) hw2.size) n2; have q3 := bcell hw3 (Nat.lt_of_lt_of_le (Nat.lt_of_lt_of_le l1 hw1.size) hw2.size) n3; have q4 := bcell hw3 (Nat.lt_of_lt_of_le (Nat.lt_of_lt_of_le l2 hw1.size) hw2.size) n4; have q5 := bcell hw3 (Nat.lt_of_lt_of_le (Nat.lt_of_lt_of_le l2 hw1.size) hw2.size) n5))
  go_wp2_with fail
  go_ret
  exact ⟨rfl, ((hbw.drew.trans (hw1.mono (by have := hbw.size; simpa using this))).trans (hw2.mono (by have := hbw.size; have := hw1.size; simp at this ⊢; omega))).trans (hw3.mono (by have := hbw.size; have := hw1.size; have := hw2.size; simp at *; omega))⟩

/-! ### Divisors -/
def gcdN (a b : Int) : Int := (Int.gcd a b : Nat)

end Go.Proofs.YtnapcjfemlhkmaaGreatDoor
