/-
  The value by the roots, plain: what is added is a whole number at each step, and the sum is the least value. Sums and comparisons of whole fractions.
-/
import Derived.Test.YtekhmjhbdoigoaaRtE
namespace Go.Proofs.Ytekhmjhbdoigoaa
open Go.RowKit

theorem frB_one {n : Int} (h : -1000000000 ≤ n ∧ n ≤ 1000000000) : frB ⟨n, 1⟩ = true := frB_t.2 ⟨h, by simp only; omega, by unfold gcdN; simp⟩
theorem low_one {n : Int} (h : -1000000000 ≤ n ∧ n ≤ 1000000000) : lowF n 1 = ⟨n, 1⟩ := low_unique (by decide) (frB_one h) (by simp only; omega)
/-- One step: the less one of the root and the number, as often as the root. -/
theorem step_frac {n k x : Int} (hk : 1 ≤ k ∧ k ≤ 13) (hn : -2000000 ≤ n ∧ n ≤ 2000000) (hx : -1000000 ≤ x ∧ x ≤ 1000000) (hF : frB (lowF n k) = true) :
    ∃ L, (if cmpF ⟨x, 1⟩ (lowF n k) < 0 then (⟨x, 1⟩ : Fr) else lowF n k) = L ∧ frB L = true ∧ mulB ⟨k, 1⟩ L = true ∧ lowF (k * L.n) (1 * L.d) = ⟨min n (x * k), 1⟩ := by
  have hc := low_cross (n := n) (d := k) (by omega)
  have hFd := (frB_t.1 hF).2.1
  generalize lowF n k = F at *
  obtain ⟨p, q⟩ := F
  simp only at hc hFd
  have hxk := mulbF (K := 1000000) (M := 13) (k := x) (m := k) (by omega) hx (by omega)
  have hiff : cmpF ⟨x, 1⟩ ⟨p, q⟩ < 0 ↔ x * k < n := by
    have h1 : cmpF ⟨x, 1⟩ ⟨p, q⟩ < 0 ↔ x * q < p := by
      unfold cmpF
      simp only [Int.mul_one]
      split
      · constructor
        · intro _; omega
        · intro _; omega
      · split
        · constructor
          · intro h; omega
          · intro h; omega
        · constructor
          · intro h; omega
          · intro h; omega
    rw [h1]
    have e1 : x * q * k = x * k * q := by rw [Int.mul_assoc, Int.mul_comm q, ← Int.mul_assoc]
    have e2 : p * k = n * q := by rw [hc, Int.mul_comm]
    constructor
    · intro h
      have h2 := Int.mul_lt_mul_of_pos_right h (show 0 < k by omega)
      rw [e1, e2] at h2
      exact Int.lt_of_mul_lt_mul_right h2 (by omega)
    · intro h
      have h2 := Int.mul_lt_mul_of_pos_right h (show 0 < q by omega)
      rw [← e1, ← e2] at h2
      exact Int.lt_of_mul_lt_mul_right h2 (by omega)
  have hk1 := frB_one (n := k) (by omega)
  by_cases h : x * k < n
  · refine ⟨⟨x, 1⟩, if_pos (hiff.2 h), frB_one (by omega), ?_, ?_⟩
    · unfold mulB
      simp only
      rw [hk1, frB_one (n := x) (by omega)]
      simp only [Bool.and_self, Bool.true_and]
      have e : k * x = x * k := Int.mul_comm ..
      exact mkB_t.2 ⟨by omega, by rw [show (1 : Int) * 1 = 1 by omega, e, low_one (by omega)]; exact frB_one (by omega)⟩
    · simp only
      rw [show (1 : Int) * 1 = 1 by omega, Int.mul_comm k x, low_one (by omega)]
      congr 1
      omega
  · refine ⟨⟨p, q⟩, if_neg (fun hh => h (hiff.1 hh)), hF, ?_, ?_⟩
    all_goals
      have hlow : lowF (k * p) (1 * q) = ⟨n, 1⟩ := low_unique (by omega) (frB_one (by omega)) (by simp only; rw [Int.mul_one, Int.one_mul, Int.mul_comm k p]; exact hc)
    · unfold mulB
      simp only
      rw [hk1, hF]
      simp only [Bool.and_self, Bool.true_and]
      exact mkB_t.2 ⟨by omega, by rw [hlow]; exact frB_one (by omega)⟩
    · simp only
      rw [hlow]
      congr 1
      omega

/-! ### The sum of the steps -/
def stepJ (c : Nat → Int) (x : Int) (st : List Nat) (j : Nat) : Int := min (c (st.getD (j + 1) 0) - c (st.getD j 0)) (x * (((st.getD j 0 : Nat) : Int) - ((st.getD (j + 1) 0 : Nat) : Int)))
def sumJ (c : Nat → Int) (x : Int) (st : List Nat) : Nat → Int
  | 0 => 0
  | j + 1 => sumJ c x st j + stepJ c x st j
theorem sumJ_shift (c : Nat → Int) (x : Int) (d : Nat) (st : List Nat) : ∀ j, sumJ c x (d :: st) (j + 1) = stepJ c x (d :: st) 0 + sumJ c x st j
  | 0 => by simp [sumJ]
  | j + 1 => by
    rw [sumJ, sumJ_shift c x d st j]
    have e : stepJ c x (d :: st) (j + 1) = stepJ c x st j := rfl
    rw [e, sumJ]
    omega
theorem sumJ_all (c : Nat → Int) (x : Int) : ∀ st : List Nat, sumStep c x st = sumJ c x st (st.length - 1)
  | [] => rfl
  | [_] => rfl
  | d :: b :: t => by
    have ih := sumJ_all c x (b :: t)
    rw [sumStep, ih]
    have e : (d :: b :: t).length - 1 = (b :: t).length - 1 + 1 := by simp
    rw [e, sumJ_shift]
    rfl
def stP (p : List Int) : List Nat := corR (cof p) (finK p p.length)
def accV (p : List Int) (x : Int) (j : Nat) : Int := cof p ((stP p).getD 0 0) + (((stP p).getLastD 0 : Nat) : Int) * x + sumJ (cof p) x (stP p) j
/-- What is known of the steps of a valid polynomial. -/
theorem st_facts {p : List Int} (hp : polyB p = true) : (stP p).length = (corP p).length ∧ (corP p).getD ((corP p).length - 1) 0 = (stP p).getD 0 0 ∧ (corP p).getD 0 0 = (stP p).getLastD 0 ∧ (∀ j, j < (stP p).length → (stP p).getD j 0 < p.length ∧ -1000000 ≤ cof p ((stP p).getD j 0) ∧ cof p ((stP p).getD j 0) ≤ 1000000) ∧ ∀ j, j + 1 < (stP p).length → (stP p).getD (j + 1) 0 < (stP p).getD j 0 ∧ (rootsP p).getD j Rt.z = rootOf (cof p) ((stP p).getD (j + 1) 0) ((stP p).getD j 0) := by
  obtain ⟨h1, h13, hc, hs⟩ := cor_facts hp
  have hl : (stP p).length = (corP p).length := by unfold stP corP corL; rw [List.length_reverse]
  have hr : corP p = (stP p).reverse := rfl
  have hget : ∀ j, j < (stP p).length → (corP p).getD ((corP p).length - 1 - j) 0 = (stP p).getD j 0 := fun j hj => by
    rw [hr, List.length_reverse, getD_reverse (by omega)]
    congr 1
    omega
  refine ⟨hl, ?_, ?_, fun j hj => ?_, fun j hj => ?_⟩
  · have := hget 0 (by omega)
    rwa [Nat.sub_zero] at this
  · rw [hr, getD_reverse (by omega), List.getLastD_eq_getLast?, List.getLast?_eq_getElem?, List.getD_eq_getElem?_getD, Nat.sub_zero]
  · have h := hc ((corP p).length - 1 - j) (by omega)
    rw [hget j hj] at h
    exact ⟨h.1, h.2.2⟩
  · have ho := (cor_all (c := cof p) _ (finK_inc p p.length)).1
    exact ⟨OkR.step ho j hj, rootsR_get _ j hj⟩
theorem step_bd {p : List Int} (hp : polyB p = true) {x : Int} (hx : -1000000 ≤ x ∧ x ≤ 1000000) {j : Nat} (hj : j + 1 < (stP p).length) : -13000000 ≤ stepJ (cof p) x (stP p) j ∧ stepJ (cof p) x (stP p) j ≤ 13000000 := by
  obtain ⟨_, _, _, hb, hs⟩ := st_facts hp
  have a := hb j (by omega)
  have b := hb (j + 1) hj
  have s := (hs j hj).1
  have hpl := (polyB_t hp).1
  unfold stepJ
  generalize (stP p).getD j 0 = d at *
  generalize (stP p).getD (j + 1) 0 = q at *
  have := mulbF (K := 1000000) (M := 13) (k := x) (m := (d : Int) - (q : Int)) (by omega) hx (by omega)
  omega
theorem acc_bd {p : List Int} (hp : polyB p = true) {x : Int} (hx : -1000000 ≤ x ∧ x ≤ 1000000) : ∀ j, j + 1 ≤ (stP p).length → -(14000000 + 13000000 * (j : Int)) ≤ accV p x j ∧ accV p x j ≤ 14000000 + 13000000 * (j : Int)
  | 0, h => by
    obtain ⟨hl, _, hlast, hb, _⟩ := st_facts hp
    obtain ⟨h1, h13, hc, _⟩ := cor_facts hp
    have a := hb 0 (by omega)
    have b := (hc 0 (by omega)).1
    rw [hlast] at b
    have hpl := (polyB_t hp).1
    unfold accV sumJ
    have := mulbF (K := 13) (M := 1000000) (k := (((stP p).getLastD 0 : Nat) : Int)) (m := x) (by omega) (by omega) hx
    omega
  | j + 1, h => by
    have ih := acc_bd hp hx j (by omega)
    have hs := step_bd hp hx (j := j) (by omega)
    unfold accV at ih ⊢
    rw [sumJ]
    omega
/-- THE VALUE BY THE ROOTS IS THE LEAST VALUE. -/
theorem acc_min {p : List Int} (hp : polyB p = true) {x : Int} (hx : -1000000 ≤ x ∧ x ≤ 1000000) : accV p x ((stP p).length - 1) = minL (valsF p x) := by
  have hm := min_is hp hx
  obtain ⟨ho, _, _, _, hmin⟩ := cor_all (c := cof p) _ (finK_inc p p.length)
  have h := hmin x _ hm
  obtain ⟨hl, _⟩ := st_facts hp
  obtain ⟨h1, _⟩ := cor_facts hp
  unfold accV
  rw [← sumJ_all]
  have hpos : 0 < (stP p).length := by omega
  have hst : stP p = corR (cof p) (finK p p.length) := rfl
  rw [← hst] at ho h
  generalize stP p = st at *
  cases st with
  | nil => simp at hpos
  | cons d t => exact sum_min t d ho h

/-! ### Whole fractions -/
set_option maxHeartbeats 400000 in
theorem whole_c (n : Int) (w : World) :
    Calls Try.prog 29 #[.int .i64 n] w fun e w' => e = .returned (.agg #[.int .i64 n, .int .i64 1]) ∧ Below w.heap.size w w' := by
  go_enter Try.func29, Try.ntmps29
  go_wp2_with fail
  exact bodyPost_ret (v := .agg #[.int .i64 n, .int .i64 1]) (by simp [results, Try.results29, go_sem]) rfl ⟨rfl, (Below.refl _ _).alloc (Nat.le_refl _) _⟩
set_option maxHeartbeats 400000 in
theorem frInt_c (n : Int) (w : World) :
    Calls Try.prog 56 #[.int .i64 n] w fun e w' => e = .returned (.agg #[.int .i64 n, .int .i64 1]) ∧ Below w.heap.size w w' := by
  go_enter Try.func56, Try.ntmps56
  go_wp2_with fail
  exact bodyPost_ret (v := .agg #[.int .i64 n, .int .i64 1]) (by simp [results, Try.results56, go_sem]) rfl ⟨rfl, (Below.refl _ _).alloc (Nat.le_refl _) _⟩

set_option maxHeartbeats 1600000 in
set_option maxRecDepth 100000 in
theorem add1_c (a b : Int) (w : World) (ha : -500000000 ≤ a ∧ a ≤ 500000000) (hb : -500000000 ≤ b ∧ b ≤ 500000000) :
    Calls Try.prog 80 #[.agg #[.int .i64 a, .int .i64 1], .agg #[.int .i64 b, .int .i64 1]] w fun e w' => e = .returned (.agg #[.int .i64 (a + b), .int .i64 1]) ∧ Below w.heap.size w w' := by
  have c := fun w => lowest_c (a + b) 1 w (by decide) (by omega) (by omega)
  rw [low_one (by omega)] at c
  unfold frV at c
  simp only at c
  have e1 : IntKind.i64.wrap a = a := i64_small (by omega) (by omega)
  have e2 : IntKind.i64.wrap b = b := i64_small (by omega) (by omega)
  have e3 : IntKind.i64.wrap (a + b) = a + b := i64_small (by omega) (by omega)
  have e4 : IntKind.i64.wrap (a * 1) = a := by rw [Int.mul_one]; exact e1
  have e5 : IntKind.i64.wrap (b * 1) = b := by rw [Int.mul_one]; exact e2
  have C := Lib.hid c; clear c ha hb
  have hb0 : Below w.heap.size w (((w.alloc (.cells #[.int .i64 a, .int .i64 1] 38)).alloc (.cells #[.int .i64 b, .int .i64 1] 38)).alloc (.cells #[.int .i64 0, .int .i64 0] 38)) := (((Below.refl _ _).alloc (Nat.le_refl _) _).alloc (by simp) _).alloc (by simp; omega) _
  have o0 := FrO.new (g := w.heap.size + 1 + 1) ((w.alloc (.cells #[.int .i64 a, .int .i64 1] 38)).alloc (.cells #[.int .i64 b, .int .i64 1] 38)) 0 0 (by simp)
  go_enter Try.func80, Try.ntmps80
  go_wp2_with fail
  refine (C.out _).mono ?_
  rintro e w1 ⟨rfl, hw1⟩
  have o1 := o0.below hw1
  have hb1 := hb0.trans (hw1.mono hb0.size)
  obtain ⟨x0, x1⟩ := o1.at
  obtain ⟨y0, y1⟩ := o1.fr
  clear hw1 hb0 o0
  go_wp2_with fail
  obtain ⟨W, hW, ⟨q0, q1⟩, hB⟩ := fr2_end (a := a + b) (b := 1) o1 hb1 (by omega)
  unfold fr2 at hW
  rw [hW]
  exact bodyPost_ret (v := .agg #[.int .i64 (a + b), .int .i64 1]) (by simp [results, Try.results80, go_sem, q0, q1]) rfl ⟨rfl, hB⟩

set_option maxHeartbeats 1600000 in
set_option maxRecDepth 100000 in
theorem iAddFracs1_c (a b : Int) (w : World) (ha : -500000000 ≤ a ∧ a ≤ 500000000) (hb : -500000000 ≤ b ∧ b ≤ 500000000) :
    Calls Try.prog 51 #[.agg #[.int .i64 a, .int .i64 1], .agg #[.int .i64 b, .int .i64 1]] w fun e w' => e = .returned (.tuple #[.agg #[.int .i64 (a + b), .int .i64 1], .bool true]) ∧ Below w.heap.size w w' := by
  have ca := fun w k hk => areFracs_n ⟨a, 1⟩ ⟨b, 1⟩ k w hk
  rw [frB_one (n := a) (by omega), frB_one (n := b) (by omega)] at ca
  have cm := fun w => add1_c a b w ha hb
  have ct := fun w => toldFrac_c ⟨a + b, 1⟩ w
  rw [frB_one (n := a + b) (by omega), frR_t] at ct
  unfold frV at ct
  simp only [Bool.and_self] at ca ct
  have CA := Lib.hid ca; have CM := Lib.hid cm; have CT := Lib.hid ct; clear ca cm ct
  have hb0 : Below w.heap.size w ((((w.alloc (.cells #[.int .i64 a, .int .i64 1] 38)).alloc (.cells #[.int .i64 b, .int .i64 1] 38)).alloc (.cells #[.int .i64 0, .int .i64 0] 38)).alloc (.cells #[.int .i64 a, .int .i64 1, .int .i64 b, .int .i64 1] 38)) := ((((Below.refl _ _).alloc (Nat.le_refl _) _).alloc (by simp) _).alloc (by simp; omega) _).alloc (by simp; omega) _
  have o0 := (FrO.new (g := w.heap.size + 1 + 1) ((w.alloc (.cells #[.int .i64 a, .int .i64 1] 38)).alloc (.cells #[.int .i64 b, .int .i64 1] 38)) 0 0 (by simp)).alloc (.cells #[.int .i64 a, .int .i64 1, .int .i64 b, .int .i64 1] 38)
  have p0 := (((FrO.new w a 1 rfl).alloc (.cells #[.int .i64 b, .int .i64 1] 38)).alloc (.cells #[.int .i64 0, .int .i64 0] 38)).alloc (.cells #[.int .i64 a, .int .i64 1, .int .i64 b, .int .i64 1] 38)
  have r0 := ((FrO.new (g := w.heap.size + 1) (w.alloc (.cells #[.int .i64 a, .int .i64 1] 38)) b 1 (by simp)).alloc (.cells #[.int .i64 0, .int .i64 0] 38)).alloc (.cells #[.int .i64 a, .int .i64 1, .int .i64 b, .int .i64 1] 38)
  go_enter Try.func51, Try.ntmps51
  go_wp2_with fail
  refine (CA.out _ _ (by simp)).mono ?_
  rintro e w1 ⟨rfl, hw1⟩
  have o1 := o0.below hw1
  have hb1 := hb0.trans (hw1.mono hb0.size)
  obtain ⟨x0, x1⟩ := (p0.below hw1).at
  obtain ⟨y0, y1⟩ := (r0.below hw1).at
  clear hw1 hb0 o0 p0 r0
  go_wp2_with fail
  refine (CM.out _).mono ?_
  rintro e w2 ⟨rfl, hw2⟩
  go_wp2_with fail
  refine (CT.out _).mono ?_
  rintro e w3 ⟨rfl, hw3⟩
  have o3 := (o1.below hw2).below hw3
  have hb3 := ball (ball hb1 hw2) hw3
  clear o1 hb1 hw2 hw3 x0 x1 y0 y1
  obtain ⟨x0, x1⟩ := o3.at
  obtain ⟨y0, y1⟩ := o3.fr
  go_wp2_with fail
  obtain ⟨W, hW, ⟨q0, q1⟩, hB⟩ := fr2_end (a := a + b) (b := 1) o3 hb3 (by omega)
  unfold fr2 at hW
  rw [hW]
  exact bodyPost_ret (v := .tuple #[.agg #[.int .i64 (a + b), .int .i64 1], .bool true]) (by simp [results, Try.results51, go_sem, q0, q1]) rfl ⟨rfl, hB⟩

set_option maxHeartbeats 1600000 in
set_option maxRecDepth 100000 in
theorem frAdd1_c (a b : Int) (w : World) (ha : -500000000 ≤ a ∧ a ≤ 500000000) (hb : -500000000 ≤ b ∧ b ≤ 500000000) :
    Calls Try.prog 57 #[.agg #[.int .i64 a, .int .i64 1], .agg #[.int .i64 b, .int .i64 1]] w fun e w' => e = .returned (.tuple #[.agg #[.int .i64 (a + b), .int .i64 1], .bool true]) ∧ Below w.heap.size w w' := by
  have c := fun w => frMake_c (a + b) 1 w (by omega) (by omega)
  rw [mkB_t.2 ⟨by decide, by rw [low_one (by omega)]; exact frB_one (by omega)⟩, low_one (by omega), frR_t] at c
  unfold frV at c
  simp only at c
  have e1 : IntKind.i64.wrap a = a := i64_small (by omega) (by omega)
  have e2 : IntKind.i64.wrap b = b := i64_small (by omega) (by omega)
  have e3 : IntKind.i64.wrap (a + b) = a + b := i64_small (by omega) (by omega)
  have e4 : IntKind.i64.wrap (a * 1) = a := by rw [Int.mul_one]; exact e1
  have e5 : IntKind.i64.wrap (b * 1) = b := by rw [Int.mul_one]; exact e2
  have C := Lib.hid c; clear c ha hb
  have hb0 : Below w.heap.size w (((w.alloc (.cells #[.int .i64 a, .int .i64 1] 38)).alloc (.cells #[.int .i64 b, .int .i64 1] 38)).alloc (.cells #[.int .i64 0, .int .i64 0] 38)) := (((Below.refl _ _).alloc (Nat.le_refl _) _).alloc (by simp) _).alloc (by simp; omega) _
  have o0 := FrO.new (g := w.heap.size + 1 + 1) ((w.alloc (.cells #[.int .i64 a, .int .i64 1] 38)).alloc (.cells #[.int .i64 b, .int .i64 1] 38)) 0 0 (by simp)
  go_enter Try.func57, Try.ntmps57
  go_wp2_with fail
  refine (C.out _).mono ?_
  rintro e w1 ⟨rfl, hw1⟩
  have o1 := o0.below hw1
  have hb1 := hb0.trans (hw1.mono hb0.size)
  obtain ⟨x0, x1⟩ := o1.at
  obtain ⟨y0, y1⟩ := o1.fr
  clear hw1 hb0 o0
  go_wp2_with fail
  obtain ⟨W, hW, ⟨q0, q1⟩, hB⟩ := fr2_end (a := a + b) (b := 1) o1 hb1 (by omega)
  unfold fr2 at hW
  rw [hW]
  exact bodyPost_ret (v := .tuple #[.agg #[.int .i64 (a + b), .int .i64 1], .bool true]) (by simp [results, Try.results57, go_sem, q0, q1]) rfl ⟨rfl, hB⟩

set_option maxHeartbeats 800000 in
theorem l1Sign_c (n : Int) (w : World) :
    Calls Try.prog 83 #[.int .i64 n] w fun e w' => e = .returned (.int .i64 (if n < 0 then -1 else if n > 0 then 1 else 0)) ∧ w = w' := by
  by_cases h1 : n < 0
  · rw [if_pos h1]
    have g1 : decide (n < 0) = true := decide_eq_true h1
    have g2 : decide (0 < n) = false := decide_eq_false (by omega)
    have H1 := Lib.hid h1; clear h1
    go_enter Try.func83, Try.ntmps83
    go_wp2_with fail
    go_ret
    exact ⟨rfl, rfl⟩
  · rw [if_neg h1]
    have g1 : decide (n < 0) = false := decide_eq_false h1
    by_cases h2 : n > 0
    · rw [if_pos h2]
      have g2 : decide (0 < n) = true := decide_eq_true h2
      have H1 := Lib.hid h1; have H2 := Lib.hid h2; clear h1 h2
      go_enter Try.func83, Try.ntmps83
      go_wp2_with fail
      go_ret
      exact ⟨rfl, rfl⟩
    · rw [if_neg h2]
      have g2 : decide (0 < n) = false := decide_eq_false h2
      have H1 := Lib.hid h1; have H2 := Lib.hid h2; clear h1 h2
      go_enter Try.func83, Try.ntmps83
      go_wp2_with fail
      go_ret
      exact ⟨rfl, rfl⟩

set_option maxHeartbeats 1600000 in
set_option maxRecDepth 100000 in
theorem frCmp_c (f g : Fr) (w : World) (hf : frB f = true) (hg : frB g = true) :
    Calls Try.prog 58 #[frV f, frV g] w fun e w' => e = .returned (.int .i64 (cmpF f g)) ∧ Below w.heap.size w w' := by
  have hf1 := frB_t.1 hf
  have hg1 := frB_t.1 hg
  have m1 := mulb9 (k := f.n) (m := g.d) (by omega) (by omega)
  have m2 := mulb9 (k := g.n) (m := f.d) (by omega) (by omega)
  have cs := fun w => l1Sign_c (f.n * g.d - g.n * f.d) w
  have hz : (if f.n * g.d - g.n * f.d < 0 then (-1 : Int) else if f.n * g.d - g.n * f.d > 0 then 1 else 0) = cmpF f g := rfl
  rw [hz] at cs
  clear hz
  generalize cmpF f g = Z at cs ⊢
  obtain ⟨a, b⟩ := f
  obtain ⟨c', d⟩ := g
  unfold frV
  simp only at m1 m2 cs ⊢
  have e1 : IntKind.i64.wrap (a * d) = a * d := i64_small (by omega) (by omega)
  have e2 : IntKind.i64.wrap (c' * b) = c' * b := i64_small (by omega) (by omega)
  obtain ⟨U, hU⟩ : ∃ U, a * d = U := ⟨_, rfl⟩
  obtain ⟨V, hV⟩ : ∃ V, c' * b = V := ⟨_, rfl⟩
  rw [hU, hV] at cs
  rw [hU] at m1
  rw [hV] at m2
  have e3 := e1.trans hU
  have e4 := e2.trans hV
  have e5 : IntKind.i64.wrap (U - V) = U - V := i64_small (by omega) (by omega)
  have CS := Lib.hid cs
  have hb0 : Below w.heap.size w ((w.alloc (.cells #[.int .i64 a, .int .i64 b] 38)).alloc (.cells #[.int .i64 c', .int .i64 d] 38)) := ((Below.refl _ _).alloc (Nat.le_refl _) _).alloc (by simp) _
  clear e1 e2 hU hV hf hg hf1 hg1 m1 m2 cs
  go_enter Try.func58, Try.ntmps58
  go_wp2_with fail
  refine (CS.out _).mono ?_
  rintro e w1 ⟨rfl, rfl⟩
  go_wp2_with fail
  go_ret
  exact ⟨rfl, hb0⟩

end Go.Proofs.Ytekhmjhbdoigoaa
