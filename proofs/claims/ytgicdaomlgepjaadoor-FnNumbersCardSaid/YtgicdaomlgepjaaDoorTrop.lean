/-
  Tropical sums, products, quotients and powers of numbers: program and reference. Printed by gen_trop.py.
-/
import Derived.Test.YtgicdaomlgepjaaDoorNum
namespace Go.Proofs.YtgicdaomlgepjaaDoor
open Go.RowKit

def okAB (a b : Int) : Bool := numB a && numB b
def sumR (a b : Int) : Int × Bool := if okAB a b = true then (leastZ a b, true) else (0, false)
def prodR (a b : Int) : Int × Bool := if okAB a b = true then (toldZ (prodZ a b), numB (prodZ a b)) else (0, false)
def quotR (a b : Int) : Int × Bool := if okAB a b = true ∧ b ≠ 1000000000 then (toldZ (prodZ a (-b)), numB (prodZ a (-b))) else (0, false)
def powZ (a k : Int) : Int := if k = 0 then 0 else if a = 1000000000 then 1000000000 else k * a
def powR (a k : Int) : Int × Bool := if numB a = true ∧ inB k 0 20 = true then (toldZ (powZ a k), numB (powZ a k)) else (0, false)
def pairR (r : Int × Bool) : Value := pairV r.1 r.2
theorem okAB_t {a b : Int} (h : okAB a b = true) : numB a = true ∧ numB b = true := Bool.and_eq_true_iff.1 h
theorem powZ_bd {a k : Int} (ha : numB a = true) (hk : 0 ≤ k ∧ k ≤ 20) : -20000000 ≤ powZ a k ∧ powZ a k ≤ 1000000000 := by
  unfold powZ
  split
  · omega
  · split
    · omega
    · rename_i h1 h2
      have h3 := numB_t ha
      rcases h3 with h3 | h3
      · have h4 : -(20 * 1000000) ≤ k * a ∧ k * a ≤ 20 * 1000000 := by
          have h5 : (k * a).natAbs ≤ 20 * 1000000 := by
            rw [Int.natAbs_mul]
            exact Nat.mul_le_mul (by omega) (by omega)
          omega
        omega
      · exact absurd h3 h2
theorem powZ_step {a : Int} {k : Nat} (ha : numB a = true) (hk : k ≤ 19) : prodZ (powZ a k) a = powZ a ((k : Int) + 1) := by
  have h3 := numB_t ha
  by_cases hi : a = 1000000000
  · unfold prodZ powZ
    rw [if_pos (Or.inr hi), if_neg (by omega), if_pos hi]
  · have hb := powZ_bd ha (k := k) ⟨by omega, by omega⟩
    have e1 : powZ a k = k * a := by
      unfold powZ
      by_cases h0 : (k : Int) = 0
      · rw [if_pos h0, h0]; omega
      · rw [if_neg h0, if_neg hi]
    have hb2 : (powZ a k).natAbs ≤ 20000000 := by
      rw [e1, Int.natAbs_mul]
      have : ((k : Int)).natAbs * a.natAbs ≤ 20 * 1000000 := Nat.mul_le_mul (by omega) (by omega)
      omega
    have e2 : powZ a ((k : Int) + 1) = (k + 1) * a := by
      unfold powZ
      rw [if_neg (by omega), if_neg hi]
    unfold prodZ
    rw [if_neg (by rintro (h | h) <;> omega), e2, e1]
    rw [Int.add_mul]; omega
theorem areTwo_c (a b : Int) (g : Nat) (w : World) (ho : Own w g 3 (ints [a, b])) :
    Calls Tryd.prog 22 #[.slice (some ⟨g, 0, none⟩) 2 2] w fun e w' => e = .returned (.bool (okAB a b)) ∧ w = w' := by
  have c := areNumbers_c (some ⟨g, 0, none⟩) 2 [a, b] w ho.rd (by simp)
  have e : [a, b].all numB = okAB a b := by simp [okAB]
  rw [e] at c
  exact c

set_option maxHeartbeats 800000 in
theorem iTropSum_c (a b : Int) (w : World) :
    Calls Tryd.prog 8 #[.int .i64 a, .int .i64 b] w fun e w' => e = .returned (pairR (sumR a b)) ∧ Below w.heap.size w w' := by
  have ca := areTwo_c a b w.heap.size (w.alloc (.cells #[.int .i64 a, .int .i64 b] 3)) (Own.newA w _ 3 rfl)
  have hb : Below w.heap.size w (w.alloc (.cells #[.int .i64 a, .int .i64 b] 3)) := (Below.refl _ _).alloc (Nat.le_refl _) _
  have ht := fun h => okAB_t (a := a) (b := b) h
  unfold pairR sumR pairV
  generalize okAB a b = u at ca ht ⊢
  have CA := Lib.hid ca; clear ca
  cases u
  case false =>
    go_enter Tryd.func8, Tryd.ntmps8
    go_wp2_with fail
    refine (CA.out).mono ?_
    rintro e w' ⟨rfl, rfl⟩
    go_wp2_with fail
    go_ret2
    exact ⟨rfl, hb⟩
  case true =>
    obtain ⟨h1, h2⟩ := ht rfl
    have h3 := numB_bd h1
    have h4 := numB_bd h2
    simp only [if_true]
    rw [leastZ_min]
    go_enter Tryd.func8, Tryd.ntmps8
    go_wp2_with fail
    refine (CA.out).mono ?_
    rintro e w' ⟨rfl, rfl⟩
    go_wp2_with fail
    all_goals go_ret2
    all_goals exact ⟨ret_ib (by omega) rfl, hb⟩

set_option maxHeartbeats 800000 in
theorem iTropProduct_c (a b : Int) (w : World) :
    Calls Tryd.prog 6 #[.int .i64 a, .int .i64 b] w fun e w' => e = .returned (pairR (prodR a b)) ∧ Below w.heap.size w w' := by
  have ca := areTwo_c a b w.heap.size (w.alloc (.cells #[.int .i64 a, .int .i64 b] 3)) (Own.newA w _ 3 rfl)
  have hb : Below w.heap.size w (w.alloc (.cells #[.int .i64 a, .int .i64 b] 3)) := (Below.refl _ _).alloc (Nat.le_refl _) _
  have ht := fun h => okAB_t (a := a) (b := b) h
  unfold pairR prodR pairV
  generalize okAB a b = u at ca ht ⊢
  have CA := Lib.hid ca; clear ca
  cases u
  case false =>
    go_enter Tryd.func6, Tryd.ntmps6
    go_wp2_with fail
    refine (CA.out).mono ?_
    rintro e w' ⟨rfl, rfl⟩
    go_wp2_with fail
    go_ret2
    exact ⟨rfl, hb⟩
  case true =>
    obtain ⟨h1, h2⟩ := ht rfl
    have h3 := numB_bd h1
    have h4 := numB_bd h2
    have cp := fun w => product_c a b w (by omega)
    have ct := fun w => told_c (prodZ a b) w
    simp only [if_true]
    unfold pairV at ct
    generalize prodZ a b = x at cp ct ⊢
    generalize toldZ x = y at ct ⊢
    generalize numB x = v at ct ⊢
    have CP := Lib.hid cp; have CT := Lib.hid ct; clear cp ct
    go_enter Tryd.func6, Tryd.ntmps6
    go_wp2_with fail
    refine (CA.out).mono ?_
    rintro e w' ⟨rfl, rfl⟩
    go_wp2_with fail
    refine (CP.out _).mono ?_
    rintro e w' ⟨rfl, rfl⟩
    go_wp2_with fail
    refine (CT.out _).mono ?_
    rintro e w' ⟨rfl, rfl⟩
    go_wp2_with fail
    go_ret2
    exact ⟨rfl, hb⟩

set_option maxHeartbeats 800000 in
theorem sTropSum_c (a b : Int) (w : World) :
    Calls Tryd.prog 9 #[.int .i64 a, .int .i64 b] w fun e w' => e = .returned (pairR (sumR a b)) ∧ Below w.heap.size w w' := by
  have c1 := fun w => nuGood_c a w
  have c2 := fun w => nuGood_c b w
  have ht1 := fun h => numB_bd (n := a) h
  have ht2 := fun h => numB_bd (n := b) h
  unfold pairR sumR pairV okAB
  generalize numB a = u at c1 ht1 ⊢
  generalize numB b = v at c2 ht2 ⊢
  have C1 := Lib.hid c1; have C2 := Lib.hid c2; clear c1 c2
  cases u
  case false =>
    go_enter Tryd.func9, Tryd.ntmps9
    go_wp2_with fail
    refine (C1.out _).mono ?_
    rintro e w' ⟨rfl, rfl⟩
    go_wp2_with fail
    go_ret2
    exact ⟨rfl, Below.refl _ _⟩
  case true =>
    cases v
    case false =>
      go_enter Tryd.func9, Tryd.ntmps9
      go_wp2_with fail
      refine (C1.out _).mono ?_
      rintro e w' ⟨rfl, rfl⟩
      go_wp2_with fail
      refine (C2.out _).mono ?_
      rintro e w' ⟨rfl, rfl⟩
      go_wp2_with fail
      go_ret2
      exact ⟨rfl, Below.refl _ _⟩
    case true =>
      have h3 := ht1 rfl
      have h4 := ht2 rfl
      have cl := Lib.hid (fun w => l1Least_n a b w)
      simp only [Bool.and_self, if_true]
      generalize leastZ a b = x at cl ⊢
      have CL := cl
      go_enter Tryd.func9, Tryd.ntmps9
      go_wp2_with fail
      refine (C1.out _).mono ?_
      rintro e w' ⟨rfl, rfl⟩
      go_wp2_with fail
      refine (C2.out _).mono ?_
      rintro e w' ⟨rfl, rfl⟩
      go_wp2_with fail
      refine (CL.out _).mono ?_
      rintro e w' ⟨rfl, rfl⟩
      go_wp2_with fail
      go_ret2
      exact ⟨rfl, Below.refl _ _⟩

set_option maxHeartbeats 800000 in
theorem sTropProduct_c (a b : Int) (w : World) :
    Calls Tryd.prog 7 #[.int .i64 a, .int .i64 b] w fun e w' => e = .returned (pairR (prodR a b)) ∧ Below w.heap.size w w' := by
  have c1 := fun w => nuGood_c a w
  have c2 := fun w => nuGood_c b w
  have ht1 := fun h => numB_bd (n := a) h
  have ht2 := fun h => numB_bd (n := b) h
  unfold pairR prodR pairV okAB
  generalize numB a = u at c1 ht1 ⊢
  generalize numB b = v at c2 ht2 ⊢
  have C1 := Lib.hid c1; have C2 := Lib.hid c2; clear c1 c2
  cases u
  case false =>
    go_enter Tryd.func7, Tryd.ntmps7
    go_wp2_with fail
    refine (C1.out _).mono ?_
    rintro e w' ⟨rfl, rfl⟩
    go_wp2_with fail
    go_ret2
    exact ⟨rfl, Below.refl _ _⟩
  case true =>
    cases v
    case false =>
      go_enter Tryd.func7, Tryd.ntmps7
      go_wp2_with fail
      refine (C1.out _).mono ?_
      rintro e w' ⟨rfl, rfl⟩
      go_wp2_with fail
      refine (C2.out _).mono ?_
      rintro e w' ⟨rfl, rfl⟩
      go_wp2_with fail
      go_ret2
      exact ⟨rfl, Below.refl _ _⟩
    case true =>
      have h3 := ht1 rfl
      have h4 := ht2 rfl
      have cm := fun w => nuMul_c a b w (by omega)
      simp only [Bool.and_self, if_true]
      unfold pairV at cm
      generalize toldZ (prodZ a b) = y at cm ⊢
      generalize numB (prodZ a b) = v at cm ⊢
      have CM := Lib.hid cm; clear cm
      go_enter Tryd.func7, Tryd.ntmps7
      go_wp2_with fail
      refine (C1.out _).mono ?_
      rintro e w' ⟨rfl, rfl⟩
      go_wp2_with fail
      refine (C2.out _).mono ?_
      rintro e w' ⟨rfl, rfl⟩
      go_wp2_with fail
      refine (CM.out _).mono ?_
      rintro e w' ⟨rfl, rfl⟩
      go_wp2_with fail
      go_ret2
      exact ⟨rfl, Below.refl _ _⟩

set_option maxHeartbeats 800000 in
theorem iTropQuotient_c (a b : Int) (w : World) :
    Calls Tryd.prog 10 #[.int .i64 a, .int .i64 b] w fun e w' => e = .returned (pairR (quotR a b)) ∧ Below w.heap.size w w' := by
  have ca := areTwo_c a b w.heap.size (w.alloc (.cells #[.int .i64 a, .int .i64 b] 3)) (Own.newA w _ 3 rfl)
  have hb : Below w.heap.size w (w.alloc (.cells #[.int .i64 a, .int .i64 b] 3)) := (Below.refl _ _).alloc (Nat.le_refl _) _
  have ht := fun h => okAB_t (a := a) (b := b) h
  unfold pairR quotR pairV
  generalize okAB a b = u at ca ht ⊢
  have CA := Lib.hid ca; clear ca
  cases u
  case false =>
    rw [if_neg (fun h => absurd h.1 (by simp))]
    go_enter Tryd.func10, Tryd.ntmps10
    go_wp2_with fail
    refine (CA.out).mono ?_
    rintro e w' ⟨rfl, rfl⟩
    go_wp2_with fail
    go_ret2
    exact ⟨rfl, hb⟩
  case true =>
    obtain ⟨h1, h2⟩ := ht rfl
    have h3 := numB_bd h1
    have h4 := numB_bd h2
    by_cases hi : b = 1000000000
    case pos =>
      rw [if_neg (fun h => h.2 hi)]
      have hib : (b == 1000000000) = true := beq_iff_eq.2 hi
      have HI := Lib.hid hi; clear hi
      go_enter Tryd.func10, Tryd.ntmps10
      go_wp2_with fail
      refine (CA.out).mono ?_
      rintro e w' ⟨rfl, rfl⟩
      go_wp2_with fail
      go_ret2
      exact ⟨rfl, hb⟩
    case neg =>
      rw [if_pos ⟨rfl, hi⟩]
      have hib : (b == 1000000000) = false := beq_eq_false_iff_ne.2 hi
      have HI := Lib.hid hi; clear hi
      have wn : IntKind.i64.wrap (-b) = -b := i64_small (by omega) (by omega)
      have cp := fun w => product_c a (-b) w (by omega)
      have ct := fun w => told_c (prodZ a (-b)) w
      unfold pairV at ct
      generalize prodZ a (-b) = x at cp ct ⊢
      generalize toldZ x = y at ct ⊢
      generalize numB x = v at ct ⊢
      have CP := Lib.hid cp; have CT := Lib.hid ct; clear cp ct
      go_enter Tryd.func10, Tryd.ntmps10
      go_wp2_with fail
      refine (CA.out).mono ?_
      rintro e w' ⟨rfl, rfl⟩
      go_wp2_with fail
      refine (CP.out _).mono ?_
      rintro e w' ⟨rfl, rfl⟩
      go_wp2_with fail
      refine (CT.out _).mono ?_
      rintro e w' ⟨rfl, rfl⟩
      go_wp2_with fail
      go_ret2
      exact ⟨rfl, hb⟩

set_option maxHeartbeats 800000 in
theorem sTropQuotient_c (a b : Int) (w : World) :
    Calls Tryd.prog 11 #[.int .i64 a, .int .i64 b] w fun e w' => e = .returned (pairR (quotR a b)) ∧ Below w.heap.size w w' := by
  have c1 := fun w => nuGood_c a w
  have c2 := fun w => nuGood_c b w
  have ht1 := fun h => numB_bd (n := a) h
  have ht2 := fun h => numB_bd (n := b) h
  unfold pairR quotR pairV okAB
  generalize numB a = u at c1 ht1 ⊢
  generalize numB b = v at c2 ht2 ⊢
  have C1 := Lib.hid c1; have C2 := Lib.hid c2; clear c1 c2
  cases u
  case false =>
    rw [if_neg (fun h => absurd h.1 (by simp))]
    go_enter Tryd.func11, Tryd.ntmps11
    go_wp2_with fail
    refine (C1.out _).mono ?_
    rintro e w' ⟨rfl, rfl⟩
    go_wp2_with fail
    go_ret2
    exact ⟨rfl, Below.refl _ _⟩
  case true =>
    cases v
    case false =>
      rw [if_neg (fun h => absurd h.1 (by simp))]
      go_enter Tryd.func11, Tryd.ntmps11
      go_wp2_with fail
      refine (C1.out _).mono ?_
      rintro e w' ⟨rfl, rfl⟩
      go_wp2_with fail
      refine (C2.out _).mono ?_
      rintro e w' ⟨rfl, rfl⟩
      go_wp2_with fail
      go_ret2
      exact ⟨rfl, Below.refl _ _⟩
    case true =>
      have h3 := ht1 rfl
      have h4 := ht2 rfl
      by_cases hi : b = 1000000000
      case pos =>
        rw [if_neg (fun h => h.2 hi)]
        have hib : (b == 1000000000) = true := beq_iff_eq.2 hi
        have HI := Lib.hid hi; clear hi
        go_enter Tryd.func11, Tryd.ntmps11
        go_wp2_with fail
        refine (C1.out _).mono ?_
        rintro e w' ⟨rfl, rfl⟩
        go_wp2_with fail
        refine (C2.out _).mono ?_
        rintro e w' ⟨rfl, rfl⟩
        go_wp2_with fail
        go_ret2
        exact ⟨rfl, Below.refl _ _⟩
      case neg =>
        rw [if_pos ⟨rfl, hi⟩]
        have hib : (b == 1000000000) = false := beq_eq_false_iff_ne.2 hi
        have HI := Lib.hid hi; clear hi
        have wn : IntKind.i64.wrap (-b) = -b := i64_small (by omega) (by omega)
        have cm := fun w => nuMul_c a (-b) w (by omega)
        unfold pairV at cm
        generalize toldZ (prodZ a (-b)) = y at cm ⊢
        generalize numB (prodZ a (-b)) = v at cm ⊢
        have CM := Lib.hid cm; clear cm
        go_enter Tryd.func11, Tryd.ntmps11
        go_wp2_with fail
        refine (C1.out _).mono ?_
        rintro e w' ⟨rfl, rfl⟩
        go_wp2_with fail
        refine (C2.out _).mono ?_
        rintro e w' ⟨rfl, rfl⟩
        go_wp2_with fail
        refine (CM.out _).mono ?_
        rintro e w' ⟨rfl, rfl⟩
        go_wp2_with fail
        go_ret2
        exact ⟨rfl, Below.refl _ _⟩

set_option maxHeartbeats 800000 in
theorem sTropPower_c (a k : Int) (w : World) :
    Calls Tryd.prog 15 #[.int .i64 a, .int .i64 k] w fun e w' => e = .returned (pairR (powR a k)) ∧ Below w.heap.size w w' := by
  have c1 := fun w => nuGood_c a w
  have c2 := fun w => l1In_any k 0 20 w
  have ht2 := fun h => inB_t.1 (show inB k 0 20 = true from h)
  obtain ⟨u, hu⟩ : ∃ u, numB a = u := ⟨_, rfl⟩
  unfold pairR powR pairV
  rw [hu] at c1 ⊢
  generalize inB k 0 20 = v at c2 ht2 ⊢
  have C1 := Lib.hid c1; have C2 := Lib.hid c2; clear c1 c2
  cases u
  case false =>
    rw [if_neg (fun h => absurd h.1 (by simp))]
    have HU := Lib.hid hu; clear hu
    go_enter Tryd.func15, Tryd.ntmps15
    go_wp2_with fail
    refine (C1.out _).mono ?_
    rintro e w' ⟨rfl, rfl⟩
    go_wp2_with fail
    go_ret2
    exact ⟨rfl, Below.refl _ _⟩
  case true =>
    have HU := Lib.hid hu; clear hu
    cases v
    case false =>
      rw [if_neg (fun h => absurd h.2 (by simp))]
      go_enter Tryd.func15, Tryd.ntmps15
      go_wp2_with fail
      refine (C1.out _).mono ?_
      rintro e w' ⟨rfl, rfl⟩
      go_wp2_with fail
      refine (C2.out _).mono ?_
      rintro e w' ⟨rfl, rfl⟩
      go_wp2_with fail
      go_ret2
      exact ⟨rfl, Below.refl _ _⟩
    case true =>
      rw [if_pos ⟨rfl, rfl⟩]
      have hk := ht2 rfl
      by_cases h0 : k = 0
      case pos =>
        subst h0
        have HV := Lib.hid (show toldZ (powZ a 0) = 0 ∧ numB (powZ a 0) = true by rw [show powZ a 0 = 0 from if_pos rfl]; decide)
        go_enter Tryd.func15, Tryd.ntmps15
        go_wp2_with fail
        refine (C1.out _).mono ?_
        rintro e w' ⟨rfl, rfl⟩
        go_wp2_with fail
        refine (C2.out _).mono ?_
        rintro e w' ⟨rfl, rfl⟩
        go_wp2_with fail
        go_ret2
        exact ⟨by rw [HV.out.1, HV.out.2]; rfl, Below.refl _ _⟩
      case neg =>
        have hk0 : (k == 0) = false := beq_eq_false_iff_ne.2 h0
        by_cases hi : a = 1000000000
        case pos =>
          subst hi
          have HV := Lib.hid (show toldZ (powZ 1000000000 k) = 1000000000 ∧ numB (powZ 1000000000 k) = true by rw [show powZ 1000000000 k = 1000000000 by unfold powZ; rw [if_neg h0, if_pos rfl]]; decide)
          clear h0
          go_enter Tryd.func15, Tryd.ntmps15
          go_wp2_with fail
          refine (C1.out _).mono ?_
          rintro e w' ⟨rfl, rfl⟩
          go_wp2_with fail
          refine (C2.out _).mono ?_
          rintro e w' ⟨rfl, rfl⟩
          go_wp2_with fail
          go_ret2
          exact ⟨by rw [HV.out.1, HV.out.2]; rfl, Below.refl _ _⟩
        case neg =>
          have hi0 : (a == 1000000000) = false := beq_eq_false_iff_ne.2 hi
          have hp : powZ a k = k * a := by unfold powZ; rw [if_neg h0, if_neg hi]
          have hbd := powZ_bd HU.out hk
          rw [hp] at hbd ⊢
          have wn : IntKind.i64.wrap (k * a) = k * a := i64_small (by omega) (by omega)
          have ct := fun w => nuIf_c (k * a) w
          unfold pairV at ct
          generalize toldZ (k * a) = y at ct ⊢
          generalize numB (k * a) = v at ct ⊢
          have CT := Lib.hid ct; have H0 := Lib.hid h0; have HI := Lib.hid hi; have HP := Lib.hid hp; clear ct h0 hi hp hbd
          go_enter Tryd.func15, Tryd.ntmps15
          go_wp2_with fail
          refine (C1.out _).mono ?_
          rintro e w' ⟨rfl, rfl⟩
          go_wp2_with fail
          refine (C2.out _).mono ?_
          rintro e w' ⟨rfl, rfl⟩
          go_wp2_with fail
          refine (CT.out _).mono ?_
          rintro e w' ⟨rfl, rfl⟩
          go_wp2_with fail
          go_ret2
          exact ⟨rfl, Below.refl _ _⟩

set_option maxHeartbeats 800000 in
theorem iTropPower_c (a k : Int) (w : World) :
    Calls Tryd.prog 14 #[.int .i64 a, .int .i64 k] w fun e w' => e = .returned (pairR (powR a k)) ∧ Below w.heap.size w w' := by
  have c1 := fun w => isNumber_c a w
  have c2 := fun w => within_any k 0 20 w
  have ht2 := fun h => inB_t.1 (show inB k 0 20 = true from h)
  obtain ⟨u, hu⟩ : ∃ u, numB a = u := ⟨_, rfl⟩
  unfold pairR powR pairV
  rw [hu] at c1 ⊢
  generalize inB k 0 20 = v at c2 ht2 ⊢
  have C1 := Lib.hid c1; have C2 := Lib.hid c2; clear c1 c2
  cases u
  case false =>
    rw [if_neg (fun h => absurd h.1 (by simp))]
    have HU := Lib.hid hu; clear hu
    go_enter Tryd.func14, Tryd.ntmps14
    go_wp2_with fail
    refine (C1.out _).mono ?_
    rintro e w' ⟨rfl, rfl⟩
    go_wp2_with fail
    go_ret2
    exact ⟨rfl, Below.refl _ _⟩
  case true =>
    have HU := Lib.hid hu; clear hu
    cases v
    case false =>
      rw [if_neg (fun h => absurd h.2 (by simp))]
      go_enter Tryd.func14, Tryd.ntmps14
      go_wp2_with fail
      refine (C1.out _).mono ?_
      rintro e w' ⟨rfl, rfl⟩
      go_wp2_with fail
      refine (C2.out _).mono ?_
      rintro e w' ⟨rfl, rfl⟩
      go_wp2_with fail
      go_ret2
      exact ⟨rfl, Below.refl _ _⟩
    case true =>
      rw [if_pos ⟨rfl, rfl⟩]
      have hk := ht2 rfl
      obtain ⟨K, rfl⟩ : ∃ K : Nat, k = K := ⟨k.toNat, by omega⟩
      have hK : K ≤ 20 := by omega
      clear hk ht2
      have ct := fun w => told_c (powZ a K) w
      unfold pairV at ct
      generalize toldZ (powZ a K) = y at ct ⊢
      generalize numB (powZ a K) = v at ct ⊢
      have CT := Lib.hid ct; clear ct
      go_enter Tryd.func14, Tryd.ntmps14
      go_wp2_with fail
      refine (C1.out _).mono ?_
      rintro e w' ⟨rfl, rfl⟩
      go_wp2_with fail
      refine (C2.out _).mono ?_
      rintro e w' ⟨rfl, rfl⟩
      go_wp2_with fail
      go_loopw [6, 16] (fun o i wr => ∃ j : Nat, j ≤ K ∧ i = .int .i64 j ∧ o = .int .i64 (powZ a j) ∧ Below w.heap.size w wr) (fun _ i _ => K - (intOf i).toNat)
      case atStart => exact ⟨0, Nat.zero_le _, rfl, by rw [show powZ a (0 : Nat) = 0 from if_pos rfl], Below.refl _ _⟩
      case round =>
        obtain ⟨j, hj, rfl, rfl, hbel⟩ := hrel
        by_cases hlt : j < K
        case neg =>
          obtain rfl : j = K := by omega
          generalize powZ a j = x at CT ⊢
          go_wp2_with fail
          refine (CT.out _).mono ?_
          rintro e w' ⟨rfl, rfl⟩
          go_wp2_with fail
          go_ret2
          exact ⟨rfl, hbel⟩
        case pos =>
          have hb1 := powZ_bd HU.out (k := j) ⟨by omega, by omega⟩
          have hb2 := numB_bd HU.out
          have cp := fun w => product_c (powZ a j) a w (by omega)
          rw [powZ_step HU.out (by omega)] at cp
          have e1 : ((j + 1 : Nat) : Int) = (j : Int) + 1 := by omega
          rw [← e1] at cp
          obtain ⟨x, hx⟩ : ∃ x, powZ a ((j + 1 : Nat) : Int) = x := ⟨_, rfl⟩
          rw [hx] at cp
          have HX := Lib.hid hx
          generalize powZ a (j : Int) = y at cp ⊢
          have CP := Lib.hid cp; clear cp hx hb1 hb2 e1
          go_wp2_with fail
          refine (CP.out _).mono ?_
          rintro e w' ⟨rfl, rfl⟩
          go_wp2_with fail
          go_roundw
          case rel => exact ⟨j + 1, by omega, by go_num, by rw [HX.out], hbel⟩
          case measure => simp [intOf]; omega

end Go.Proofs.YtgicdaomlgepjaaDoor
