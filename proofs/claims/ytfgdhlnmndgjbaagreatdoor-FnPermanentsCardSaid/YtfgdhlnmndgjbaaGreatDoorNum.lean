/-
  Numbers with infinity: the program's functions and the reference's. Printed by gen_num.py.
-/
import Derived.Test.YtfgdhlnmndgjbaaGreatDoorGood
namespace Go.Proofs.YtfgdhlnmndgjbaaGreatDoor
open Go.RowKit

def numB (n : Int) : Bool := inB n (-1000000) 1000000 || n == 1000000000
theorem numB_t {n : Int} (h : numB n = true) : (-1000000 ≤ n ∧ n ≤ 1000000) ∨ n = 1000000000 := by
  unfold numB at h
  rcases Bool.or_eq_true_iff.1 h with h | h
  · exact Or.inl (inB_t.1 h)
  · exact Or.inr (by simpa using h)
theorem numB_bd {n : Int} (h : numB n = true) : -1000000 ≤ n ∧ n ≤ 1000000000 := by have := numB_t h; omega
def prodZ (a b : Int) : Int := if a = 1000000000 ∨ b = 1000000000 then 1000000000 else a + b
theorem prodZ_bd {a b : Int} {A B : Int} (hA : 0 ≤ A ∧ A ≤ 4000000000000) (hB : 0 ≤ B ∧ B ≤ 4000000000000) (ha : -A ≤ a ∧ a ≤ A) (hb : -B ≤ b ∧ b ≤ B) : -(A + B + 1000000000) ≤ prodZ a b ∧ prodZ a b ≤ A + B + 1000000000 := by
  unfold prodZ; split <;> omega
def toldZ (n : Int) : Int := if numB n = true then n else 0
def pairV (n : Int) (b : Bool) : Value := .tuple #[.int .i64 n, .bool b]
def leastZ (a b : Int) : Int := if a < b then a else b
theorem leastZ_min (a b : Int) : leastZ a b = min a b := by unfold leastZ; split <;> omega

set_option maxHeartbeats 800000 in
theorem isFinite_c (n : Int) (w : World) :
    Calls Tryz.prog 38 #[.int .i64 n] w fun e w' => e = .returned (.bool (inB n (-1000000) 1000000)) ∧ w = w' := by
  go_enter Tryz.func38, Tryz.ntmps38
  go_wp2
  all_goals go_ret
  · exact ⟨ret_bool (by simp [inB, *]), rfl⟩
  · exact ⟨ret_bool (by simp [inB]; omega), rfl⟩

set_option maxHeartbeats 800000 in
theorem isNumber_c (n : Int) (w : World) :
    Calls Tryz.prog 28 #[.int .i64 n] w fun e w' => e = .returned (.bool (numB n)) ∧ w = w' := by
  have c := fun w => isFinite_c n w
  unfold numB
  generalize inB n (-1000000) 1000000 = u at c ⊢
  have C := Lib.hid c; clear c
  cases u
  case true =>
    go_enter Tryz.func28, Tryz.ntmps28
    go_wp2_with fail
    refine (C.out _).mono ?_
    rintro e w' ⟨rfl, rfl⟩
    go_wp2_with fail
    go_ret
    exact ⟨rfl, rfl⟩
  case false =>
    go_enter Tryz.func28, Tryz.ntmps28
    go_wp2_with fail
    refine (C.out _).mono ?_
    rintro e w' ⟨rfl, rfl⟩
    go_wp2_with fail
    go_ret
    exact ⟨ret_bool (by simp), rfl⟩

set_option maxHeartbeats 800000 in
theorem nuGood_c (n : Int) (w : World) :
    Calls Tryz.prog 31 #[.int .i64 n] w fun e w' => e = .returned (.bool (numB n)) ∧ w = w' := by
  have c := fun w => l1In_any n (-1000000) 1000000 w
  unfold numB
  generalize inB n (-1000000) 1000000 = u at c ⊢
  have C := Lib.hid c; clear c
  by_cases h : n = 1000000000
  · subst h
    go_enter Tryz.func31, Tryz.ntmps31
    go_wp2_with fail
    go_ret
    exact ⟨ret_bool (by simp), rfl⟩
  · have h1 : (n == 1000000000) = false := beq_eq_false_iff_ne.2 h
    go_enter Tryz.func31, Tryz.ntmps31
    go_wp2_with fail
    refine (C.out _).mono ?_
    rintro e w' ⟨rfl, rfl⟩
    go_wp2_with fail
    go_ret
    exact ⟨ret_bool (by simp [h1]), rfl⟩

set_option maxHeartbeats 800000 in
theorem product_c (a b : Int) (w : World) (hab : -4000000000000000000 ≤ a + b ∧ a + b ≤ 4000000000000000000) :
    Calls Tryz.prog 74 #[.int .i64 a, .int .i64 b] w fun e w' => e = .returned (.int .i64 (prodZ a b)) ∧ w = w' := by
  have hw : IntKind.i64.wrap (a + b) = a + b := i64_small (by omega) (by omega)
  unfold prodZ
  by_cases ha : a = 1000000000
  · rw [if_pos (Or.inl ha)]
    subst ha
    go_enter Tryz.func74, Tryz.ntmps74
    go_wp2_with fail
    go_ret
    exact ⟨rfl, rfl⟩
  · have ha1 : (a == 1000000000) = false := beq_eq_false_iff_ne.2 ha
    by_cases hb : b = 1000000000
    · rw [if_pos (Or.inr hb)]
      subst hb
      go_enter Tryz.func74, Tryz.ntmps74
      go_wp2_with fail
      go_ret
      exact ⟨rfl, rfl⟩
    · have hb1 : (b == 1000000000) = false := beq_eq_false_iff_ne.2 hb
      rw [if_neg (fun h => h.elim ha hb)]
      go_enter Tryz.func74, Tryz.ntmps74
      go_wp2_with fail
      go_ret
      exact ⟨rfl, rfl⟩

set_option maxHeartbeats 800000 in
theorem nuPlus_c (a b : Int) (w : World) (hab : -4000000000000000000 ≤ a + b ∧ a + b ≤ 4000000000000000000) :
    Calls Tryz.prog 65 #[.int .i64 a, .int .i64 b] w fun e w' => e = .returned (.int .i64 (prodZ a b)) ∧ w = w' := by
  have hw : IntKind.i64.wrap (a + b) = a + b := i64_small (by omega) (by omega)
  unfold prodZ
  by_cases ha : a = 1000000000
  · rw [if_pos (Or.inl ha)]
    subst ha
    go_enter Tryz.func65, Tryz.ntmps65
    go_wp2_with fail
    go_ret
    exact ⟨rfl, rfl⟩
  · have ha1 : (a == 1000000000) = false := beq_eq_false_iff_ne.2 ha
    by_cases hb : b = 1000000000
    · rw [if_pos (Or.inr hb)]
      subst hb
      go_enter Tryz.func65, Tryz.ntmps65
      go_wp2_with fail
      go_ret
      exact ⟨rfl, rfl⟩
    · have hb1 : (b == 1000000000) = false := beq_eq_false_iff_ne.2 hb
      rw [if_neg (fun h => h.elim ha hb)]
      go_enter Tryz.func65, Tryz.ntmps65
      go_wp2_with fail
      go_ret
      exact ⟨rfl, rfl⟩

set_option maxHeartbeats 800000 in
theorem nuIf_c (n : Int) (w : World) :
    Calls Tryz.prog 84 #[.int .i64 n] w fun e w' => e = .returned (pairV (toldZ n) (numB n)) ∧ w = w' := by
  have c := fun w => nuGood_c n w
  unfold toldZ pairV
  generalize numB n = u at c ⊢
  have C := Lib.hid c; clear c
  cases u
  case true =>
    go_enter Tryz.func84, Tryz.ntmps84
    go_wp2_with fail
    refine (C.out _).mono ?_
    rintro e w' ⟨rfl, rfl⟩
    go_wp2_with fail
    go_ret2
    exact ⟨rfl, rfl⟩
  case false =>
    go_enter Tryz.func84, Tryz.ntmps84
    go_wp2_with fail
    refine (C.out _).mono ?_
    rintro e w' ⟨rfl, rfl⟩
    go_wp2_with fail
    go_ret2
    exact ⟨rfl, rfl⟩

set_option maxHeartbeats 800000 in
theorem l1Least_n (a b : Int) (w : World) :
    Calls Tryz.prog 32 #[.int .i64 a, .int .i64 b] w fun e w' => e = .returned (.int .i64 (leastZ a b)) ∧ w = w' := by
  unfold leastZ
  by_cases h : a < b
  · rw [if_pos h]
    go_enter Tryz.func32, Tryz.ntmps32
    go_wp2_with fail
    go_ret
    exact ⟨rfl, rfl⟩
  · rw [if_neg h]
    go_enter Tryz.func32, Tryz.ntmps32
    go_wp2_with fail
    go_ret
    exact ⟨rfl, rfl⟩

set_option maxHeartbeats 800000 in
theorem nuMul_c (a b : Int) (w : World) (hab : -4000000000000000000 ≤ a + b ∧ a + b ≤ 4000000000000000000) :
    Calls Tryz.prog 54 #[.int .i64 a, .int .i64 b] w fun e w' => e = .returned (pairV (toldZ (prodZ a b)) (numB (prodZ a b))) ∧ w = w' := by
  have c1 := Lib.hid (fun w => nuPlus_c a b w hab)
  have c2 := fun w => nuIf_c (prodZ a b) w
  unfold pairV at c2 ⊢
  generalize prodZ a b = x at c1 c2 ⊢
  generalize toldZ x = y at c2 ⊢
  generalize numB x = u at c2 ⊢
  have C2 := Lib.hid c2; clear c2
  go_enter Tryz.func54, Tryz.ntmps54
  go_wp2_with fail
  refine (c1.out _).mono ?_
  rintro e w' ⟨rfl, rfl⟩
  go_wp2_with fail
  refine (C2.out _).mono ?_
  rintro e w' ⟨rfl, rfl⟩
  go_wp2_with fail
  go_ret2
  exact ⟨rfl, rfl⟩

set_option maxHeartbeats 800000 in
theorem areNumbers_c (ad : Option Addr) (cap : Nat) (l : List Int) (w : World) (hr : RdI w ad l) (hl : l.length ≤ 1048576) :
    Calls Tryz.prog 82 #[.slice ad l.length cap] w fun e w' => e = .returned (.bool (l.all numB)) ∧ w = w' := by
  have HR := Lib.hid hr; clear hr
  obtain ⟨A, hA⟩ : ∃ A, l.all numB = A := ⟨_, rfl⟩
  rw [hA]
  have HA := Lib.hid hA; clear hA
  go_enter Tryz.func82, Tryz.ntmps82
  go_wp2_with fail
  go_loopw [7] (fun i wr => ∃ k : Nat, k ≤ l.length ∧ i = .int .i64 k ∧ (l.take k).all numB = true ∧ w = wr) (fun i _ => l.length - (intOf i).toNat)
  case atStart => exact ⟨0, Nat.zero_le _, rfl, by simp, rfl⟩
  case round =>
    obtain ⟨k, hk, rfl, hall, rfl⟩ := hrel
    have HALL := Lib.hid hall; clear hall
    by_cases hlt : k < l.length
    case neg =>
      obtain rfl : k = l.length := by omega
      obtain rfl : A = true := by rw [← HA.out]; have := HALL.out; rwa [List.take_length] at this
      go_wp2_with fail
      go_ret
      exact ⟨rfl, rfl⟩
    case pos =>
      obtain ⟨b, off, rfl, hb, c0⟩ := HR.out k hlt
      obtain ⟨p, hp⟩ : ∃ x, l.getD k 0 = x := ⟨_, rfl⟩
      rw [hp] at c0
      have cb := fun w => isNumber_c p w
      have hst := Lib.hid (show (l.take (k + 1)).all numB = ((l.take k).all numB && numB p) by rw [List.take_succ_eq_append_getElem hlt, List.all_append, ← hp, List.getD_eq_getElem?_getD, List.getElem?_eq_getElem hlt]; simp)
      have hmem := Lib.hid (show numB p = false → A = false from fun h => by
        rw [← HA.out]
        cases hc : l.all numB
        · rfl
        · have := List.all_eq_true.1 hc p (by rw [← hp, List.getD_eq_getElem?_getD, List.getElem?_eq_getElem hlt, Option.getD_some]; exact List.getElem_mem _)
          rw [h] at this; exact absurd this (by simp))
      generalize numB p = u at cb hst hmem
      have CB := Lib.hid cb; clear cb hp
      cases u
      case false =>
        obtain rfl := hmem.out rfl
        go_wp2_with fail
        refine (CB.out _).mono ?_
        rintro e w1 ⟨rfl, rfl⟩
        go_wp2_with fail
        go_ret
        exact ⟨rfl, rfl⟩
      case true =>
        go_wp2_with fail
        refine (CB.out _).mono ?_
        rintro e w1 ⟨rfl, rfl⟩
        go_wp2_with fail
        go_roundw
        case rel => exact ⟨k + 1, by omega, by go_num, by rw [hst.out, HALL.out]; rfl, trivial⟩
        case measure => simp [intOf]; omega

def finB (n : Int) : Bool := inB n (-1000000) 1000000

end Go.Proofs.YtfgdhlnmndgjbaaGreatDoor
