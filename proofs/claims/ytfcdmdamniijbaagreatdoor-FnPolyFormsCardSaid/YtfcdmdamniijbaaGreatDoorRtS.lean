/-
  The reference's polynomials and corners. Printed by gen_rtS.py.
-/
import Derived.Test.YtfcdmdamniijbaaGreatDoorRtI
namespace Go.Proofs.YtfcdmdamniijbaaGreatDoor
open Go.RowKit

theorem rowI_lower {w : World} {B B' : Nat} {v : Value} {xs : List Int} (h : RowI w B v xs) (hB : B' ≤ B) : RowI w B' v xs := by
  obtain ⟨hl, h | ⟨g, cap, cur, hv, hg, hh⟩⟩ := h
  · exact ⟨hl, Or.inl h⟩
  · exact ⟨hl, Or.inr ⟨g, cap, cur, hv, Nat.le_trans hB hg, hh⟩⟩

set_option maxHeartbeats 1600000 in
theorem poGood_c (ad : Option Addr) (cap : Nat) (p : List Int) (w : World) (hr : RdI w ad p) (hl : p.length ≤ 1048576) :
    Calls Tryz.prog 30 #[.slice ad p.length cap] w fun e w' => e = .returned (.bool (polyB p)) ∧ w = w' := by
  have c1 := fun w => l1In_any (p.length : Int) 1 13 w
  have h13 := fun h => inB_t.1 (show inB (p.length : Int) 1 13 = true from h)
  have HR := Lib.hid hr; clear hr
  obtain ⟨A, hA⟩ : ∃ A, p.all numB = A := ⟨_, rfl⟩
  have HA := Lib.hid hA
  have hPB : polyB p = (inB p.length 1 13 && (A && decide (p.getD (p.length - 1) 0 ≠ 1000000000))) := by rw [← hA]; rfl
  clear hA
  generalize inB (p.length : Int) 1 13 = u at c1 h13 hPB
  generalize polyB p = R at hPB ⊢
  have HPB := Lib.hid hPB
  have C1 := Lib.hid c1; clear c1 hPB
  go_enter Tryz.func30, Tryz.ntmps30
  go_wp2_with fail
  go_loopw [7] (fun i wr => ∃ k : Nat, k ≤ p.length ∧ i = .int .i64 k ∧ (p.take k).all numB = true ∧ w = wr) (fun i _ => p.length - (intOf i).toNat)
  case atStart => exact ⟨0, Nat.zero_le _, rfl, by simp, rfl⟩
  case round =>
    obtain ⟨k, hk, rfl, hall, rfl⟩ := hrel
    have HALL := Lib.hid hall; clear hall
    by_cases hlt : k < p.length
    case neg =>
      obtain rfl : k = p.length := by omega
      obtain rfl : A = true := by rw [← HA.out]; have := HALL.out; rwa [List.take_length] at this
      cases u
      case false =>
        go_wp2_with fail
        refine (C1.out _).mono ?_
        rintro e w1 ⟨rfl, rfl⟩
        go_wp2_with fail
        go_ret
        exact ⟨ret_bool (by rw [HPB.out]; rfl), rfl⟩
      case true =>
        have hlen := h13 rfl
        obtain ⟨m, hm⟩ : ∃ m, p.length = m + 1 := ⟨p.length - 1, by omega⟩
        obtain ⟨b, off, rfl, hb, c0⟩ := HR.out m (by omega)
        have hpb := HPB.out
        rw [show p.length - 1 = m by omega] at hpb
        generalize p.getD m 0 = x at c0 hpb
        obtain ⟨n, hn⟩ : ∃ n, p.length = n := ⟨_, rfl⟩
        rw [hn] at C1 hlen hm ⊢
        have en : (n : Int) - 1 = (m : Int) := by omega
        have wn : IntKind.i64.wrap (m : Int) = (m : Int) := i64_small (by omega) (by omega)
        have x1 : (0 : Int) ≤ (m : Int) := by omega
        have x2 : (m : Int) < (n : Int) := by omega
        have hq : (x != 1000000000) = decide (x ≠ 1000000000) := by by_cases h : x = 1000000000 <;> simp [h]
        have hq2 : (!(x == 1000000000)) = decide (x ≠ 1000000000) := by by_cases h : x = 1000000000 <;> simp [h]
        generalize decide (x ≠ 1000000000) = q at hq hq2 hpb
        have HPB2 := Lib.hid hpb
        clear hm hlen h13 hpb hn
        go_wp2_with fail
        refine (C1.out _).mono ?_
        rintro e w1 ⟨rfl, rfl⟩
        go_wp2_with fail
        go_ret
        exact ⟨ret_bool (by rw [HPB2.out]; rfl), rfl⟩
    case pos =>
      obtain ⟨b, off, rfl, hb, c0⟩ := HR.out k hlt
      obtain ⟨x, hx⟩ : ∃ x, p.getD k 0 = x := ⟨_, rfl⟩
      rw [hx] at c0
      have cb := fun w => nuGood_c x w
      have hst := Lib.hid (show (p.take (k + 1)).all numB = ((p.take k).all numB && numB x) by rw [List.take_succ_eq_append_getElem hlt, List.all_append, ← hx, List.getD_eq_getElem?_getD, List.getElem?_eq_getElem hlt]; simp)
      have hmem := Lib.hid (show numB x = false → A = false from fun h => by
        rw [← HA.out]
        cases hc : p.all numB
        · rfl
        · have := List.all_eq_true.1 hc x (by rw [← hx, List.getD_eq_getElem?_getD, List.getElem?_eq_getElem hlt, Option.getD_some]; exact List.getElem_mem _)
          rw [h] at this; exact absurd this (by simp))
      generalize numB x = v at cb hst hmem
      have CB := Lib.hid cb; clear cb hx
      cases v
      case false =>
        obtain rfl := hmem.out rfl
        go_wp2_with fail
        refine (CB.out _).mono ?_
        rintro e w1 ⟨rfl, rfl⟩
        go_wp2_with fail
        go_ret
        exact ⟨ret_bool (by rw [HPB.out]; simp), rfl⟩
      case true =>
        go_wp2_with fail
        refine (CB.out _).mono ?_
        rintro e w1 ⟨rfl, rfl⟩
        go_wp2_with fail
        go_roundw
        case rel => exact ⟨k + 1, by omega, by go_num, by rw [hst.out, HALL.out]; rfl, trivial⟩
        case measure => simp [intOf]; omega

end Go.Proofs.YtfcdmdamniijbaaGreatDoor
