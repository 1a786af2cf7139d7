/-
  Whether a list comes before another one: the reference's ceBefore. By an AI agent.
-/
import Derived.Test.YtcionneopgdebaaGreatCeG
import Derived.Test.YtcionneopgdebaaGreatLstB
namespace Go.Proofs.YtcionneopgdebaaGreat
open Go.RowKit
open LstSort (ltL)

set_option maxHeartbeats 1600000 in
set_option maxRecDepth 100000 in
theorem ceBefore_c (ad ad2 : Option Addr) (cap cap2 : Nat) (a b : List Int) (w : World) (hr : RdI w ad a) (hr2 : RdI w ad2 b) (hl : a.length ≤ 100000) (_hl2 : b.length ≤ 100000) :
    Calls Tryz.prog 82 #[.slice ad a.length cap, .slice ad2 b.length cap2] w fun e w' => e = .returned (.bool (ltL a b)) ∧ w = w' := by
  have HA := Lib.hid hr; have HB := Lib.hid hr2
  clear hr hr2
  obtain ⟨n, hn⟩ : ∃ n, a.length = n := ⟨_, rfl⟩
  obtain ⟨m, hm⟩ : ∃ m, b.length = m := ⟨_, rfl⟩
  have HN := Lib.hid hn; have HM := Lib.hid hm
  rw [hn] at hl ⊢
  rw [hm] at _hl2 ⊢
  clear hn hm
  obtain ⟨R, hR⟩ : ∃ R, ltL a b = R := ⟨_, rfl⟩
  rw [hR]
  have HR := Lib.hid hR; clear hR
  go_enter Tryz.func82, Tryz.ntmps82
  go_wp2_with fail
  go_loopw [9] (fun i wr => ∃ k : Nat, k ≤ n ∧ k ≤ m ∧ i = .int .i64 k ∧ R = ltL (a.drop k) (b.drop k) ∧ w = wr) (fun i _ => n - (intOf i).toNat)
  case atStart => exact ⟨0, Nat.zero_le _, Nat.zero_le _, rfl, HR.out.symm, rfl⟩
  case round =>
    obtain ⟨k, hk, hkm, rfl, hlt, rfl⟩ := hrel
    have HLT := Lib.hid hlt; clear hlt
    by_cases h1 : k < n
    case neg =>
      obtain rfl : k = n := by omega
      by_cases h2 : k < m
      · have g1 : decide ((k : Int) < (m : Int)) = true := decide_eq_true (by omega)
        have HE := Lib.hid (show R = true from by
          rw [HLT.out, show a.drop k = [] from List.drop_of_length_le (by rw [HN.out]; exact Nat.le_refl _), List.drop_eq_getElem_cons (l := b) (i := k) (by rw [HM.out]; exact h2)]
          rfl)
        clear HLT HR
        go_wp2_with fail
        go_ret
        exact ⟨by rw [HE.out]; rfl, rfl⟩
      · have g1 : decide ((k : Int) < (m : Int)) = false := decide_eq_false (by omega)
        have HE := Lib.hid (show R = false from by
          rw [HLT.out, show a.drop k = [] from List.drop_of_length_le (by rw [HN.out]; exact Nat.le_refl _), show b.drop k = [] from List.drop_of_length_le (by rw [HM.out]; omega)]
          rfl)
        clear HLT HR
        go_wp2_with fail
        go_ret
        exact ⟨by rw [HE.out]; rfl, rfl⟩
    case pos =>
      obtain ⟨b1, o1, rfl, hb1, k1⟩ := HA.out k (by rw [HN.out]; exact h1)
      have x1 : (0 : Int) ≤ (k : Int) := by omega
      have x2 : (k : Int) < (n : Int) := by omega
      by_cases h2 : k < m
      case neg =>
        have g1 : ((k : Int) == (m : Int)) = true := by rw [show k = m by omega]; exact beq_self_eq_true _
        have g2 : decide ((k : Int) < (m : Int)) = false := decide_eq_false (by omega)
        have HE := Lib.hid (show R = false from by
          rw [HLT.out, List.drop_eq_getElem_cons (l := a) (i := k) (by rw [HN.out]; exact h1), show b.drop k = [] from List.drop_of_length_le (by rw [HM.out]; omega)]
          rfl)
        clear HLT HR
        go_wp2_with fail
        go_ret
        exact ⟨by rw [HE.out]; rfl, rfl⟩
      case pos =>
        obtain ⟨b2, o2, rfl, hb2, k2⟩ := HB.out k (by rw [HM.out]; exact h2)
        have g1 : ((k : Int) == (m : Int)) = false := beq_eq_false_iff_ne.2 (by omega)
        have g2 : decide ((k : Int) < (m : Int)) = true := decide_eq_true (by omega)
        have x3 : (k : Int) < (m : Int) := by omega
        have HD := Lib.hid (HLT.out.trans (LstSort.ltL_drop (by rw [HN.out]; exact h1) (by rw [HM.out]; exact h2)))
        generalize a.getD k 0 = X at k1 HD
        generalize b.getD k 0 = Y at k2 HD
        clear HLT HR
        by_cases h : X = Y
        · have g3 : (X != Y) = false := by rw [h]; exact bne_self_eq_false _
          have HE := Lib.hid (show R = ltL (a.drop (k + 1)) (b.drop (k + 1)) from by rw [HD.out, if_pos h])
          clear HD h
          go_wp2_with fail
          go_roundw
          case rel => exact ⟨k + 1, by omega, by omega, by go_num, HE.out, by first | rfl | trivial⟩
          case measure => simp [intOf]; omega
        · have g3 : (X != Y) = true := bne_iff_ne.2 h
          obtain ⟨u, hu⟩ : ∃ u, decide (X < Y) = u := ⟨_, rfl⟩
          have HE := Lib.hid (show R = u from by rw [HD.out, if_neg h]; exact hu)
          clear HD h
          cases u
          all_goals
            go_wp2_with fail
            go_ret
            exact ⟨by rw [HE.out]; rfl, rfl⟩
end Go.Proofs.YtcionneopgdebaaGreat
