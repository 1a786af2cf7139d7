/-
  The library's heap sort over terms: the two loops. Printed by gen_sort.py.
-/
import Derived.Test.YtbafgmicpopnoaaGreatDoorTmsH
import Derived.Deep.DeepCutAuto
namespace Go.Proofs.YtbafgmicpopnoaaGreatDoor
namespace TmsSort
open Go.RowKit
open Go.Sort (SWO swp swp_left swp_right swp_other size_swp insInner insOuter Hint)

theorem heapBuild_go {hi first k : Nat} {d : Array Tm} : Sort.heapBuild ltTm hi first (k + 1) d = Sort.heapBuild ltTm hi first k (Sort.siftDown ltTm hi first k d) := rfl
theorem heapPop_go {first k : Nat} {d : Array Tm} : Sort.heapPop ltTm first (k + 1) d = Sort.heapPop ltTm first k (Sort.siftDown ltTm k first 0 (swp d first (first + k))) := rfl

set_option maxHeartbeats 3200000 in
set_option maxRecDepth 100000 in
theorem heapSort_c (blk off cap a b : Nat) (d : Array Tm) (w : World) (hH : PH w blk off d) (hab : a ≤ b) (hb : b ≤ d.size) (hsz : d.size < 2305843009213693952) :
    Calls Tryz.prog 91 #[.slice (some ⟨blk, off, none⟩) d.size cap, .int .i64 a, .int .i64 b, cmpV] w (SortsTo w blk off d.size (Sort.heapSort ltTm d a b)) := by
  have HP := Lib.hid hH; clear hH
  unfold cmpV
  obtain ⟨L, hL⟩ : ∃ L, b - a = L := ⟨_, rfl⟩
  obtain ⟨M, hM⟩ : ∃ M, (L - 1) / 2 = M := ⟨_, rfl⟩
  have hS : Sort.heapSort ltTm d a b = Sort.heapPop ltTm a L (Sort.heapBuild ltTm L a (M + 1) d) := by subst hL; subst hM; rfl
  rw [hS]
  obtain ⟨D1, hD1⟩ : ∃ D1, Sort.heapBuild ltTm L a (M + 1) d = D1 := ⟨_, rfl⟩
  rw [hD1]
  have e0 : (b : Int) - (a : Int) = (L : Int) := by omega
  have e1 : IntKind.i64.wrap (L : Int) = (L : Int) := i64_small (by omega) (by omega)
  have e2 : ((L : Int) - 1).tdiv 2 = (M : Int) := by
    by_cases h : L = 0
    · subst h; subst hM; rfl
    · rw [Int.tdiv_eq_ediv_of_nonneg (by omega)]; omega
  have hML : M ≤ d.size := by omega
  have hLb : a + L ≤ d.size := by omega
  have HM := Lib.hid hM; have HL := Lib.hid hL; have HD1 := Lib.hid hD1; clear hM hL hS hD1
  go_enter Tryz.func91, Tryz.ntmps91
  go_wp2_with fail
  go_loopw [11] (fun v wr => ∃ (k : Nat) (dk : Array Tm), v = .int .i64 ((k : Int) - 1) ∧ k ≤ M + 1 ∧ dk.size = d.size ∧ PH wr blk off dk ∧ Chg blk w wr ∧ Sort.heapBuild ltTm L a k dk = D1) (fun v _ => (intOf v + 1).toNat)
  case atStart => exact ⟨M + 1, d, by congr 1; omega, by omega, rfl, HP.out, Chg.refl _ _, HD1.out⟩
  case round =>
    obtain ⟨k, dk, rfl, hkM, hsk, hph, hchg, hO⟩ := hrel
    have HO := Lib.hid hO; clear hO
    have HK := Lib.hid hph; clear hph
    have HSK := Lib.hid hsk; clear hsk
    by_cases hk0 : k = 0
    case neg =>
      obtain ⟨m, hm⟩ : ∃ m, k = m + 1 := ⟨k - 1, by omega⟩
      have e3 : (k : Int) - 1 = (m : Int) := by omega
      have e4 : IntKind.i64.wrap (m : Int) = (m : Int) := i64_small (by omega) (by omega)
      have c := siftDown_c blk off cap m L a dk wr HK.out (by have := HSK.out; omega) (by have := HSK.out; omega) (by have := HSK.out; omega)
      rw [HSK.out] at c
      have CC := Lib.hid c; clear c
      have HM1 := Lib.hid hm; clear hm
      unfold cmpV at CC
      go_wp2_with fail
      refine CC.out.mono ?_
      rintro e w1 ⟨rfl, hp1, hc1, hs1⟩
      have HP1 := Lib.hid hp1; have HS1 := Lib.hid hs1; clear hp1 hs1
      go_wp2_with fail
      go_roundw
      case rel => exact ⟨m, _, by first | rfl | go_num, by have := HM1.out; omega, HS1.out, HP1.out, hchg.trans hc1, by rw [← HO.out, HM1.out]; rfl⟩
      case measure => simp [intOf]; have := HM1.out; omega
    case pos =>
      subst hk0
      obtain rfl : dk = D1 := HO.out
      clear HO
      go_wp2_with fail
      go_loopw [12] (fun v wq => ∃ (k : Nat) (dq : Array Tm), v = .int .i64 ((k : Int) - 1) ∧ k ≤ L ∧ dq.size = d.size ∧ PH wq blk off dq ∧ Chg blk w wq ∧ Sort.heapPop ltTm a k dq = Sort.heapPop ltTm a L dk) (fun v _ => (intOf v + 1).toNat)
      case atStart => exact ⟨L, dk, rfl, Nat.le_refl _, HSK.out, HK.out, hchg, rfl⟩
      case round =>
        obtain ⟨k, dq, rfl, hkL, hsq, hph2, hchg2, hO⟩ := hrel
        have HO := Lib.hid hO; clear hO
        have HQ := Lib.hid hph2; clear hph2
        have HSQ := Lib.hid hsq; clear hsq
        by_cases hk0 : k = 0
        case pos =>
          subst hk0
          go_wp2_with fail
          go_end0
          refine ⟨rfl, ?_, hchg2, ?_⟩
          all_goals rw [← HO.out]
          · exact HQ.out
          · exact HSQ.out
        case neg =>
          obtain ⟨m, hm⟩ : ∃ m, k = m + 1 := ⟨k - 1, by omega⟩
          have e3 : (k : Int) - 1 = (m : Int) := by omega
          have e4 : IntKind.i64.wrap (m : Int) = (m : Int) := i64_small (by omega) (by omega)
          obtain ⟨AM, hAM⟩ : ∃ AM, a + m = AM := ⟨_, rfl⟩
          have e5 : (a : Int) + (m : Int) = (AM : Int) := by omega
          have e6 : IntKind.i64.wrap (AM : Int) = (AM : Int) := i64_small (by omega) (by omega)
          have x1 : (0 : Int) ≤ (a : Int) := by omega
          have x2 : (a : Int) < (d.size : Int) := by omega
          have x3 : (0 : Int) ≤ (AM : Int) := by omega
          have x4 : (AM : Int) < (d.size : Int) := by omega
          have HAM := Lib.hid hAM; have HM1 := Lib.hid hm; clear hAM hm
          go_upto_region 10 with fail
          go_cut [] from 36 to 36 (fun wc => PH wc blk off (swp dq a AM) ∧ Chg blk w wc)
          case first =>
            obtain ⟨p1, p2, p6, p3, p4, p7, _⟩ := HQ.out a (by have := HSQ.out; omega)
            obtain ⟨q1, q2, q6, q3, q4, q7, _⟩ := HQ.out AM (by have := HSQ.out; omega)
            obtain ⟨pp, hpp⟩ : ∃ p, dq[a]! = p := ⟨_, rfl⟩
            obtain ⟨qq, hqq⟩ : ∃ p, dq[AM]! = p := ⟨_, rfl⟩
            rw [hpp] at p1 p2 p6
            rw [hqq] at q1 q2 q6
            have HPP := Lib.hid hpp; have HQQ := Lib.hid hqq; clear hpp hqq
            have x1 : (0 : Int) ≤ (a : Int) := by omega
            have x2 : (a : Int) < (d.size : Int) := by omega
            have x3 : (0 : Int) ≤ (AM : Int) := by omega
            have x4 : (AM : Int) < (d.size : Int) := by omega
            by_cases hij : a = AM
            case pos =>
              obtain rfl : pp = qq := HPP.out.symm.trans ((congrArg (fun x => dq[x]!) hij).trans HQQ.out)
              subst hij
              clear HQQ
              have hSW := HQ.out.swap (i := a) (j := a) (by have := HSQ.out; omega) (by have := HSQ.out; omega)
              have hSC := swapW_chg wr blk off dq[a]! dq[a]! a a
              rw [HPP.out] at hSW hSC
              unfold swapW at hSW hSC
              have HSW := Lib.hid hSW; have HSC := Lib.hid hSC; clear hSW hSC
              go_wp2_with fail
              go_region
              go_wp2_with fail
              go_meet
              exact ⟨HSW.out.drew, (hchg2.trans HSC.out).trans (Chg.drew _ _)⟩
            case neg =>
              have hSW := HQ.out.swap (i := a) (j := AM) (by have := HSQ.out; omega) (by have := HSQ.out; omega)
              have hSC := swapW_chg wr blk off dq[a]! dq[AM]! a AM
              rw [HPP.out, HQQ.out] at hSW hSC
              unfold swapW at hSW hSC
              have HSW := Lib.hid hSW; have HSC := Lib.hid hSC; clear hSW hSC
              go_wp2_with fail
              go_region
              go_wp2_with fail
              go_meet
              exact ⟨HSW.out.drew, (hchg2.trans HSC.out).trans (Chg.drew _ _)⟩
          case rest =>
            obtain ⟨hph5, hchg5⟩ := hcut
            obtain ⟨w5, rfl⟩ : ∃ x : World, x = wc := ⟨_, rfl⟩
            have hs5 : (swp dq a AM).size = d.size := (size_swp _ _ _).trans HSQ.out
            obtain ⟨D5, hD2⟩ : ∃ D2, swp dq a AM = D2 := ⟨_, rfl⟩
            rw [hD2] at hph5 hs5
            have HK5 := Lib.hid hph5; have HS5 := Lib.hid hs5; have HD5 := Lib.hid hD2; clear hph5 hs5 hD2
            have c := siftDown_c blk off cap 0 m a D5 w5 HK5.out (by omega) (by have := HS5.out; have := HAM.out; omega) (by have := HS5.out; omega)
            rw [HS5.out] at c
            have z0 : ((0 : Nat) : Int) = 0 := rfl
            rw [z0] at c
            have CC := Lib.hid c; clear c
            unfold cmpV at CC
            go_wp2_with fail
            refine CC.out.mono ?_
            rintro e w1 ⟨rfl, hp1, hc1, hs1⟩
            have HP1 := Lib.hid hp1; have HS1 := Lib.hid hs1; clear hp1 hs1
            go_wp2_with fail
            go_roundw
            case rel => first | exact ⟨m, _, by first | rfl | go_num, by have := HM1.out; omega, HS1.out, HP1.out, hchg5.trans hc1, by rw [← HO.out, HM1.out, heapPop_go, HAM.out, HD5.out]⟩ | ((repeat apply Exists.intro); exact ⟨⟨m, _, by first | rfl | go_num, by have := HM1.out; omega, HS1.out, HP1.out, hchg5.trans hc1, by rw [← HO.out, HM1.out, heapPop_go, HAM.out, HD5.out]⟩, rfl⟩)
            case measure => simp [intOf]; have := HM1.out; omega



end TmsSort
end Go.Proofs.YtbafgmicpopnoaaGreatDoor
