/-
  The library's partialInsertionSort over terms. Printed by gen_sort.py.
-/
import Derived.Test.YtbafgmicpopnoaaGreatDoorTmsL
import Derived.Deep.DeepCutAuto
namespace Go.Proofs.YtbafgmicpopnoaaGreatDoor
namespace TmsSort
open Go.RowKit
open Go.Sort (SWO swp swp_left swp_right swp_other size_swp insInner insOuter Hint)

set_option maxHeartbeats 3200000 in
set_option maxRecDepth 100000 in
theorem partialInsertionSort_c (blk off cap a b : Nat) (d : Array Tm) (w : World) (hH : PH w blk off d) (hab : a < b) (hb : b ≤ d.size) (hsz : d.size < 2305843009213693952) :
    Calls Tryz.prog 95 #[.slice (some ⟨blk, off, none⟩) d.size cap, .int .i64 a, .int .i64 b, cmpV] w (ParTo w blk off d.size (Sort.partialInsertionSort ltTm d a b)) := by
  have HP := Lib.hid hH; clear hH
  unfold cmpV Sort.partialInsertionSort
  obtain ⟨R, hR⟩ : ∃ R, Sort.partialIns ltTm a b 5 (a + 1) d = R := ⟨_, rfl⟩
  rw [hR]
  have HR := Lib.hid hR; clear hR
  go_enter Tryz.func95, Tryz.ntmps95
  go_wp2_with fail
  go_loopw [9, 10] (fun vi vs wr => ∃ (i s : Nat) (dk : Array Tm), vi = .int .i64 i ∧ vs = .int .i64 s ∧ a < i ∧ i ≤ b ∧ s ≤ 5 ∧ dk.size = d.size ∧ PH wr blk off dk ∧ Chg blk w wr ∧ Sort.partialIns ltTm a b (5 - s) i dk = R) (fun _ vs _ => 6 - (intOf vs).toNat)
  case atStart => exact ⟨a + 1, 0, d, by first | rfl | go_num, rfl, by omega, by omega, by omega, rfl, HP.out, Chg.refl _ _, HR.out⟩
  case round =>
    obtain ⟨wE, rfl⟩ : ∃ x : World, x = wr := ⟨_, rfl⟩
    obtain ⟨i, s, dk, rfl, rfl, hai, hib, hs5, hsk, hph, hchgE, hPL⟩ := hrel
    have HPL := Lib.hid hPL; have HKE := Lib.hid hph; have HSE := Lib.hid hsk; clear hPL hph hsk
    by_cases hs : s < 5
    case neg =>
      obtain rfl : s = 5 := by omega
      have hR2 : R = (dk, false) := HPL.out.symm
      obtain rfl := hR2
      go_wp2_with fail
      go_ret
      exact ⟨rfl, HKE.out, hchgE, HSE.out⟩
    case pos =>
      have es : (s : Int) < 5 := by omega
      obtain ⟨IS, hIS⟩ : ∃ x, Sort.scanSorted ltTm dk b i = x := ⟨_, rfl⟩
      have HIS := Lib.hid hIS; clear hIS
      go_wp2_with fail
      go_loopw [9] (fun v wr => ∃ i2 : Nat, v = .int .i64 i2 ∧ i ≤ i2 ∧ i2 ≤ b ∧ PH wr blk off dk ∧ Chg blk w wr ∧ Sort.scanSorted ltTm dk b i2 = IS) (fun v _ => b + 1 - (intOf v).toNat)
      case atStart => exact ⟨i, rfl, Nat.le_refl _, hib, HKE.out, hchgE, HIS.out⟩
      case round =>
        obtain ⟨wF, rfl⟩ : ∃ x : World, x = wr := ⟨_, rfl⟩
        obtain ⟨i2, rfl, hii, hi2b, hph, hchgF, hO⟩ := hrel
        have HO2 := Lib.hid hO; clear hO
        have HKF := Lib.hid hph; clear hph
        obtain ⟨k, hk⟩ : ∃ x, i2 = x + 1 := ⟨i2 - 1, by omega⟩
        have ek : (i2 : Int) - 1 = (k : Int) := by omega
        have wk : IntKind.i64.wrap (k : Int) = (k : Int) := i64_small (by omega) (by omega)
        have bk : k < i2 ∧ i2 ≤ k + 1 := by omega
        have Hk := Lib.hid hk; clear hk
        obtain ⟨c, hc⟩ : ∃ c, (decide (i2 < b) && !ltTm dk[i2]! dk[k]!) = c := ⟨_, rfl⟩
        have HCC := Lib.hid hc; clear hc
        go_upto_region 5 with fail
        go_cut [36] from 19 to 36 (fun s wc => s = .bool c ∧ Below (World.heap wF).size wF wc)
        case first =>
          by_cases hle : i2 < b
          case neg =>
            go_wp2_with fail
            go_quiet (fail)
            go_wp2_with fail
            go_meet
            exact ⟨by rw [← HCC.out, decide_eq_false hle, Bool.false_and], bdrewN (Below.refl _ _) nq⟩
          case pos =>
            have x1 : (0 : Int) ≤ (i2 : Int) := by omega
            have x2 : (i2 : Int) < (d.size : Int) := by omega
            have x3 : (0 : Int) ≤ (k : Int) := by omega
            have x4 : (k : Int) < (d.size : Int) := by omega
            have hbl := HKF.out.lt (by have := HSE.out; omega)
            obtain ⟨p1, p2, p6, p3, p4, p7, p5⟩ := HKF.out i2 (by have := HSE.out; omega)
            obtain ⟨q1, q2, q6, q3, q4, q7, q5⟩ := HKF.out k (by have := HSE.out; omega)
            obtain ⟨pp, hpp⟩ : ∃ p, dk[i2]! = p := ⟨_, rfl⟩
            obtain ⟨qq, hqq⟩ : ∃ p, dk[k]! = p := ⟨_, rfl⟩
            rw [hpp] at p1 p2 p6 p5
            rw [hqq] at q1 q2 q6 q5
            have HPP := Lib.hid hpp; have HQQ := Lib.hid hqq; clear hpp hqq
            have hcmp := fun w => cmpTm_c pp qq w p5 q5
            unfold tmV at hcmp
            have HCMP := Lib.hid hcmp; clear hcmp
            go_wp2_with fail
            go_region_held3 (fun w' => (w'.cell? ⟨blk, off + i2 * 3, none⟩ = some (.int .i64 pp.i) ∧ w'.cell? ⟨blk, off + i2 * 3 + 1, none⟩ = some (.int .i64 pp.j) ∧ w'.cell? ⟨blk, off + i2 * 3 + 2, none⟩ = some (.int .i64 pp.c)) ∧ w'.cell? ⟨blk, off + k * 3, none⟩ = some (.int .i64 qq.i) ∧ w'.cell? ⟨blk, off + k * 3 + 1, none⟩ = some (.int .i64 qq.j) ∧ w'.cell? ⟨blk, off + k * 3 + 2, none⟩ = some (.int .i64 qq.c)) (exact ⟨⟨by assumption, by assumption, by assumption⟩, by assumption, by assumption, by assumption⟩)
              (first
                | (go_at_call 57; (with_reducible refine (HCMP.out _).mono ?_); rintro e W1 ⟨⟨r, rfl, hr⟩, hw1⟩; have m1 := bcell hw1 hbl p1; have m2 := bcell hw1 hbl p2; have m3 := bcell hw1 hbl q1; have m4 := bcell hw1 hbl q2; have m5 := bcell hw1 hbl p6; have m6 := bcell hw1 hbl q6))
            clear HCMP
            go_wp2_with fail
            go_meet
            exact ⟨by rw [← HCC.out, decide_eq_true hle, Bool.true_and, HPP.out, HQQ.out], (Below.refl _ _).drew.trans hw1⟩
        case rest =>
          obtain ⟨rfl, hbc⟩ := hcut
          obtain ⟨wG, rfl⟩ : ∃ x : World, x = wc := ⟨_, rfl⟩
          have HKG := Lib.hid (HKF.out.below hbc)
          have hchgG := hchgF.trans (Chg.of_below hbc)
          clear hbc
          cases c
          case true =>
            have hle : i2 < b := by have := (Bool.and_eq_true_iff.1 HCC.out).1; simpa using this
            go_wp2_with fail
            go_roundw
            case rel => exact ⟨i2 + 1, by go_num, by omega, by omega, HKG.out, hchgG, by rw [← scanSorted_go (i := i2) (by rw [show i2 - 1 = k by omega]; exact HCC.out)]; exact HO2.out⟩
            case measure => simp [intOf]; omega
          case false =>
            have hX : i2 = IS := by rw [← HO2.out, scanSorted_stop (i := i2) (by rw [show i2 - 1 = k by omega]; exact HCC.out)]
            clear HCC
            subst hX
            by_cases hfin : i2 = b
            case pos =>
              have hR2 : R = (dk, true) := by rw [← HPL.out, show 5 - s = (5 - s - 1) + 1 by omega]; exact partialIns_done HIS.out hfin
              obtain rfl := hR2
              have ef : ((i2 : Int) == (b : Int)) = true := by rw [hfin]; exact beq_self_eq_true _
              clear hfin
              go_wp2_with fail
              go_ret
              exact ⟨rfl, HKG.out, hchgG, HSE.out⟩
            case neg =>
              have ef : ((i2 : Int) == (b : Int)) = false := by simp; omega
              by_cases h50 : b - a < 50
              case pos =>
                have hR2 : R = (dk, false) := by rw [← HPL.out, show 5 - s = (5 - s - 1) + 1 by omega]; exact partialIns_short HIS.out hfin h50
                obtain rfl := hR2
                have eL : (b : Int) - (a : Int) < 50 := by omega
                go_wp2_with fail
                go_ret
                exact ⟨rfl, HKG.out, hchgG, HSE.out⟩
              case neg =>
                have eL : ¬ ((b : Int) - (a : Int) < 50) := by omega
                go_upto_region 11 with fail
                go_cut [] from 46 to 46 (fun wc => PH wc blk off (swp dk i2 k) ∧ Chg blk w wc)
                case first =>
                  obtain ⟨p1, p2, p6, p3, p4, p7, _⟩ := HKG.out i2 (by have := HSE.out; omega)
                  obtain ⟨q1, q2, q6, q3, q4, q7, _⟩ := HKG.out k (by have := HSE.out; omega)
                  obtain ⟨pp, hpp⟩ : ∃ p, dk[i2]! = p := ⟨_, rfl⟩
                  obtain ⟨qq, hqq⟩ : ∃ p, dk[k]! = p := ⟨_, rfl⟩
                  rw [hpp] at p1 p2 p6
                  rw [hqq] at q1 q2 q6
                  have HPP := Lib.hid hpp; have HQQ := Lib.hid hqq; clear hpp hqq
                  have x1 : (0 : Int) ≤ (i2 : Int) := by omega
                  have x2 : (i2 : Int) < (d.size : Int) := by omega
                  have x3 : (0 : Int) ≤ (k : Int) := by omega
                  have x4 : (k : Int) < (d.size : Int) := by omega
                  by_cases hij : i2 = k
                  case pos =>
                    exact absurd hij (by omega)
                  case neg =>
                    have hSW := HKG.out.swap (i := i2) (j := k) (by have := HSE.out; omega) (by have := HSE.out; omega)
                    have hSC := swapW_chg wG blk off dk[i2]! dk[k]! i2 k
                    rw [HPP.out, HQQ.out] at hSW hSC
                    unfold swapW at hSW hSC
                    have HSW := Lib.hid hSW; have HSC := Lib.hid hSC; clear hSW hSC
                    go_wp2_with fail
                    go_region
                    go_wp2_with fail
                    go_meet
                    exact ⟨HSW.out.drew, (hchgG.trans HSC.out).trans (Chg.drew _ _)⟩
                case rest =>
                  obtain ⟨hph1, hchg1⟩ := hcut
                  obtain ⟨w1, rfl⟩ : ∃ x : World, x = wc := ⟨_, rfl⟩
                  have hs1 : (swp dk i2 k).size = d.size := (size_swp _ _ _).trans HSE.out
                  obtain ⟨D1, hD2⟩ : ∃ D2, swp dk i2 k = D2 := ⟨_, rfl⟩
                  rw [hD2] at hph1 hs1
                  have HK1 := Lib.hid hph1; have HS1 := Lib.hid hs1; have HD1 := Lib.hid hD2; clear hph1 hs1 hD2
                  obtain ⟨D2, hD2⟩ : ∃ x, Sort.fixDown ltTm a i2 D1 = x := ⟨_, rfl⟩
                  have HD2 := Lib.hid hD2; clear hD2
                  go_upto_if 65 with fail
                  go_cut [] from 65 to 65 (fun wc => PH wc blk off D2 ∧ Chg blk w wc ∧ D2.size = d.size)
                  case first =>
                    by_cases h2 : i2 - a ≥ 2
                    case neg =>
                      have hv : D1 = D2 := by rw [← HD2.out]; unfold Sort.fixDown; rw [if_neg h2]
                      have e2 : ¬ ((2 : Int) ≤ (i2 : Int) - (a : Int)) := by omega
                      go_wp2_with fail
                      go_meet
                      exact ⟨hv ▸ HK1.out, hchg1, hv ▸ HS1.out⟩
                    case pos =>
                      have hv : Sort.shiftDown ltTm k D1 = D2 := by rw [← HD2.out]; unfold Sort.fixDown; rw [if_pos h2, show i2 - 1 = k by omega]
                      have HV := Lib.hid hv; clear hv
                      have e2 : (2 : Int) ≤ (i2 : Int) - (a : Int) := by omega
                      go_wp2_with fail
                      go_loopw [11] (fun v wr => ∃ (j : Nat) (dj : Array Tm), v = .int .i64 j ∧ j ≤ k ∧ dj.size = d.size ∧ PH wr blk off dj ∧ Chg blk w wr ∧ Sort.shiftDown ltTm j dj = D2) (fun v _ => (intOf v).toNat)
                      case atStart => exact ⟨k, D1, by first | rfl | go_num, Nat.le_refl _, HS1.out, HK1.out, hchg1, HV.out⟩
                      case round =>
                        obtain ⟨wH, rfl⟩ : ∃ x : World, x = wr := ⟨_, rfl⟩
                        obtain ⟨j, dj, rfl, hjk, hsj, hph, hchgH, hO⟩ := hrel
                        have HO3 := Lib.hid hO; have HKH := Lib.hid hph; have HSH := Lib.hid hsj; clear hO hph hsj
                        by_cases hj0 : j = 0
                        case pos =>
                          subst hj0
                          have hv : dj = D2 := HO3.out
                          go_wp2_with fail
                          go_meet
                          exact ⟨hv ▸ HKH.out, hchgH, hv ▸ HSH.out⟩
                        case neg =>
                          obtain ⟨m, hm⟩ : ∃ x, j = x + 1 := ⟨j - 1, by omega⟩
                          have em : (j : Int) - 1 = (m : Int) := by omega
                          have wm : IntKind.i64.wrap (m : Int) = (m : Int) := i64_small (by omega) (by omega)
                          have bm : m < j ∧ j ≤ m + 1 := by omega
                          have Hm := Lib.hid hm; clear hm
                          have ej1 : (1 : Int) ≤ (j : Int) := by omega
                          obtain ⟨c, hc⟩ : ∃ c, ltTm dj[j]! dj[m]! = c := ⟨_, rfl⟩
                          have HCC := Lib.hid hc; clear hc
                          go_upto_region 16 with fail
                          go_cut [84] from 72 to 84 (fun s wc => s = .bool (!c) ∧ Below (World.heap wH).size wH wc)
                          case first =>
                            have x1 : (0 : Int) ≤ (j : Int) := by omega
                            have x2 : (j : Int) < (d.size : Int) := by omega
                            have x3 : (0 : Int) ≤ (m : Int) := by omega
                            have x4 : (m : Int) < (d.size : Int) := by omega
                            have hbl := HKH.out.lt (by have := HSH.out; omega)
                            obtain ⟨p1, p2, p6, p3, p4, p7, p5⟩ := HKH.out j (by have := HSH.out; omega)
                            obtain ⟨q1, q2, q6, q3, q4, q7, q5⟩ := HKH.out m (by have := HSH.out; omega)
                            obtain ⟨pp, hpp⟩ : ∃ p, dj[j]! = p := ⟨_, rfl⟩
                            obtain ⟨qq, hqq⟩ : ∃ p, dj[m]! = p := ⟨_, rfl⟩
                            rw [hpp] at p1 p2 p6 p5
                            rw [hqq] at q1 q2 q6 q5
                            have HPP := Lib.hid hpp; have HQQ := Lib.hid hqq; clear hpp hqq
                            have hcmp := fun w => cmpTm_c pp qq w p5 q5
                            unfold tmV at hcmp
                            have HCMP := Lib.hid hcmp; clear hcmp
                            go_wp2_with fail
                            go_region_held3 (fun w' => (w'.cell? ⟨blk, off + j * 3, none⟩ = some (.int .i64 pp.i) ∧ w'.cell? ⟨blk, off + j * 3 + 1, none⟩ = some (.int .i64 pp.j) ∧ w'.cell? ⟨blk, off + j * 3 + 2, none⟩ = some (.int .i64 pp.c)) ∧ w'.cell? ⟨blk, off + m * 3, none⟩ = some (.int .i64 qq.i) ∧ w'.cell? ⟨blk, off + m * 3 + 1, none⟩ = some (.int .i64 qq.j) ∧ w'.cell? ⟨blk, off + m * 3 + 2, none⟩ = some (.int .i64 qq.c)) (exact ⟨⟨by assumption, by assumption, by assumption⟩, by assumption, by assumption, by assumption⟩)
                              (first
                                | (go_at_call 57; (with_reducible refine (HCMP.out _).mono ?_); rintro e W1 ⟨⟨r, rfl, hr⟩, hw1⟩; have m1 := bcell hw1 hbl p1; have m2 := bcell hw1 hbl p2; have m3 := bcell hw1 hbl q1; have m4 := bcell hw1 hbl q2; have m5 := bcell hw1 hbl p6; have m6 := bcell hw1 hbl q6))
                            clear HCMP
                            go_wp2_with fail
                            go_meet
                            exact ⟨by rw [← HCC.out, HPP.out, HQQ.out], (Below.refl _ _).drew.trans hw1⟩
                          case rest =>
                            obtain ⟨rfl, hbc⟩ := hcut
                            obtain ⟨wI, rfl⟩ : ∃ x : World, x = wc := ⟨_, rfl⟩
                            have HKwI := Lib.hid (HKH.out.below hbc)
                            have hchgwI := hchgH.trans (Chg.of_below hbc)
                            clear hbc
                            cases c
                            case false =>
                              have hv : dj = D2 := by rw [← HO3.out]; exact (shiftDown_stop Hm.out HCC.out).symm
                              go_wp2_with fail
                              go_meet
                              exact ⟨hv ▸ HKwI.out, hchgwI, hv ▸ HSH.out⟩
                            case true =>
                                obtain ⟨p1, p2, p6, p3, p4, p7, _⟩ := HKwI.out j (by have := HSH.out; omega)
                                obtain ⟨q1, q2, q6, q3, q4, q7, _⟩ := HKwI.out m (by have := HSH.out; omega)
                                obtain ⟨pp, hpp⟩ : ∃ p, dj[j]! = p := ⟨_, rfl⟩
                                obtain ⟨qq, hqq⟩ : ∃ p, dj[m]! = p := ⟨_, rfl⟩
                                rw [hpp] at p1 p2 p6
                                rw [hqq] at q1 q2 q6
                                have HPP := Lib.hid hpp; have HQQ := Lib.hid hqq; clear hpp hqq
                                have x1 : (0 : Int) ≤ (j : Int) := by omega
                                have x2 : (j : Int) < (d.size : Int) := by omega
                                have x3 : (0 : Int) ≤ (m : Int) := by omega
                                have x4 : (m : Int) < (d.size : Int) := by omega
                                have hSW := HKwI.out.swap (i := j) (j := m) (by have := HSH.out; omega) (by have := HSH.out; omega)
                                have hSC := swapW_chg wI blk off dj[j]! dj[m]! j m
                                rw [HPP.out, HQQ.out] at hSW hSC
                                unfold swapW at hSW hSC
                                have HSW := Lib.hid hSW; have HSC := Lib.hid hSC; clear hSW hSC
                                go_wp2_with fail
                                go_region
                                have HK5 := Lib.hid HSW.out.drew
                                have hchg5 := (hchgwI.trans HSC.out).trans (Chg.drew _ _)
                                have HS5 := Lib.hid ((size_swp dj j m).trans HSH.out)
                                clear HSW HSC
                                go_wp2_with fail
                                go_roundw
                                case rel => first | exact ⟨m, swp dj j m, by first | rfl | go_num, by omega, HS5.out, HK5.out, hchg5, by rw [← HO3.out, shiftDown_go Hm.out HCC.out]⟩ | ((repeat apply Exists.intro); exact ⟨⟨m, swp dj j m, by first | rfl | go_num, by omega, HS5.out, HK5.out, hchg5, by rw [← HO3.out, shiftDown_go Hm.out HCC.out]⟩, rfl⟩)
                                case measure => simp [intOf]; omega
                  case rest =>
                    obtain ⟨hph2, hchg2, hs2⟩ := hcut
                    obtain ⟨w2, rfl⟩ : ∃ x : World, x = wc := ⟨_, rfl⟩
                    have HK2 := Lib.hid hph2; have HS2 := Lib.hid hs2; clear hph2 hs2
                    obtain ⟨D3, hD3⟩ : ∃ x, Sort.fixUp ltTm b i2 D2 = x := ⟨_, rfl⟩
                    have HD3 := Lib.hid hD3; clear hD3
                    by_cases h2 : b - i2 ≥ 2
                    case neg =>
                      have hv : D2 = D3 := by rw [← HD3.out]; unfold Sort.fixUp; rw [if_neg h2]
                      have HV0 := Lib.hid (HD3.out.trans hv.symm); clear hv
                      have e2 : ¬ ((2 : Int) ≤ (b : Int) - (i2 : Int)) := by omega
                      have HEQ := Lib.hid (show Sort.partialIns ltTm a b (5 - (s + 1)) i2 D2 = R by rw [← HPL.out, show 5 - s = (5 - (s + 1)) + 1 by omega]; exact (partialIns_go HIS.out hfin h50 (by omega) HD1.out HD2.out HV0.out).symm)
                      go_wp2_with fail
                      go_roundw
                      case rel => first | exact ⟨i2, s + 1, D2, by first | rfl | go_num, by first | rfl | go_num, by omega, by omega, by omega, HS2.out, HK2.out, hchg2, HEQ.out⟩ | ((repeat apply Exists.intro); exact ⟨⟨i2, s + 1, D2, by first | rfl | go_num, by first | rfl | go_num, by omega, by omega, by omega, HS2.out, HK2.out, hchg2, HEQ.out⟩, rfl⟩)
                      case measure => simp [intOf]; omega
                    case pos =>
                      have hv : Sort.shiftUp ltTm b (i2 + 1) D2 = D3 := by rw [← HD3.out]; unfold Sort.fixUp; rw [if_pos h2]
                      have HV := Lib.hid hv; clear hv
                      have e2 : (2 : Int) ≤ (b : Int) - (i2 : Int) := by omega
                      go_wp2_with fail
                      go_loopw [12] (fun v wr => ∃ (j : Nat) (dj : Array Tm), v = .int .i64 j ∧ i2 < j ∧ j ≤ b ∧ dj.size = d.size ∧ PH wr blk off dj ∧ Chg blk w wr ∧ Sort.shiftUp ltTm b j dj = D3) (fun v _ => b + 1 - (intOf v).toNat)
                      case atStart => exact ⟨i2 + 1, D2, by first | rfl | go_num, by omega, by omega, HS2.out, HK2.out, hchg2, HV.out⟩
                      case round =>
                        obtain ⟨wH, rfl⟩ : ∃ x : World, x = wr := ⟨_, rfl⟩
                        obtain ⟨j, dj, rfl, hij, hjb, hsj, hph, hchgH, hO⟩ := hrel
                        have HO3 := Lib.hid hO; have HKH := Lib.hid hph; have HSH := Lib.hid hsj; clear hO hph hsj
                        by_cases hj0 : j < b
                        case neg =>
                          have hv : dj = D3 := by rw [← HO3.out]; exact (shiftUp_end hj0).symm
                          have HV0 := Lib.hid (HD3.out.trans hv.symm); clear hv
                          have HEQ := Lib.hid (show Sort.partialIns ltTm a b (5 - (s + 1)) i2 dj = R by rw [← HPL.out, show 5 - s = (5 - (s + 1)) + 1 by omega]; exact (partialIns_go HIS.out hfin h50 (by omega) HD1.out HD2.out HV0.out).symm)
                          go_wp2_with fail
                          go_roundw
                          case rel => first | exact ⟨i2, s + 1, dj, by first | rfl | go_num, by first | rfl | go_num, by omega, by omega, by omega, HSH.out, HKH.out, hchgH, HEQ.out⟩ | ((repeat apply Exists.intro); exact ⟨⟨i2, s + 1, dj, by first | rfl | go_num, by first | rfl | go_num, by omega, by omega, by omega, HSH.out, HKH.out, hchgH, HEQ.out⟩, rfl⟩)
                          case measure => simp [intOf]; omega
                        case pos =>
                          obtain ⟨m, hm⟩ : ∃ x, j = x + 1 := ⟨j - 1, by omega⟩
                          have em : (j : Int) - 1 = (m : Int) := by omega
                          have wm : IntKind.i64.wrap (m : Int) = (m : Int) := i64_small (by omega) (by omega)
                          have bm : m < j ∧ j ≤ m + 1 := by omega
                          have Hm := Lib.hid hm; clear hm
                          obtain ⟨c, hc⟩ : ∃ c, ltTm dj[j]! dj[m]! = c := ⟨_, rfl⟩
                          have HCC := Lib.hid hc; clear hc
                          go_upto_region 22 with fail
                          go_cut [124] from 112 to 124 (fun s wc => s = .bool (!c) ∧ Below (World.heap wH).size wH wc)
                          case first =>
                            have x1 : (0 : Int) ≤ (j : Int) := by omega
                            have x2 : (j : Int) < (d.size : Int) := by omega
                            have x3 : (0 : Int) ≤ (m : Int) := by omega
                            have x4 : (m : Int) < (d.size : Int) := by omega
                            have hbl := HKH.out.lt (by have := HSH.out; omega)
                            obtain ⟨p1, p2, p6, p3, p4, p7, p5⟩ := HKH.out j (by have := HSH.out; omega)
                            obtain ⟨q1, q2, q6, q3, q4, q7, q5⟩ := HKH.out m (by have := HSH.out; omega)
                            obtain ⟨pp, hpp⟩ : ∃ p, dj[j]! = p := ⟨_, rfl⟩
                            obtain ⟨qq, hqq⟩ : ∃ p, dj[m]! = p := ⟨_, rfl⟩
                            rw [hpp] at p1 p2 p6 p5
                            rw [hqq] at q1 q2 q6 q5
                            have HPP := Lib.hid hpp; have HQQ := Lib.hid hqq; clear hpp hqq
                            have hcmp := fun w => cmpTm_c pp qq w p5 q5
                            unfold tmV at hcmp
                            have HCMP := Lib.hid hcmp; clear hcmp
                            go_wp2_with fail
                            go_region_held3 (fun w' => (w'.cell? ⟨blk, off + j * 3, none⟩ = some (.int .i64 pp.i) ∧ w'.cell? ⟨blk, off + j * 3 + 1, none⟩ = some (.int .i64 pp.j) ∧ w'.cell? ⟨blk, off + j * 3 + 2, none⟩ = some (.int .i64 pp.c)) ∧ w'.cell? ⟨blk, off + m * 3, none⟩ = some (.int .i64 qq.i) ∧ w'.cell? ⟨blk, off + m * 3 + 1, none⟩ = some (.int .i64 qq.j) ∧ w'.cell? ⟨blk, off + m * 3 + 2, none⟩ = some (.int .i64 qq.c)) (exact ⟨⟨by assumption, by assumption, by assumption⟩, by assumption, by assumption, by assumption⟩)
                              (first
                                | (go_at_call 57; (with_reducible refine (HCMP.out _).mono ?_); rintro e W1 ⟨⟨r, rfl, hr⟩, hw1⟩; have m1 := bcell hw1 hbl p1; have m2 := bcell hw1 hbl p2; have m3 := bcell hw1 hbl q1; have m4 := bcell hw1 hbl q2; have m5 := bcell hw1 hbl p6; have m6 := bcell hw1 hbl q6))
                            clear HCMP
                            go_wp2_with fail
                            go_meet
                            exact ⟨by rw [← HCC.out, HPP.out, HQQ.out], (Below.refl _ _).drew.trans hw1⟩
                          case rest =>
                            obtain ⟨rfl, hbc⟩ := hcut
                            obtain ⟨wI, rfl⟩ : ∃ x : World, x = wc := ⟨_, rfl⟩
                            have HKwI := Lib.hid (HKH.out.below hbc)
                            have hchgwI := hchgH.trans (Chg.of_below hbc)
                            clear hbc
                            cases c
                            case false =>
                              have hv : dj = D3 := by rw [← HO3.out]; exact (shiftUp_stop Hm.out hj0 HCC.out).symm
                              have HV0 := Lib.hid (HD3.out.trans hv.symm); clear hv
                              have HEQ := Lib.hid (show Sort.partialIns ltTm a b (5 - (s + 1)) i2 dj = R by rw [← HPL.out, show 5 - s = (5 - (s + 1)) + 1 by omega]; exact (partialIns_go HIS.out hfin h50 (by omega) HD1.out HD2.out HV0.out).symm)
                              go_wp2_with fail
                              go_roundw
                              case rel => first | exact ⟨i2, s + 1, dj, by first | rfl | go_num, by first | rfl | go_num, by omega, by omega, by omega, HSH.out, HKwI.out, hchgwI, HEQ.out⟩ | ((repeat apply Exists.intro); exact ⟨⟨i2, s + 1, dj, by first | rfl | go_num, by first | rfl | go_num, by omega, by omega, by omega, HSH.out, HKwI.out, hchgwI, HEQ.out⟩, rfl⟩)
                              case measure => simp [intOf]; omega
                            case true =>
                              obtain ⟨p1, p2, p6, p3, p4, p7, _⟩ := HKwI.out j (by have := HSH.out; omega)
                              obtain ⟨q1, q2, q6, q3, q4, q7, _⟩ := HKwI.out m (by have := HSH.out; omega)
                              obtain ⟨pp, hpp⟩ : ∃ p, dj[j]! = p := ⟨_, rfl⟩
                              obtain ⟨qq, hqq⟩ : ∃ p, dj[m]! = p := ⟨_, rfl⟩
                              rw [hpp] at p1 p2 p6
                              rw [hqq] at q1 q2 q6
                              have HPP := Lib.hid hpp; have HQQ := Lib.hid hqq; clear hpp hqq
                              have x1 : (0 : Int) ≤ (j : Int) := by omega
                              have x2 : (j : Int) < (d.size : Int) := by omega
                              have x3 : (0 : Int) ≤ (m : Int) := by omega
                              have x4 : (m : Int) < (d.size : Int) := by omega
                              have hSW := HKwI.out.swap (i := j) (j := m) (by have := HSH.out; omega) (by have := HSH.out; omega)
                              have hSC := swapW_chg wI blk off dj[j]! dj[m]! j m
                              rw [HPP.out, HQQ.out] at hSW hSC
                              unfold swapW at hSW hSC
                              have HSW := Lib.hid hSW; have HSC := Lib.hid hSC; clear hSW hSC
                              go_wp2_with fail
                              go_region
                              have HK5 := Lib.hid HSW.out.drew
                              have hchg5 := (hchgwI.trans HSC.out).trans (Chg.drew _ _)
                              have HS5 := Lib.hid ((size_swp dj j m).trans HSH.out)
                              clear HSW HSC
                              go_wp2_with fail
                              go_roundw
                              case rel => first | exact ⟨j + 1, swp dj j m, by first | rfl | go_num, by omega, by omega, HS5.out, HK5.out, hchg5, by rw [← HO3.out, shiftUp_go Hm.out hj0 HCC.out]⟩ | ((repeat apply Exists.intro); exact ⟨⟨j + 1, swp dj j m, by first | rfl | go_num, by omega, by omega, HS5.out, HK5.out, hchg5, by rw [← HO3.out, shiftUp_go Hm.out hj0 HCC.out]⟩, rfl⟩)
                              case measure => simp [intOf]; omega


end TmsSort
end Go.Proofs.YtbafgmicpopnoaaGreatDoor
