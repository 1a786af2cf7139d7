/-
  The library's partition over terms. Printed by gen_sort.py.
-/
import Derived.Test.YtbafgmicpopnoaaGreatDoorTmsL
import Derived.Deep.DeepCutAuto
namespace Go.Proofs.YtbafgmicpopnoaaGreatDoor
namespace TmsSort
open Go.RowKit
open Go.Sort (SWO swp swp_left swp_right swp_other size_swp insInner insOuter Hint)

set_option maxHeartbeats 3200000 in
set_option maxRecDepth 100000 in
theorem partition_c (blk off cap a b pivot : Nat) (d : Array Tm) (w : World) (hH : PH w blk off d) (hap : a ≤ pivot) (hpb : pivot < b) (hb : b ≤ d.size) (hsz : d.size < 2305843009213693952) :
    Calls Tryz.prog 97 #[.slice (some ⟨blk, off, none⟩) d.size cap, .int .i64 a, .int .i64 b, .int .i64 pivot, cmpV] w (PartsTo w blk off d.size (Sort.partition ltTm d a b pivot)) := by
  have HP := Lib.hid hH; clear hH
  unfold cmpV
  obtain ⟨b1, hb1⟩ : ∃ b1, b = b1 + 1 := ⟨b - 1, by omega⟩
  have e0 : (b : Int) - 1 = (b1 : Int) := by omega
  have hbb : b1 < b ∧ b ≤ b1 + 1 := by omega
  obtain ⟨A1, hA1⟩ : ∃ A1, a + 1 = A1 := ⟨_, rfl⟩
  have e1 : (a : Int) + 1 = (A1 : Int) := by omega
  have haa : a < A1 ∧ A1 ≤ b := by omega
  have ew1 : IntKind.i64.wrap (A1 : Int) = (A1 : Int) := i64_small (by omega) (by omega)
  have ew2 : IntKind.i64.wrap (b1 : Int) = (b1 : Int) := i64_small (by omega) (by omega)
  have HB1 := Lib.hid (show b - 1 = b1 by omega); have HA1 := Lib.hid hA1; clear hb1 hA1
  obtain ⟨R, hR⟩ : ∃ R, Sort.partition ltTm d a b pivot = R := ⟨_, rfl⟩
  rw [hR]
  have HR := Lib.hid hR; clear hR
  go_enter Tryz.func97, Tryz.ntmps97
  go_wp2_with fail
  go_upto_region 1 with fail
  go_cut [] from 14 to 14 (fun wc => PH wc blk off (swp d a pivot) ∧ Chg blk w wc)
  case first =>
    obtain ⟨p1, p2, p6, p3, p4, p7, _⟩ := HP.out a (by have := (Lib.hid (Eq.refl d.size)).out; omega)
    obtain ⟨q1, q2, q6, q3, q4, q7, _⟩ := HP.out pivot (by have := (Lib.hid (Eq.refl d.size)).out; omega)
    obtain ⟨pp, hpp⟩ : ∃ p, d[a]! = p := ⟨_, rfl⟩
    obtain ⟨qq, hqq⟩ : ∃ p, d[pivot]! = p := ⟨_, rfl⟩
    rw [hpp] at p1 p2 p6
    rw [hqq] at q1 q2 q6
    have HPP := Lib.hid hpp; have HQQ := Lib.hid hqq; clear hpp hqq
    have x1 : (0 : Int) ≤ (a : Int) := by omega
    have x2 : (a : Int) < (d.size : Int) := by omega
    have x3 : (0 : Int) ≤ (pivot : Int) := by omega
    have x4 : (pivot : Int) < (d.size : Int) := by omega
    by_cases hij : a = pivot
    case pos =>
      obtain rfl : pp = qq := HPP.out.symm.trans ((congrArg (fun x => d[x]!) hij).trans HQQ.out)
      subst hij
      clear HQQ
      have hSW := HP.out.swap (i := a) (j := a) (by have := (Lib.hid (Eq.refl d.size)).out; omega) (by have := (Lib.hid (Eq.refl d.size)).out; omega)
      have hSC := swapW_chg w blk off d[a]! d[a]! a a
      rw [HPP.out] at hSW hSC
      unfold swapW at hSW hSC
      have HSW := Lib.hid hSW; have HSC := Lib.hid hSC; clear hSW hSC
      go_wp2_with fail
      go_region
      go_wp2_with fail
      go_meet
      exact ⟨HSW.out.drew, ((Chg.refl blk w).trans HSC.out).trans (Chg.drew _ _)⟩
    case neg =>
      have hSW := HP.out.swap (i := a) (j := pivot) (by have := (Lib.hid (Eq.refl d.size)).out; omega) (by have := (Lib.hid (Eq.refl d.size)).out; omega)
      have hSC := swapW_chg w blk off d[a]! d[pivot]! a pivot
      rw [HPP.out, HQQ.out] at hSW hSC
      unfold swapW at hSW hSC
      have HSW := Lib.hid hSW; have HSC := Lib.hid hSC; clear hSW hSC
      go_wp2_with fail
      go_region
      go_wp2_with fail
      go_meet
      exact ⟨HSW.out.drew, ((Chg.refl blk w).trans HSC.out).trans (Chg.drew _ _)⟩
  case rest =>
    obtain ⟨hph0, hchg0⟩ := hcut
    obtain ⟨w0, rfl⟩ : ∃ x : World, x = wc := ⟨_, rfl⟩
    have hs0 : (swp d a pivot).size = d.size := (size_swp _ _ _).trans (Lib.hid (Eq.refl d.size)).out
    obtain ⟨D0, hD2⟩ : ∃ D2, swp d a pivot = D2 := ⟨_, rfl⟩
    rw [hD2] at hph0 hs0
    have HK0 := Lib.hid hph0; have HS0 := Lib.hid hs0; have HD0 := Lib.hid hD2; clear hph0 hs0 hD2
    obtain ⟨IU, hIU⟩ : ∃ x, Sort.scanUp (fun x => ltTm x D0[a]!) D0 b1 A1 = x := ⟨_, rfl⟩
    have HIU := Lib.hid hIU; clear hIU
    go_wp2_with fail
    go_loopw [12] (fun v wA => ∃ iwA : Nat, v = .int .i64 iwA ∧ A1 ≤ iwA ∧ iwA ≤ b ∧ PH wA blk off D0 ∧ Chg blk w wA ∧ Sort.scanUp (fun x => ltTm x D0[a]!) D0 b1 iwA = IU) (fun v _ => b + 1 - (intOf v).toNat)
    case atStart => exact ⟨A1, by first | rfl | go_num, by omega, by omega, HK0.out, hchg0, HIU.out⟩
    case round =>
      obtain ⟨wA, rfl⟩ : ∃ x : World, x = wr := ⟨_, rfl⟩
      obtain ⟨iwA, rfl, hlowA, hhiwA, hphwA, hchgwA, hOwA⟩ := hrel
      have HOwA := Lib.hid hOwA; clear hOwA
      have HKwA := Lib.hid hphwA; clear hphwA
      obtain ⟨c, hc⟩ : ∃ c, (decide (iwA ≤ b1) && ltTm D0[iwA]! D0[a]!) = c := ⟨_, rfl⟩
      have HCC := Lib.hid hc; clear hc
      go_upto_region 3 with fail
      go_cut [47] from 32 to 47 (fun s wc => s = .bool c ∧ Below (World.heap wA).size wA wc)
      case first =>
        by_cases hle : iwA ≤ b1
        case neg =>
          go_wp2_with fail
          go_quiet (fail)
          go_wp2_with fail
          go_meet
          exact ⟨by rw [← HCC.out, decide_eq_false hle, Bool.false_and], bdrewN (Below.refl _ _) nq⟩
        case pos =>
          have x1 : (0 : Int) ≤ (iwA : Int) := by omega
          have x2 : (iwA : Int) < (d.size : Int) := by omega
          have x3 : (0 : Int) ≤ (a : Int) := by omega
          have x4 : (a : Int) < (d.size : Int) := by omega
          have hbl := HKwA.out.lt (by have := HS0.out; omega)
          obtain ⟨p1, p2, p6, p3, p4, p7, p5⟩ := HKwA.out iwA (by have := HS0.out; omega)
          obtain ⟨q1, q2, q6, q3, q4, q7, q5⟩ := HKwA.out a (by have := HS0.out; omega)
          obtain ⟨pp, hpp⟩ : ∃ p, D0[iwA]! = p := ⟨_, rfl⟩
          obtain ⟨qq, hqq⟩ : ∃ p, D0[a]! = p := ⟨_, rfl⟩
          rw [hpp] at p1 p2 p6 p5
          rw [hqq] at q1 q2 q6 q5
          have HPP := Lib.hid hpp; have HQQ := Lib.hid hqq; clear hpp hqq
          have hcmp := fun w => cmpTm_c pp qq w p5 q5
          unfold tmV at hcmp
          have HCMP := Lib.hid hcmp; clear hcmp
          go_wp2_with fail
          go_region_held3 (fun w' => (w'.cell? ⟨blk, off + iwA * 3, none⟩ = some (.int .i64 pp.i) ∧ w'.cell? ⟨blk, off + iwA * 3 + 1, none⟩ = some (.int .i64 pp.j) ∧ w'.cell? ⟨blk, off + iwA * 3 + 2, none⟩ = some (.int .i64 pp.c)) ∧ w'.cell? ⟨blk, off + a * 3, none⟩ = some (.int .i64 qq.i) ∧ w'.cell? ⟨blk, off + a * 3 + 1, none⟩ = some (.int .i64 qq.j) ∧ w'.cell? ⟨blk, off + a * 3 + 2, none⟩ = some (.int .i64 qq.c)) (exact ⟨⟨by assumption, by assumption, by assumption⟩, by assumption, by assumption, by assumption⟩)
            (first
              | (go_at_call 57; (with_reducible refine (HCMP.out _).mono ?_); rintro e W1 ⟨⟨r, rfl, hr⟩, hw1⟩; have m1 := bcell hw1 hbl p1; have m2 := bcell hw1 hbl p2; have m3 := bcell hw1 hbl q1; have m4 := bcell hw1 hbl q2; have m5 := bcell hw1 hbl p6; have m6 := bcell hw1 hbl q6))
          clear HCMP
          go_wp2_with fail
          go_meet
          exact ⟨by rw [← HCC.out, decide_eq_true hle, Bool.true_and, HPP.out, HQQ.out], (Below.refl _ _).drew.trans hw1⟩
      case rest =>
        obtain ⟨rfl, hbc⟩ := hcut
        obtain ⟨wB, rfl⟩ : ∃ x : World, x = wc := ⟨_, rfl⟩
        have HKwB := Lib.hid (HKwA.out.below hbc)
        have hchgwB := hchgwA.trans (Chg.of_below hbc)
        clear hbc
        cases c
        case true =>
          have hle : iwA ≤ b1 := by have := (Bool.and_eq_true_iff.1 HCC.out).1; simpa using this
          go_wp2_with fail
          go_roundw
          case rel => first | exact ⟨iwA + 1, by go_num, by omega, by omega, HKwB.out, hchgwB, by rw [← scanUp_go HCC.out]; exact HOwA.out⟩ | ((repeat apply Exists.intro); exact ⟨⟨iwA + 1, by go_num, by omega, by omega, HKwB.out, hchgwB, by rw [← scanUp_go HCC.out]; exact HOwA.out⟩, rfl⟩)
          case measure => simp [intOf]; omega
        case false =>
          have hX : iwA = IU := by rw [← HOwA.out, scanUp_stop HCC.out]
          clear HCC
          subst hX
          go_wp2_with fail
          obtain ⟨JD, hJD⟩ : ∃ x, Sort.scanDown (fun x => !ltTm x D0[a]!) D0 iwA b1 = x := ⟨_, rfl⟩
          have HJD := Lib.hid hJD; clear hJD
          go_loopw [13] (fun v wC => ∃ jwC : Nat, v = .int .i64 jwC ∧ a ≤ jwC ∧ jwC ≤ b1 ∧ PH wC blk off D0 ∧ Chg blk w wC ∧ Sort.scanDown (fun x => !ltTm x D0[a]!) D0 iwA jwC = JD) (fun v _ => (intOf v).toNat)
          case atStart => exact ⟨b1, by first | rfl | go_num, by omega, by omega, HKwB.out, hchgwB, HJD.out⟩
          case round =>
            obtain ⟨wC, rfl⟩ : ∃ x : World, x = wr := ⟨_, rfl⟩
            obtain ⟨jwC, rfl, hlowC, hhiwC, hphwC, hchgwC, hOwC⟩ := hrel
            have HOwC := Lib.hid hOwC; clear hOwC
            have HKwC := Lib.hid hphwC; clear hphwC
            obtain ⟨c, hc⟩ : ∃ c, (decide (iwA ≤ jwC) && !ltTm D0[jwC]! D0[a]!) = c := ⟨_, rfl⟩
            have HCC := Lib.hid hc; clear hc
            go_upto_region 5 with fail
            go_cut [66] from 50 to 66 (fun s wc => s = .bool c ∧ Below (World.heap wC).size wC wc)
            case first =>
              by_cases hle : iwA ≤ jwC
              case neg =>
                go_wp2_with fail
                go_quiet (fail)
                go_wp2_with fail
                go_meet
                exact ⟨by rw [← HCC.out, decide_eq_false hle, Bool.false_and], bdrewN (Below.refl _ _) nq⟩
              case pos =>
                have x1 : (0 : Int) ≤ (jwC : Int) := by omega
                have x2 : (jwC : Int) < (d.size : Int) := by omega
                have x3 : (0 : Int) ≤ (a : Int) := by omega
                have x4 : (a : Int) < (d.size : Int) := by omega
                have hbl := HKwC.out.lt (by have := HS0.out; omega)
                obtain ⟨p1, p2, p6, p3, p4, p7, p5⟩ := HKwC.out jwC (by have := HS0.out; omega)
                obtain ⟨q1, q2, q6, q3, q4, q7, q5⟩ := HKwC.out a (by have := HS0.out; omega)
                obtain ⟨pp, hpp⟩ : ∃ p, D0[jwC]! = p := ⟨_, rfl⟩
                obtain ⟨qq, hqq⟩ : ∃ p, D0[a]! = p := ⟨_, rfl⟩
                rw [hpp] at p1 p2 p6 p5
                rw [hqq] at q1 q2 q6 q5
                have HPP := Lib.hid hpp; have HQQ := Lib.hid hqq; clear hpp hqq
                have hcmp := fun w => cmpTm_c pp qq w p5 q5
                unfold tmV at hcmp
                have HCMP := Lib.hid hcmp; clear hcmp
                go_wp2_with fail
                go_region_held3 (fun w' => (w'.cell? ⟨blk, off + jwC * 3, none⟩ = some (.int .i64 pp.i) ∧ w'.cell? ⟨blk, off + jwC * 3 + 1, none⟩ = some (.int .i64 pp.j) ∧ w'.cell? ⟨blk, off + jwC * 3 + 2, none⟩ = some (.int .i64 pp.c)) ∧ w'.cell? ⟨blk, off + a * 3, none⟩ = some (.int .i64 qq.i) ∧ w'.cell? ⟨blk, off + a * 3 + 1, none⟩ = some (.int .i64 qq.j) ∧ w'.cell? ⟨blk, off + a * 3 + 2, none⟩ = some (.int .i64 qq.c)) (exact ⟨⟨by assumption, by assumption, by assumption⟩, by assumption, by assumption, by assumption⟩)
                  (first
                    | (go_at_call 57; (with_reducible refine (HCMP.out _).mono ?_); rintro e W1 ⟨⟨r, rfl, hr⟩, hw1⟩; have m1 := bcell hw1 hbl p1; have m2 := bcell hw1 hbl p2; have m3 := bcell hw1 hbl q1; have m4 := bcell hw1 hbl q2; have m5 := bcell hw1 hbl p6; have m6 := bcell hw1 hbl q6))
                clear HCMP
                go_wp2_with fail
                go_meet
                exact ⟨by rw [← HCC.out, decide_eq_true hle, Bool.true_and, HPP.out, HQQ.out], (Below.refl _ _).drew.trans hw1⟩
            case rest =>
              obtain ⟨rfl, hbc⟩ := hcut
              obtain ⟨wD, rfl⟩ : ∃ x : World, x = wc := ⟨_, rfl⟩
              have HKwD := Lib.hid (HKwC.out.below hbc)
              have hchgwD := hchgwC.trans (Chg.of_below hbc)
              clear hbc
              cases c
              case true =>
                have hle : iwA ≤ jwC := by have := (Bool.and_eq_true_iff.1 HCC.out).1; simpa using this
                obtain ⟨kk, hkk⟩ : ∃ kk, jwC = kk + 1 := ⟨jwC - 1, by omega⟩
                have e9 : (jwC : Int) - 1 = (kk : Int) := by omega
                have HKK := Lib.hid hkk; clear hkk
                go_wp2_with fail
                go_roundw
                case rel => first | exact ⟨kk, by first | rfl | go_num, by have := HKK.out; omega, by have := HKK.out; omega, HKwD.out, hchgwD, by rw [← scanDown_go HKK.out HCC.out]; exact HOwC.out⟩ | ((repeat apply Exists.intro); exact ⟨⟨kk, by first | rfl | go_num, by have := HKK.out; omega, by have := HKK.out; omega, HKwD.out, hchgwD, by rw [← scanDown_go HKK.out HCC.out]; exact HOwC.out⟩, rfl⟩)
                case measure => simp [intOf]; have := HKK.out; omega
              case false =>
                have hX : jwC = JD := by rw [← HOwC.out, scanDown_stop HCC.out]
                clear HCC
                subst hX
                by_cases hgt : jwC < iwA
                case pos =>
                  go_upto_region 8 with fail
                  go_cut [] from 72 to 72 (fun wc => PH wc blk off (swp D0 jwC a) ∧ Chg blk w wc)
                  case first =>
                    obtain ⟨p1, p2, p6, p3, p4, p7, _⟩ := HKwD.out jwC (by have := HS0.out; omega)
                    obtain ⟨q1, q2, q6, q3, q4, q7, _⟩ := HKwD.out a (by have := HS0.out; omega)
                    obtain ⟨pp, hpp⟩ : ∃ p, D0[jwC]! = p := ⟨_, rfl⟩
                    obtain ⟨qq, hqq⟩ : ∃ p, D0[a]! = p := ⟨_, rfl⟩
                    rw [hpp] at p1 p2 p6
                    rw [hqq] at q1 q2 q6
                    have HPP := Lib.hid hpp; have HQQ := Lib.hid hqq; clear hpp hqq
                    have x1 : (0 : Int) ≤ (jwC : Int) := by omega
                    have x2 : (jwC : Int) < (d.size : Int) := by omega
                    have x3 : (0 : Int) ≤ (a : Int) := by omega
                    have x4 : (a : Int) < (d.size : Int) := by omega
                    by_cases hij : jwC = a
                    case pos =>
                      obtain rfl : pp = qq := HPP.out.symm.trans ((congrArg (fun x => D0[x]!) hij).trans HQQ.out)
                      subst hij
                      clear HQQ
                      have hSW := HKwD.out.swap (i := jwC) (j := jwC) (by have := HS0.out; omega) (by have := HS0.out; omega)
                      have hSC := swapW_chg wD blk off D0[jwC]! D0[jwC]! jwC jwC
                      rw [HPP.out] at hSW hSC
                      unfold swapW at hSW hSC
                      have HSW := Lib.hid hSW; have HSC := Lib.hid hSC; clear hSW hSC
                      go_wp2_with fail
                      go_region
                      go_wp2_with fail
                      go_meet
                      exact ⟨HSW.out.drew, (hchgwD.trans HSC.out).trans (Chg.drew _ _)⟩
                    case neg =>
                      have hSW := HKwD.out.swap (i := jwC) (j := a) (by have := HS0.out; omega) (by have := HS0.out; omega)
                      have hSC := swapW_chg wD blk off D0[jwC]! D0[a]! jwC a
                      rw [HPP.out, HQQ.out] at hSW hSC
                      unfold swapW at hSW hSC
                      have HSW := Lib.hid hSW; have HSC := Lib.hid hSC; clear hSW hSC
                      go_wp2_with fail
                      go_region
                      go_wp2_with fail
                      go_meet
                      exact ⟨HSW.out.drew, (hchgwD.trans HSC.out).trans (Chg.drew _ _)⟩
                  case rest =>
                    obtain ⟨hph6, hchg6⟩ := hcut
                    obtain ⟨w6, rfl⟩ : ∃ x : World, x = wc := ⟨_, rfl⟩
                    have hs6 : (swp D0 jwC a).size = d.size := (size_swp _ _ _).trans HS0.out
                    obtain ⟨D6, hD2⟩ : ∃ D2, swp D0 jwC a = D2 := ⟨_, rfl⟩
                    rw [hD2] at hph6 hs6
                    have HK6 := Lib.hid hph6; have HS6 := Lib.hid hs6; have HD6 := Lib.hid hD2; clear hph6 hs6 hD2
                    have hR2 : R = (jwC, true, D6) := by rw [← HR.out]; exact (partition_early HD0.out (by rw [HB1.out, HA1.out]; exact HIU.out) (by rw [HB1.out]; exact HJD.out) hgt).trans (by rw [HD6.out])
                    obtain rfl := hR2
                    go_wp2_with fail
                    go_ret2
                    exact ⟨rfl, HK6.out, hchg6, HS6.out⟩
                case neg =>
                  go_upto_region 10 with fail
                  go_cut [] from 87 to 87 (fun wc => PH wc blk off (swp D0 iwA jwC) ∧ Chg blk w wc)
                  case first =>
                    obtain ⟨p1, p2, p6, p3, p4, p7, _⟩ := HKwD.out iwA (by have := HS0.out; omega)
                    obtain ⟨q1, q2, q6, q3, q4, q7, _⟩ := HKwD.out jwC (by have := HS0.out; omega)
                    obtain ⟨pp, hpp⟩ : ∃ p, D0[iwA]! = p := ⟨_, rfl⟩
                    obtain ⟨qq, hqq⟩ : ∃ p, D0[jwC]! = p := ⟨_, rfl⟩
                    rw [hpp] at p1 p2 p6
                    rw [hqq] at q1 q2 q6
                    have HPP := Lib.hid hpp; have HQQ := Lib.hid hqq; clear hpp hqq
                    have x1 : (0 : Int) ≤ (iwA : Int) := by omega
                    have x2 : (iwA : Int) < (d.size : Int) := by omega
                    have x3 : (0 : Int) ≤ (jwC : Int) := by omega
                    have x4 : (jwC : Int) < (d.size : Int) := by omega
                    by_cases hij : iwA = jwC
                    case pos =>
                      obtain rfl : pp = qq := HPP.out.symm.trans ((congrArg (fun x => D0[x]!) hij).trans HQQ.out)
                      subst hij
                      clear HQQ
                      have hSW := HKwD.out.swap (i := iwA) (j := iwA) (by have := HS0.out; omega) (by have := HS0.out; omega)
                      have hSC := swapW_chg wD blk off D0[iwA]! D0[iwA]! iwA iwA
                      rw [HPP.out] at hSW hSC
                      unfold swapW at hSW hSC
                      have HSW := Lib.hid hSW; have HSC := Lib.hid hSC; clear hSW hSC
                      go_wp2_with fail
                      go_region
                      go_wp2_with fail
                      go_meet
                      exact ⟨HSW.out.drew, (hchgwD.trans HSC.out).trans (Chg.drew _ _)⟩
                    case neg =>
                      have hSW := HKwD.out.swap (i := iwA) (j := jwC) (by have := HS0.out; omega) (by have := HS0.out; omega)
                      have hSC := swapW_chg wD blk off D0[iwA]! D0[jwC]! iwA jwC
                      rw [HPP.out, HQQ.out] at hSW hSC
                      unfold swapW at hSW hSC
                      have HSW := Lib.hid hSW; have HSC := Lib.hid hSC; clear hSW hSC
                      go_wp2_with fail
                      go_region
                      go_wp2_with fail
                      go_meet
                      exact ⟨HSW.out.drew, (hchgwD.trans HSC.out).trans (Chg.drew _ _)⟩
                  case rest =>
                    obtain ⟨hph6, hchg6⟩ := hcut
                    obtain ⟨w6, rfl⟩ : ∃ x : World, x = wc := ⟨_, rfl⟩
                    have hs6 : (swp D0 iwA jwC).size = d.size := (size_swp _ _ _).trans HS0.out
                    obtain ⟨D6, hD2⟩ : ∃ D2, swp D0 iwA jwC = D2 := ⟨_, rfl⟩
                    rw [hD2] at hph6 hs6
                    have HK6 := Lib.hid hph6; have HS6 := Lib.hid hs6; have HD6 := Lib.hid hD2; clear hph6 hs6 hD2
                    obtain ⟨jk, hjk⟩ : ∃ jk, jwC = jk + 1 := ⟨jwC - 1, by omega⟩
                    have e7 : (jwC : Int) - 1 = (jk : Int) := by omega
                    have hjj : jk < jwC ∧ jwC ≤ jk + 1 := by omega
                    have HJK := Lib.hid (show jwC - 1 = jk by omega); clear hjk
                    obtain ⟨RR, hRR⟩ : ∃ x, Sort.partLoop ltTm a (iwA + 1) jk D6 = x := ⟨_, rfl⟩
                    have HRR := Lib.hid hRR; clear hRR
                    go_wp2_with fail
                    go_loopw [12, 13] (fun vi vj wr => ∃ (i j : Nat) (dk : Array Tm), vi = .int .i64 i ∧ vj = .int .i64 j ∧ a < i ∧ i ≤ b ∧ a ≤ j ∧ j < b ∧ dk.size = d.size ∧ PH wr blk off dk ∧ Chg blk w wr ∧ Sort.partLoop ltTm a i j dk = RR) (fun vi vj _ => (intOf vj + 1 - intOf vi).toNat)
                    case atStart => exact ⟨(iwA + 1), jk, D6, by first | rfl | go_num, by first | rfl | go_num, by omega, by omega, by omega, by omega, HS6.out, HK6.out, hchg6, HRR.out⟩
                    case round =>
                      obtain ⟨wE, rfl⟩ : ∃ x : World, x = wr := ⟨_, rfl⟩
                      obtain ⟨i, j, dk, rfl, rfl, hai, hib, haj, hjb, hsk, hph, hchgE, hPL⟩ := hrel
                      have HPL := Lib.hid hPL; clear hPL
                      have HKE := Lib.hid hph; clear hph
                      have HSE := Lib.hid hsk; clear hsk
                      obtain ⟨IU2, hIU2⟩ : ∃ x, Sort.scanUp (fun x => ltTm x dk[a]!) dk j i = x := ⟨_, rfl⟩
                      have HIU2 := Lib.hid hIU2; clear hIU2
                      go_wp2_with fail
                      go_loopw [12] (fun v wF => ∃ iwF : Nat, v = .int .i64 iwF ∧ i ≤ iwF ∧ iwF ≤ b ∧ PH wF blk off dk ∧ Chg blk w wF ∧ Sort.scanUp (fun x => ltTm x dk[a]!) dk j iwF = IU2) (fun v _ => b + 1 - (intOf v).toNat)
                      case atStart => exact ⟨i, by first | rfl | go_num, by omega, by omega, HKE.out, hchgE, HIU2.out⟩
                      case round =>
                        obtain ⟨wF, rfl⟩ : ∃ x : World, x = wr := ⟨_, rfl⟩
                        obtain ⟨iwF, rfl, hlowF, hhiwF, hphwF, hchgwF, hOwF⟩ := hrel
                        have HOwF := Lib.hid hOwF; clear hOwF
                        have HKwF := Lib.hid hphwF; clear hphwF
                        obtain ⟨c, hc⟩ : ∃ c, (decide (iwF ≤ j) && ltTm dk[iwF]! dk[a]!) = c := ⟨_, rfl⟩
                        have HCC := Lib.hid hc; clear hc
                        go_upto_region 13 with fail
                        go_cut [120] from 105 to 120 (fun s wc => s = .bool c ∧ Below (World.heap wF).size wF wc)
                        case first =>
                          by_cases hle : iwF ≤ j
                          case neg =>
                            go_wp2_with fail
                            go_quiet (fail)
                            go_wp2_with fail
                            go_meet
                            exact ⟨by rw [← HCC.out, decide_eq_false hle, Bool.false_and], bdrewN (Below.refl _ _) nq⟩
                          case pos =>
                            have x1 : (0 : Int) ≤ (iwF : Int) := by omega
                            have x2 : (iwF : Int) < (d.size : Int) := by omega
                            have x3 : (0 : Int) ≤ (a : Int) := by omega
                            have x4 : (a : Int) < (d.size : Int) := by omega
                            have hbl := HKwF.out.lt (by have := HSE.out; omega)
                            obtain ⟨p1, p2, p6, p3, p4, p7, p5⟩ := HKwF.out iwF (by have := HSE.out; omega)
                            obtain ⟨q1, q2, q6, q3, q4, q7, q5⟩ := HKwF.out a (by have := HSE.out; omega)
                            obtain ⟨pp, hpp⟩ : ∃ p, dk[iwF]! = p := ⟨_, rfl⟩
                            obtain ⟨qq, hqq⟩ : ∃ p, dk[a]! = p := ⟨_, rfl⟩
                            rw [hpp] at p1 p2 p6 p5
                            rw [hqq] at q1 q2 q6 q5
                            have HPP := Lib.hid hpp; have HQQ := Lib.hid hqq; clear hpp hqq
                            have hcmp := fun w => cmpTm_c pp qq w p5 q5
                            unfold tmV at hcmp
                            have HCMP := Lib.hid hcmp; clear hcmp
                            go_wp2_with fail
                            go_region_held3 (fun w' => (w'.cell? ⟨blk, off + iwF * 3, none⟩ = some (.int .i64 pp.i) ∧ w'.cell? ⟨blk, off + iwF * 3 + 1, none⟩ = some (.int .i64 pp.j) ∧ w'.cell? ⟨blk, off + iwF * 3 + 2, none⟩ = some (.int .i64 pp.c)) ∧ w'.cell? ⟨blk, off + a * 3, none⟩ = some (.int .i64 qq.i) ∧ w'.cell? ⟨blk, off + a * 3 + 1, none⟩ = some (.int .i64 qq.j) ∧ w'.cell? ⟨blk, off + a * 3 + 2, none⟩ = some (.int .i64 qq.c)) (exact ⟨⟨by assumption, by assumption, by assumption⟩, by assumption, by assumption, by assumption⟩)
                              (first
                                | (go_at_call 57; (with_reducible refine (HCMP.out _).mono ?_); rintro e W1 ⟨⟨r, rfl, hr⟩, hw1⟩; have m1 := bcell hw1 hbl p1; have m2 := bcell hw1 hbl p2; have m3 := bcell hw1 hbl q1; have m4 := bcell hw1 hbl q2; have m5 := bcell hw1 hbl p6; have m6 := bcell hw1 hbl q6))
                            clear HCMP
                            go_wp2_with fail
                            go_meet
                            exact ⟨by rw [← HCC.out, decide_eq_true hle, Bool.true_and, HPP.out, HQQ.out], (Below.refl _ _).drew.trans hw1⟩
                        case rest =>
                          obtain ⟨rfl, hbc⟩ := hcut
                          obtain ⟨wG, rfl⟩ : ∃ x : World, x = wc := ⟨_, rfl⟩
                          have HKwG := Lib.hid (HKwF.out.below hbc)
                          have hchgwG := hchgwF.trans (Chg.of_below hbc)
                          clear hbc
                          cases c
                          case true =>
                            have hle : iwF ≤ j := by have := (Bool.and_eq_true_iff.1 HCC.out).1; simpa using this
                            go_wp2_with fail
                            go_roundw
                            case rel => first | exact ⟨iwF + 1, by go_num, by omega, by omega, HKwG.out, hchgwG, by rw [← scanUp_go HCC.out]; exact HOwF.out⟩ | ((repeat apply Exists.intro); exact ⟨⟨iwF + 1, by go_num, by omega, by omega, HKwG.out, hchgwG, by rw [← scanUp_go HCC.out]; exact HOwF.out⟩, rfl⟩)
                            case measure => simp [intOf]; omega
                          case false =>
                            have hX : iwF = IU2 := by rw [← HOwF.out, scanUp_stop HCC.out]
                            clear HCC
                            subst hX
                            go_wp2_with fail
                            obtain ⟨JD2, hJD2⟩ : ∃ x, Sort.scanDown (fun x => !ltTm x dk[a]!) dk iwF j = x := ⟨_, rfl⟩
                            have HJD2 := Lib.hid hJD2; clear hJD2
                            have hlowA : i ≤ iwF := by omega
                            go_loopw [13] (fun v wH => ∃ jwH : Nat, v = .int .i64 jwH ∧ a ≤ jwH ∧ jwH ≤ j ∧ PH wH blk off dk ∧ Chg blk w wH ∧ Sort.scanDown (fun x => !ltTm x dk[a]!) dk iwF jwH = JD2) (fun v _ => (intOf v).toNat)
                            case atStart => exact ⟨j, by first | rfl | go_num, by omega, by omega, HKwG.out, hchgwG, HJD2.out⟩
                            case round =>
                              obtain ⟨wH, rfl⟩ : ∃ x : World, x = wr := ⟨_, rfl⟩
                              obtain ⟨jwH, rfl, hlowH, hhiwH, hphwH, hchgwH, hOwH⟩ := hrel
                              have HOwH := Lib.hid hOwH; clear hOwH
                              have HKwH := Lib.hid hphwH; clear hphwH
                              obtain ⟨c, hc⟩ : ∃ c, (decide (iwF ≤ jwH) && !ltTm dk[jwH]! dk[a]!) = c := ⟨_, rfl⟩
                              have HCC := Lib.hid hc; clear hc
                              go_upto_region 15 with fail
                              go_cut [139] from 123 to 139 (fun s wc => s = .bool c ∧ Below (World.heap wH).size wH wc)
                              case first =>
                                by_cases hle : iwF ≤ jwH
                                case neg =>
                                  go_wp2_with fail
                                  go_quiet (fail)
                                  go_wp2_with fail
                                  go_meet
                                  exact ⟨by rw [← HCC.out, decide_eq_false hle, Bool.false_and], bdrewN (Below.refl _ _) nq⟩
                                case pos =>
                                  have x1 : (0 : Int) ≤ (jwH : Int) := by omega
                                  have x2 : (jwH : Int) < (d.size : Int) := by omega
                                  have x3 : (0 : Int) ≤ (a : Int) := by omega
                                  have x4 : (a : Int) < (d.size : Int) := by omega
                                  have hbl := HKwH.out.lt (by have := HSE.out; omega)
                                  obtain ⟨p1, p2, p6, p3, p4, p7, p5⟩ := HKwH.out jwH (by have := HSE.out; omega)
                                  obtain ⟨q1, q2, q6, q3, q4, q7, q5⟩ := HKwH.out a (by have := HSE.out; omega)
                                  obtain ⟨pp, hpp⟩ : ∃ p, dk[jwH]! = p := ⟨_, rfl⟩
                                  obtain ⟨qq, hqq⟩ : ∃ p, dk[a]! = p := ⟨_, rfl⟩
                                  rw [hpp] at p1 p2 p6 p5
                                  rw [hqq] at q1 q2 q6 q5
                                  have HPP := Lib.hid hpp; have HQQ := Lib.hid hqq; clear hpp hqq
                                  have hcmp := fun w => cmpTm_c pp qq w p5 q5
                                  unfold tmV at hcmp
                                  have HCMP := Lib.hid hcmp; clear hcmp
                                  go_wp2_with fail
                                  go_region_held3 (fun w' => (w'.cell? ⟨blk, off + jwH * 3, none⟩ = some (.int .i64 pp.i) ∧ w'.cell? ⟨blk, off + jwH * 3 + 1, none⟩ = some (.int .i64 pp.j) ∧ w'.cell? ⟨blk, off + jwH * 3 + 2, none⟩ = some (.int .i64 pp.c)) ∧ w'.cell? ⟨blk, off + a * 3, none⟩ = some (.int .i64 qq.i) ∧ w'.cell? ⟨blk, off + a * 3 + 1, none⟩ = some (.int .i64 qq.j) ∧ w'.cell? ⟨blk, off + a * 3 + 2, none⟩ = some (.int .i64 qq.c)) (exact ⟨⟨by assumption, by assumption, by assumption⟩, by assumption, by assumption, by assumption⟩)
                                    (first
                                      | (go_at_call 57; (with_reducible refine (HCMP.out _).mono ?_); rintro e W1 ⟨⟨r, rfl, hr⟩, hw1⟩; have m1 := bcell hw1 hbl p1; have m2 := bcell hw1 hbl p2; have m3 := bcell hw1 hbl q1; have m4 := bcell hw1 hbl q2; have m5 := bcell hw1 hbl p6; have m6 := bcell hw1 hbl q6))
                                  clear HCMP
                                  go_wp2_with fail
                                  go_meet
                                  exact ⟨by rw [← HCC.out, decide_eq_true hle, Bool.true_and, HPP.out, HQQ.out], (Below.refl _ _).drew.trans hw1⟩
                              case rest =>
                                obtain ⟨rfl, hbc⟩ := hcut
                                obtain ⟨wI, rfl⟩ : ∃ x : World, x = wc := ⟨_, rfl⟩
                                have HKwI := Lib.hid (HKwH.out.below hbc)
                                have hchgwI := hchgwH.trans (Chg.of_below hbc)
                                clear hbc
                                cases c
                                case true =>
                                  have hle : iwF ≤ jwH := by have := (Bool.and_eq_true_iff.1 HCC.out).1; simpa using this
                                  obtain ⟨kk, hkk⟩ : ∃ kk, jwH = kk + 1 := ⟨jwH - 1, by omega⟩
                                  have e9 : (jwH : Int) - 1 = (kk : Int) := by omega
                                  have HKK := Lib.hid hkk; clear hkk
                                  go_wp2_with fail
                                  go_roundw
                                  case rel => first | exact ⟨kk, by first | rfl | go_num, by have := HKK.out; omega, by have := HKK.out; omega, HKwI.out, hchgwI, by rw [← scanDown_go HKK.out HCC.out]; exact HOwH.out⟩ | ((repeat apply Exists.intro); exact ⟨⟨kk, by first | rfl | go_num, by have := HKK.out; omega, by have := HKK.out; omega, HKwI.out, hchgwI, by rw [← scanDown_go HKK.out HCC.out]; exact HOwH.out⟩, rfl⟩)
                                  case measure => simp [intOf]; have := HKK.out; omega
                                case false =>
                                  have hX : jwH = JD2 := by rw [← HOwH.out, scanDown_stop HCC.out]
                                  clear HCC
                                  subst hX
                                  have hhiA : jwH ≤ j := by omega
                                  by_cases hgt2 : jwH < iwF
                                  case pos =>
                                    have hRR : RR = (jwH, dk) := by rw [← HPL.out]; exact partLoop_stop HIU2.out HJD2.out hgt2
                                    obtain rfl := hRR
                                    go_upto_region 21 with fail
                                    go_cut [] from 163 to 163 (fun wc => PH wc blk off (swp dk jwH a) ∧ Chg blk w wc)
                                    case first =>
                                      obtain ⟨p1, p2, p6, p3, p4, p7, _⟩ := HKwI.out jwH (by have := HSE.out; omega)
                                      obtain ⟨q1, q2, q6, q3, q4, q7, _⟩ := HKwI.out a (by have := HSE.out; omega)
                                      obtain ⟨pp, hpp⟩ : ∃ p, dk[jwH]! = p := ⟨_, rfl⟩
                                      obtain ⟨qq, hqq⟩ : ∃ p, dk[a]! = p := ⟨_, rfl⟩
                                      rw [hpp] at p1 p2 p6
                                      rw [hqq] at q1 q2 q6
                                      have HPP := Lib.hid hpp; have HQQ := Lib.hid hqq; clear hpp hqq
                                      have x1 : (0 : Int) ≤ (jwH : Int) := by omega
                                      have x2 : (jwH : Int) < (d.size : Int) := by omega
                                      have x3 : (0 : Int) ≤ (a : Int) := by omega
                                      have x4 : (a : Int) < (d.size : Int) := by omega
                                      by_cases hij : jwH = a
                                      case pos =>
                                        obtain rfl : pp = qq := HPP.out.symm.trans ((congrArg (fun x => dk[x]!) hij).trans HQQ.out)
                                        subst hij
                                        clear HQQ
                                        have hSW := HKwI.out.swap (i := jwH) (j := jwH) (by have := HSE.out; omega) (by have := HSE.out; omega)
                                        have hSC := swapW_chg wI blk off dk[jwH]! dk[jwH]! jwH jwH
                                        rw [HPP.out] at hSW hSC
                                        unfold swapW at hSW hSC
                                        have HSW := Lib.hid hSW; have HSC := Lib.hid hSC; clear hSW hSC
                                        go_wp2_with fail
                                        go_region
                                        go_wp2_with fail
                                        go_meet
                                        exact ⟨HSW.out.drew, (hchgwI.trans HSC.out).trans (Chg.drew _ _)⟩
                                      case neg =>
                                        have hSW := HKwI.out.swap (i := jwH) (j := a) (by have := HSE.out; omega) (by have := HSE.out; omega)
                                        have hSC := swapW_chg wI blk off dk[jwH]! dk[a]! jwH a
                                        rw [HPP.out, HQQ.out] at hSW hSC
                                        unfold swapW at hSW hSC
                                        have HSW := Lib.hid hSW; have HSC := Lib.hid hSC; clear hSW hSC
                                        go_wp2_with fail
                                        go_region
                                        go_wp2_with fail
                                        go_meet
                                        exact ⟨HSW.out.drew, (hchgwI.trans HSC.out).trans (Chg.drew _ _)⟩
                                    case rest =>
                                      obtain ⟨hph7, hchg7⟩ := hcut
                                      obtain ⟨w7, rfl⟩ : ∃ x : World, x = wc := ⟨_, rfl⟩
                                      have hs7 : (swp dk jwH a).size = d.size := (size_swp _ _ _).trans HSE.out
                                      obtain ⟨D7, hD2⟩ : ∃ D2, swp dk jwH a = D2 := ⟨_, rfl⟩
                                      rw [hD2] at hph7 hs7
                                      have HK7 := Lib.hid hph7; have HS7 := Lib.hid hs7; have HD7 := Lib.hid hD2; clear hph7 hs7 hD2
                                      have hR2 : R = (jwH, false, D7) := by rw [← HR.out]; exact (partition_late (r := (jwH, dk)) HD0.out (by rw [HB1.out, HA1.out]; exact HIU.out) (by rw [HB1.out]; exact HJD.out) hgt (by rw [HJK.out, HD6.out]; exact HRR.out)).trans (by show (jwH, false, swp dk jwH a) = _; rw [HD7.out])
                                      obtain rfl := hR2
                                      go_wp2_with fail
                                      go_ret2
                                      exact ⟨rfl, HK7.out, hchg7, HS7.out⟩
                                  case neg =>
                                    go_upto_region 18 with fail
                                    go_cut [] from 145 to 145 (fun wc => PH wc blk off (swp dk iwF jwH) ∧ Chg blk w wc)
                                    case first =>
                                      obtain ⟨p1, p2, p6, p3, p4, p7, _⟩ := HKwI.out iwF (by have := HSE.out; omega)
                                      obtain ⟨q1, q2, q6, q3, q4, q7, _⟩ := HKwI.out jwH (by have := HSE.out; omega)
                                      obtain ⟨pp, hpp⟩ : ∃ p, dk[iwF]! = p := ⟨_, rfl⟩
                                      obtain ⟨qq, hqq⟩ : ∃ p, dk[jwH]! = p := ⟨_, rfl⟩
                                      rw [hpp] at p1 p2 p6
                                      rw [hqq] at q1 q2 q6
                                      have HPP := Lib.hid hpp; have HQQ := Lib.hid hqq; clear hpp hqq
                                      have x1 : (0 : Int) ≤ (iwF : Int) := by omega
                                      have x2 : (iwF : Int) < (d.size : Int) := by omega
                                      have x3 : (0 : Int) ≤ (jwH : Int) := by omega
                                      have x4 : (jwH : Int) < (d.size : Int) := by omega
                                      by_cases hij : iwF = jwH
                                      case pos =>
                                        obtain rfl : pp = qq := HPP.out.symm.trans ((congrArg (fun x => dk[x]!) hij).trans HQQ.out)
                                        subst hij
                                        clear HQQ
                                        have hSW := HKwI.out.swap (i := iwF) (j := iwF) (by have := HSE.out; omega) (by have := HSE.out; omega)
                                        have hSC := swapW_chg wI blk off dk[iwF]! dk[iwF]! iwF iwF
                                        rw [HPP.out] at hSW hSC
                                        unfold swapW at hSW hSC
                                        have HSW := Lib.hid hSW; have HSC := Lib.hid hSC; clear hSW hSC
                                        go_wp2_with fail
                                        go_region
                                        go_wp2_with fail
                                        go_meet
                                        exact ⟨HSW.out.drew, (hchgwI.trans HSC.out).trans (Chg.drew _ _)⟩
                                      case neg =>
                                        have hSW := HKwI.out.swap (i := iwF) (j := jwH) (by have := HSE.out; omega) (by have := HSE.out; omega)
                                        have hSC := swapW_chg wI blk off dk[iwF]! dk[jwH]! iwF jwH
                                        rw [HPP.out, HQQ.out] at hSW hSC
                                        unfold swapW at hSW hSC
                                        have HSW := Lib.hid hSW; have HSC := Lib.hid hSC; clear hSW hSC
                                        go_wp2_with fail
                                        go_region
                                        go_wp2_with fail
                                        go_meet
                                        exact ⟨HSW.out.drew, (hchgwI.trans HSC.out).trans (Chg.drew _ _)⟩
                                    case rest =>
                                      obtain ⟨hph7, hchg7⟩ := hcut
                                      obtain ⟨w7, rfl⟩ : ∃ x : World, x = wc := ⟨_, rfl⟩
                                      have hs7 : (swp dk iwF jwH).size = d.size := (size_swp _ _ _).trans HSE.out
                                      obtain ⟨D7, hD2⟩ : ∃ D2, swp dk iwF jwH = D2 := ⟨_, rfl⟩
                                      rw [hD2] at hph7 hs7
                                      have HK7 := Lib.hid hph7; have HS7 := Lib.hid hs7; have HD7 := Lib.hid hD2; clear hph7 hs7 hD2
                                      obtain ⟨k2, hk2⟩ : ∃ k2, jwH = k2 + 1 := ⟨jwH - 1, by omega⟩
                                      have e8 : (jwH : Int) - 1 = (k2 : Int) := by omega
                                      have HK2 := Lib.hid hk2; clear hk2
                                      go_wp2_with fail
                                      go_roundw
                                      case rel => first | exact ⟨iwF + 1, k2, D7, by go_num, by first | rfl | go_num, by omega, by omega, by have := HK2.out; omega, by have := HK2.out; omega, HS7.out, HK7.out, hchg7, by rw [← HPL.out, partLoop_go HIU2.out HJD2.out hgt2 hlowA hhiA, HD7.out, show jwH - 1 = k2 by have := HK2.out; omega]⟩ | ((repeat apply Exists.intro); exact ⟨⟨iwF + 1, k2, D7, by go_num, by first | rfl | go_num, by omega, by omega, by have := HK2.out; omega, by have := HK2.out; omega, HS7.out, HK7.out, hchg7, by rw [← HPL.out, partLoop_go HIU2.out HJD2.out hgt2 hlowA hhiA, HD7.out, show jwH - 1 = k2 by have := HK2.out; omega]⟩, rfl⟩)
                                      case measure => simp [intOf]; have := HK2.out; omega


end TmsSort
end Go.Proofs.YtbafgmicpopnoaaGreatDoor
