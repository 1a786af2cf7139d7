/-
  The library's heap sort over terms. Printed by gen_sort.py.
-/
import Derived.Test.YtbafgmicpopnoaaGreatDoorTmsQ
import Derived.Deep.DeepCutAuto
namespace Go.Proofs.YtbafgmicpopnoaaGreatDoor
namespace TmsSort
open Go.RowKit
open Go.Sort (SWO swp swp_left swp_right swp_other size_swp insInner insOuter Hint)

theorem sift_stop {hi first root : Nat} {d : Array Tm} (h : hi ≤ 2 * root + 1) : Sort.siftDown ltTm hi first root d = d := by rw [Sort.siftDown, dif_pos h]
theorem sift_left {hi first root C FR FC : Nat} {d : Array Tm} (hC : 2 * root + 1 = C) (hch : C < hi) (hFR : first + root = FR) (hFC : first + C = FC) (h : ¬ C + 1 < hi ∨ ltTm d[FC]! d[FC + 1]! = false) :
    Sort.siftDown ltTm hi first root d = if ltTm d[FR]! d[FC]! then Sort.siftDown ltTm hi first C (swp d FR FC) else d := by
  subst hC; subst hFR; subst hFC
  rw [Sort.siftDown, dif_neg (by omega)]
  have e : (decide (2 * root + 1 + 1 < hi) && ltTm d[first + (2 * root + 1)]! d[first + (2 * root + 1) + 1]!) = false := by
    rcases h with h | h
    · simp; omega
    · rw [h, Bool.and_false]
  rw [e]
  simp only [Bool.false_eq_true, if_false]
  cases ltTm d[first + root]! d[first + (2 * root + 1)]! <;> simp
theorem sift_right {hi first root C FR FD : Nat} {d : Array Tm} (hC : 2 * root + 1 = C) (hch : C + 1 < hi) (hFR : first + root = FR) (hFD : first + C + 1 = FD) (h : ltTm d[first + C]! d[FD]! = true) :
    Sort.siftDown ltTm hi first root d = if ltTm d[FR]! d[FD]! then Sort.siftDown ltTm hi first (C + 1) (swp d FR FD) else d := by
  subst hC; subst hFR; subst hFD
  rw [Sort.siftDown, dif_neg (by omega)]
  have e : (decide (2 * root + 1 + 1 < hi) && ltTm d[first + (2 * root + 1)]! d[first + (2 * root + 1) + 1]!) = true := by rw [h]; simp; omega
  rw [e]
  simp only [if_true]
  rw [show first + (2 * root + 2) = first + (2 * root + 1) + 1 by omega, show 2 * root + 2 = 2 * root + 1 + 1 by omega, dif_pos hch]
  cases ltTm d[first + root]! d[first + (2 * root + 1) + 1]! <;> simp

set_option maxHeartbeats 3200000 in
set_option maxRecDepth 100000 in
theorem siftDown_c (blk off cap lo hi first : Nat) (d : Array Tm) (w : World) (hH : PH w blk off d) (hlo : lo ≤ d.size) (hb : first + hi ≤ d.size) (hsz : d.size < 2305843009213693952) :
    Calls Tryz.prog 110 #[.slice (some ⟨blk, off, none⟩) d.size cap, .int .i64 lo, .int .i64 hi, .int .i64 first, cmpV] w (SortsTo w blk off d.size (Sort.siftDown ltTm hi first lo d)) := by
  have HP := Lib.hid hH; clear hH
  unfold cmpV
  go_enter Tryz.func110, Tryz.ntmps110
  go_wp2_with fail
  go_loopw [10] (fun v wr => ∃ (root : Nat) (dk : Array Tm), v = .int .i64 root ∧ root ≤ d.size ∧ dk.size = d.size ∧ PH wr blk off dk ∧ Chg blk w wr ∧ Sort.siftDown ltTm hi first root dk = Sort.siftDown ltTm hi first lo d) (fun v _ => hi - (intOf v).toNat)
  case atStart => exact ⟨lo, d, rfl, hlo, rfl, HP.out, Chg.refl _ _, rfl⟩
  case round =>
    obtain ⟨root, dk, rfl, hrb, hsk, hph, hchg, hO⟩ := hrel
    have HO := Lib.hid hO; clear hO
    have HK := Lib.hid hph; clear hph
    have HSK := Lib.hid hsk; clear hsk
    obtain ⟨C, hC⟩ : ∃ C, 2 * root + 1 = C := ⟨_, rfl⟩
    have eC : 2 * (root : Int) + 1 = (C : Int) := by omega
    by_cases hch : C < hi
    case neg =>
      have hst := sift_stop (hi := hi) (first := first) (root := root) (d := dk) (by omega)
      have HST := Lib.hid hst; clear hst hC
      go_wp2_with fail
      go_end0
      refine ⟨rfl, ?_, hchg, ?_⟩
      all_goals rw [← HO.out, HST.out]
      · exact HK.out
      · exact HSK.out
    case pos =>
      obtain ⟨FR, hFR⟩ : ∃ FR, first + root = FR := ⟨_, rfl⟩
      obtain ⟨FC, hFC⟩ : ∃ FC, first + C = FC := ⟨_, rfl⟩
      have eFR : (first : Int) + (root : Int) = (FR : Int) := by omega
      have eFC : (first : Int) + (C : Int) = (FC : Int) := by omega
      have x1 : (0 : Int) ≤ (FR : Int) := by omega
      have x2 : (FR : Int) < (d.size : Int) := by omega
      have x3 : (0 : Int) ≤ (FC : Int) := by omega
      have x4 : (FC : Int) < (d.size : Int) := by omega
      obtain ⟨D, hD⟩ : ∃ D, C + 1 = D := ⟨_, rfl⟩
      have eD : (C : Int) + 1 = (D : Int) := by omega
      have w1' : IntKind.i64.wrap (D : Int) = (D : Int) := i64_small (by omega) (by omega)
      have w2' : IntKind.i64.wrap (FR : Int) = (FR : Int) := i64_small (by omega) (by omega)
      have w3' : IntKind.i64.wrap (FC : Int) = (FC : Int) := i64_small (by omega) (by omega)
      have w4' : IntKind.i64.wrap (C : Int) = (C : Int) := i64_small (by omega) (by omega)
      have HC := Lib.hid hC; have HFR := Lib.hid hFR; have HFC := Lib.hid hFC; have HD := Lib.hid hD; clear hC hFR hFC hD
      by_cases h2 : D < hi
      case neg =>
        go_wp2_with fail
        go_quiet (fail)
        have HK2 := Lib.hid (HK.out.below (bdrewN (Below.refl _ _) nq))
        have hc2 := hchg.trans (Chg.drewN _ _ nq)
        have H2 := Lib.hid (show ¬ C + 1 < hi by have := HD.out; omega)
        generalize wr.drewN nq = W0 at HK2 hc2 ⊢
        obtain ⟨p1, p2, p6, p3, p4, p7, p5⟩ := HK2.out FR (by have := HSK.out; omega)
        obtain ⟨q1, q2, q6, q3, q4, q7, q5⟩ := HK2.out FC (by have := HSK.out; omega)
        have hbl := HK2.out.lt (by have := HSK.out; omega)
        obtain ⟨pp, hpp⟩ : ∃ p, dk[FR]! = p := ⟨_, rfl⟩
        obtain ⟨qq, hqq⟩ : ∃ p, dk[FC]! = p := ⟨_, rfl⟩
        rw [hpp] at p1 p2 p6 p5
        rw [hqq] at q1 q2 q6 q5
        have HPP := Lib.hid hpp; have HQQ := Lib.hid hqq; clear hpp hqq
        have hcmp := fun w => cmpTm_c pp qq w p5 q5
        unfold tmV at hcmp
        have HCMP := Lib.hid hcmp; clear hcmp
        go_wp2_with fail
        go_region_held3 (fun w' => (w'.cell? ⟨blk, off + FR * 3, none⟩ = some (.int .i64 pp.i) ∧ w'.cell? ⟨blk, off + FR * 3 + 1, none⟩ = some (.int .i64 pp.j) ∧ w'.cell? ⟨blk, off + FR * 3 + 2, none⟩ = some (.int .i64 pp.c)) ∧ w'.cell? ⟨blk, off + FC * 3, none⟩ = some (.int .i64 qq.i) ∧ w'.cell? ⟨blk, off + FC * 3 + 1, none⟩ = some (.int .i64 qq.j) ∧ w'.cell? ⟨blk, off + FC * 3 + 2, none⟩ = some (.int .i64 qq.c)) (exact ⟨⟨by assumption, by assumption, by assumption⟩, by assumption, by assumption, by assumption⟩)
          (first
            | (go_at_call 57; (with_reducible refine (HCMP.out _).mono ?_); rintro e W2 ⟨⟨r, rfl, hr⟩, hw1⟩; have m1 := bcell hw1 hbl p1; have m2 := bcell hw1 hbl p2; have m3 := bcell hw1 hbl q1; have m4 := bcell hw1 hbl q2; have m5 := bcell hw1 hbl p6; have m6 := bcell hw1 hbl q6))
        clear HCMP
        have hb2 : Below (World.heap W0).size W0 W2 := (Below.refl _ _).drew.trans hw1
        have HK3 := Lib.hid (HK2.out.below hb2)
        have hc3 := hc2.trans (Chg.of_below hb2)
        clear hw1 m1 m2 m3 m4 m5 m6 p1 p2 p3 p4 p6 p7 q1 q2 q3 q4 q6 q7 hb2
        obtain ⟨p1, p2, p6, p3, p4, p7, _⟩ := HK3.out FR (by have := HSK.out; omega)
        obtain ⟨q1, q2, q6, q3, q4, q7, _⟩ := HK3.out FC (by have := HSK.out; omega)
        rw [HPP.out] at p1 p2 p6
        rw [HQQ.out] at q1 q2 q6
        have HR3 := Lib.hid hr; clear hr
        generalize hcd : ltTm pp qq = c2 at HR3 ⊢
        have HCD := Lib.hid hcd; clear hcd
        have HE := Lib.hid (show Sort.siftDown ltTm hi first root dk = if c2 then Sort.siftDown ltTm hi first C (swp dk FR FC) else dk from by rw [sift_left HC.out hch HFR.out HFC.out (Or.inl H2.out), HPP.out, HQQ.out, HCD.out])
        cases c2
        case false =>
          go_wp2_with fail
          go_end0
          refine ⟨rfl, ?_, hc3, ?_⟩
          all_goals rw [← HO.out, HE.out]
          · exact HK3.out
          · exact HSK.out
        case true =>
          have hSW := HK3.out.swap (i := FR) (j := FC) (by have := HSK.out; omega) (by have := HSK.out; omega)
          have hSC := swapW_chg W2 blk off dk[FR]! dk[FC]! FR FC
          rw [HPP.out, HQQ.out] at hSW hSC
          unfold swapW at hSW hSC
          have HSW := Lib.hid hSW; have HSC := Lib.hid hSC; clear hSW hSC
          go_wp2_with fail
          go_region
          go_wp2_with fail
          go_roundw
          case rel => exact ⟨C, swp dk FR FC, by first | rfl | go_num, by omega, by rw [size_swp]; exact HSK.out, HSW.out.drew, (hc3.trans HSC.out).trans (Chg.drew _ _), by rw [← HO.out, HE.out]; rfl⟩
          case measure => simp [intOf]; have := HC.out; omega
      case pos =>
        obtain ⟨FD, hFD⟩ : ∃ FD, FC + 1 = FD := ⟨_, rfl⟩
        have eFD : (FC : Int) + 1 = (FD : Int) := by omega
        have eFD2 : (first : Int) + (D : Int) = (FD : Int) := by have := HFC.out; have := HD.out; omega
        have x5 : (0 : Int) ≤ (FD : Int) := by omega
        have x6 : (FD : Int) < (d.size : Int) := by have := HFC.out; have := HD.out; omega
        have w5' : IntKind.i64.wrap (FD : Int) = (FD : Int) := i64_small (by omega) (by omega)
        have HFD := Lib.hid hFD; clear hFD
        obtain ⟨p1, p2, p6, p3, p4, p7, p5⟩ := HK.out FC (by have := HSK.out; omega)
        obtain ⟨q1, q2, q6, q3, q4, q7, q5⟩ := HK.out FD (by have := HSK.out; omega)
        have hbl := HK.out.lt (by have := HSK.out; omega)
        obtain ⟨pp, hpp⟩ : ∃ p, dk[FC]! = p := ⟨_, rfl⟩
        obtain ⟨qq, hqq⟩ : ∃ p, dk[FD]! = p := ⟨_, rfl⟩
        rw [hpp] at p1 p2 p6 p5
        rw [hqq] at q1 q2 q6 q5
        have HPP := Lib.hid hpp; have HQQ := Lib.hid hqq; clear hpp hqq
        have hcmp := fun w => cmpTm_c pp qq w p5 q5
        unfold tmV at hcmp
        have HCMP := Lib.hid hcmp; clear hcmp
        go_wp2_with fail
        go_region_held3 (fun w' => (w'.cell? ⟨blk, off + FC * 3, none⟩ = some (.int .i64 pp.i) ∧ w'.cell? ⟨blk, off + FC * 3 + 1, none⟩ = some (.int .i64 pp.j) ∧ w'.cell? ⟨blk, off + FC * 3 + 2, none⟩ = some (.int .i64 pp.c)) ∧ w'.cell? ⟨blk, off + FD * 3, none⟩ = some (.int .i64 qq.i) ∧ w'.cell? ⟨blk, off + FD * 3 + 1, none⟩ = some (.int .i64 qq.j) ∧ w'.cell? ⟨blk, off + FD * 3 + 2, none⟩ = some (.int .i64 qq.c)) (exact ⟨⟨by assumption, by assumption, by assumption⟩, by assumption, by assumption, by assumption⟩)
          (first
            | (go_at_call 57; (with_reducible refine (HCMP.out _).mono ?_); rintro e W1 ⟨⟨r, rfl, hr⟩, hw1⟩; have m1 := bcell hw1 hbl p1; have m2 := bcell hw1 hbl p2; have m3 := bcell hw1 hbl q1; have m4 := bcell hw1 hbl q2; have m5 := bcell hw1 hbl p6; have m6 := bcell hw1 hbl q6))
        clear HCMP
        have hb1 : Below wr.heap.size wr W1 := (Below.refl _ _).drew.trans hw1
        have HK2 := Lib.hid (HK.out.below hb1)
        have hc2 := hchg.trans (Chg.of_below hb1)
        clear hw1 m1 m2 m3 m4 m5 m6 p1 p2 p3 p4 p6 p7 q1 q2 q3 q4 q6 q7 p5 q5 hb1
        have HR2 := Lib.hid hr; clear hr
        generalize hcc : ltTm pp qq = c at HR2 ⊢
        have HCC := Lib.hid (show ltTm dk[FC]! dk[FD]! = c by rw [HPP.out, HQQ.out, hcc]); clear hcc HPP HQQ
        cases c
        case false =>
          obtain ⟨p1, p2, p6, p3, p4, p7, p5⟩ := HK2.out FR (by have := HSK.out; omega)
          obtain ⟨q1, q2, q6, q3, q4, q7, q5⟩ := HK2.out FC (by have := HSK.out; omega)
          have hbl := HK2.out.lt (by have := HSK.out; omega)
          obtain ⟨pp, hpp⟩ : ∃ p, dk[FR]! = p := ⟨_, rfl⟩
          obtain ⟨qq, hqq⟩ : ∃ p, dk[FC]! = p := ⟨_, rfl⟩
          rw [hpp] at p1 p2 p6 p5
          rw [hqq] at q1 q2 q6 q5
          have HPP := Lib.hid hpp; have HQQ := Lib.hid hqq; clear hpp hqq
          have hcmp := fun w => cmpTm_c pp qq w p5 q5
          unfold tmV at hcmp
          have HCMP := Lib.hid hcmp; clear hcmp
          go_wp2_with fail
          go_region_held3 (fun w' => (w'.cell? ⟨blk, off + FR * 3, none⟩ = some (.int .i64 pp.i) ∧ w'.cell? ⟨blk, off + FR * 3 + 1, none⟩ = some (.int .i64 pp.j) ∧ w'.cell? ⟨blk, off + FR * 3 + 2, none⟩ = some (.int .i64 pp.c)) ∧ w'.cell? ⟨blk, off + FC * 3, none⟩ = some (.int .i64 qq.i) ∧ w'.cell? ⟨blk, off + FC * 3 + 1, none⟩ = some (.int .i64 qq.j) ∧ w'.cell? ⟨blk, off + FC * 3 + 2, none⟩ = some (.int .i64 qq.c)) (exact ⟨⟨by assumption, by assumption, by assumption⟩, by assumption, by assumption, by assumption⟩)
            (first
              | (go_at_call 57; (with_reducible refine (HCMP.out _).mono ?_); rintro e W2 ⟨⟨r, rfl, hr⟩, hw1⟩; have m1 := bcell hw1 hbl p1; have m2 := bcell hw1 hbl p2; have m3 := bcell hw1 hbl q1; have m4 := bcell hw1 hbl q2; have m5 := bcell hw1 hbl p6; have m6 := bcell hw1 hbl q6))
          clear HCMP
          have hb2 : Below (World.heap W1).size W1 W2 := (Below.refl _ _).drew.trans hw1
          have HK3 := Lib.hid (HK2.out.below hb2)
          have hc3 := hc2.trans (Chg.of_below hb2)
          clear hw1 m1 m2 m3 m4 m5 m6 p1 p2 p3 p4 p6 p7 q1 q2 q3 q4 q6 q7 hb2
          obtain ⟨p1, p2, p6, p3, p4, p7, _⟩ := HK3.out FR (by have := HSK.out; omega)
          obtain ⟨q1, q2, q6, q3, q4, q7, _⟩ := HK3.out FC (by have := HSK.out; omega)
          rw [HPP.out] at p1 p2 p6
          rw [HQQ.out] at q1 q2 q6
          have HR3 := Lib.hid hr; clear hr
          generalize hcd : ltTm pp qq = c2 at HR3 ⊢
          have HCD := Lib.hid hcd; clear hcd
          have HE := Lib.hid (show Sort.siftDown ltTm hi first root dk = if c2 then Sort.siftDown ltTm hi first C (swp dk FR FC) else dk from by rw [sift_left HC.out hch HFR.out HFC.out (Or.inr (by rw [HFD.out]; exact HCC.out)), HPP.out, HQQ.out, HCD.out])
          cases c2
          case false =>
            go_wp2_with fail
            go_end0
            refine ⟨rfl, ?_, hc3, ?_⟩
            all_goals rw [← HO.out, HE.out]
            · exact HK3.out
            · exact HSK.out
          case true =>
            have hSW := HK3.out.swap (i := FR) (j := FC) (by have := HSK.out; omega) (by have := HSK.out; omega)
            have hSC := swapW_chg W2 blk off dk[FR]! dk[FC]! FR FC
            rw [HPP.out, HQQ.out] at hSW hSC
            unfold swapW at hSW hSC
            have HSW := Lib.hid hSW; have HSC := Lib.hid hSC; clear hSW hSC
            go_wp2_with fail
            go_region
            go_wp2_with fail
            go_roundw
            case rel => exact ⟨C, swp dk FR FC, by first | rfl | go_num, by omega, by rw [size_swp]; exact HSK.out, HSW.out.drew, (hc3.trans HSC.out).trans (Chg.drew _ _), by rw [← HO.out, HE.out]; rfl⟩
            case measure => simp [intOf]; have := HC.out; omega
        case true =>
          obtain ⟨p1, p2, p6, p3, p4, p7, p5⟩ := HK2.out FR (by have := HSK.out; omega)
          obtain ⟨q1, q2, q6, q3, q4, q7, q5⟩ := HK2.out FD (by have := HSK.out; omega)
          have hbl := HK2.out.lt (by have := HSK.out; omega)
          obtain ⟨pp, hpp⟩ : ∃ p, dk[FR]! = p := ⟨_, rfl⟩
          obtain ⟨qq, hqq⟩ : ∃ p, dk[FD]! = p := ⟨_, rfl⟩
          rw [hpp] at p1 p2 p6 p5
          rw [hqq] at q1 q2 q6 q5
          have HPP := Lib.hid hpp; have HQQ := Lib.hid hqq; clear hpp hqq
          have hcmp := fun w => cmpTm_c pp qq w p5 q5
          unfold tmV at hcmp
          have HCMP := Lib.hid hcmp; clear hcmp
          go_wp2_with fail
          go_region_held3 (fun w' => (w'.cell? ⟨blk, off + FR * 3, none⟩ = some (.int .i64 pp.i) ∧ w'.cell? ⟨blk, off + FR * 3 + 1, none⟩ = some (.int .i64 pp.j) ∧ w'.cell? ⟨blk, off + FR * 3 + 2, none⟩ = some (.int .i64 pp.c)) ∧ w'.cell? ⟨blk, off + FD * 3, none⟩ = some (.int .i64 qq.i) ∧ w'.cell? ⟨blk, off + FD * 3 + 1, none⟩ = some (.int .i64 qq.j) ∧ w'.cell? ⟨blk, off + FD * 3 + 2, none⟩ = some (.int .i64 qq.c)) (exact ⟨⟨by assumption, by assumption, by assumption⟩, by assumption, by assumption, by assumption⟩)
            (first
              | (go_at_call 57; (with_reducible refine (HCMP.out _).mono ?_); rintro e W2 ⟨⟨r, rfl, hr⟩, hw1⟩; have m1 := bcell hw1 hbl p1; have m2 := bcell hw1 hbl p2; have m3 := bcell hw1 hbl q1; have m4 := bcell hw1 hbl q2; have m5 := bcell hw1 hbl p6; have m6 := bcell hw1 hbl q6))
          clear HCMP
          have hb2 : Below (World.heap W1).size W1 W2 := (Below.refl _ _).drew.trans hw1
          have HK3 := Lib.hid (HK2.out.below hb2)
          have hc3 := hc2.trans (Chg.of_below hb2)
          clear hw1 m1 m2 m3 m4 m5 m6 p1 p2 p3 p4 p6 p7 q1 q2 q3 q4 q6 q7 hb2
          obtain ⟨p1, p2, p6, p3, p4, p7, _⟩ := HK3.out FR (by have := HSK.out; omega)
          obtain ⟨q1, q2, q6, q3, q4, q7, _⟩ := HK3.out FD (by have := HSK.out; omega)
          rw [HPP.out] at p1 p2 p6
          rw [HQQ.out] at q1 q2 q6
          have HR3 := Lib.hid hr; clear hr
          generalize hcd : ltTm pp qq = c2 at HR3 ⊢
          have HCD := Lib.hid hcd; clear hcd
          have HE := Lib.hid (show Sort.siftDown ltTm hi first root dk = if c2 then Sort.siftDown ltTm hi first D (swp dk FR FD) else dk from by rw [← HD.out, sift_right HC.out (by rw [HD.out]; exact h2) HFR.out (FD := FD) (by rw [HFC.out]; exact HFD.out) (by rw [HFC.out]; exact HCC.out), HPP.out, HQQ.out, HCD.out])
          cases c2
          case false =>
            go_wp2_with fail
            go_end0
            refine ⟨rfl, ?_, hc3, ?_⟩
            all_goals rw [← HO.out, HE.out]
            · exact HK3.out
            · exact HSK.out
          case true =>
            have hSW := HK3.out.swap (i := FR) (j := FD) (by have := HSK.out; omega) (by have := HSK.out; omega)
            have hSC := swapW_chg W2 blk off dk[FR]! dk[FD]! FR FD
            rw [HPP.out, HQQ.out] at hSW hSC
            unfold swapW at hSW hSC
            have HSW := Lib.hid hSW; have HSC := Lib.hid hSC; clear hSW hSC
            go_wp2_with fail
            go_region
            go_wp2_with fail
            go_roundw
            case rel => exact ⟨D, swp dk FR FD, by first | rfl | go_num, by omega, by rw [size_swp]; exact HSK.out, HSW.out.drew, (hc3.trans HSC.out).trans (Chg.drew _ _), by rw [← HO.out, HE.out]; rfl⟩
            case measure => simp [intOf]; have := HC.out; omega



end TmsSort
end Go.Proofs.YtbafgmicpopnoaaGreatDoor
