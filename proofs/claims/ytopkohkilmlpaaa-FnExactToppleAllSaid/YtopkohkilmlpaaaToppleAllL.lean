/-
  'laws.FnExactToppleAll' returns true at every input and leaves its arguments as they were: no condition.
-/
import Derived.Test.YtopkohkilmlpaaaTopR
import Derived.Test.YtopkohkilmlpaaaLaws2
import Derived.Test.YtopkohkilmlpaaaOpen
namespace Go.Proofs.Ytopkohkilmlpaaa
open Go.ChangeShapes Go.WideShapes Go.ChangeAt Go.RowKit

set_option maxHeartbeats 3200000 in
set_option maxRecDepth 100000 in
theorem lawToppleAll_any (x0 : Int) (ad1 : Option Addr) (cap1 : Nat) (ls1 : List Lk) (x2 : Int) (ad3 : Option Addr) (cap3 : Nat) (xs3 : List Int) (w : World) (hm1 : ls1.length ≤ 9223372036854775807) (hr1 : RdL w ad1 ls1) (hm3 : xs3.length ≤ 9223372036854775807) (hr3 : RdI w ad3 xs3) :
    Calls Try.prog 8 #[.int .i64 x0, .slice ad1 ls1.length cap1, .int .i64 x2, .slice ad3 xs3.length cap3] w fun e w' => e = .returned (.bool true) ∧ Below w.heap.size w w' := by
  by_cases hl3 : xs3.length ≤ 1048576
  case neg =>
    go_enter Try.func8, Try.ntmps8
    go_wp2
    go_ret
    exact ⟨rfl, Below.refl _ _⟩
  case pos =>
    by_cases hl1 : ls1.length ≤ 1048576
    case neg =>
      go_enter Try.func8, Try.ntmps8
      go_wp2_with fail
      refine (szLinkS_big ad1 ls1.length cap1 1048576 _ (by omega) (by omega) hm1 (by omega)).mono ?_
      rintro e w' ⟨rfl, rfl⟩
      go_wp2
      go_ret
      exact ⟨rfl, Below.refl _ _⟩
    case pos =>
      have HR3 := Lib.hid hr3; clear hr3
      have HR1 := Lib.hid hr1; clear hr1
      go_enter Try.func8, Try.ntmps8
      go_wp2_with fail
      refine (szLinkS_ok ad1 ls1.length cap1 1048576 _ (by omega) (by omega)).mono ?_
      rintro e w' ⟨rfl, rfl⟩
      have hs1 : (0 : Int) ≤ 1048576 - ls1.length := by omega
      have hlr0 : ((toppleR x0 ls1 x2 xs3).1).length ≤ 1048576 := toppleR_len.1
      have hlr1 : ((toppleR x0 ls1 x2 xs3).2.1).length ≤ 1048576 := toppleR_len.2
      go_wp2_with fail
      refine (toLinkS_any ad1 cap1 ls1 _ hl1 HR1.out).mono ?_
      rintro e w1 ⟨g1, rfl, hg1, ho1, hb1⟩
      have HO1 := Lib.hid ho1; clear ho1
      go_wp2_with fail
      refine (toIntS_any ad3 cap3 xs3 _ hl3 (HR3.out.below (ball (Below.refl _ _) hb1))).mono ?_
      rintro e w2 ⟨g2, rfl, hg2, ho2, hb2⟩
      have HO2 := Lib.hid ho2; clear ho2
      go_wp2_with fail
      refine (specTop_c x0 _ _ ls1 x2 _ _ xs3 _ hl1 (HO1.out.belowAll (ball (Below.refl _ _) hb2)).rdL hl3 HO2.out.rd).mono ?_
      rintro e w3 ⟨v1, u1, rfl, hv1, hu1, hvu1, hb3⟩
      have HV1 := Lib.hid hv1; clear hv1
      have HU1 := Lib.hid hu1; clear hu1
      have HVU1 := Lib.hid hvu1; clear hvu1
      go_wp2_with fail
      refine (toLinkS_any ad1 cap1 ls1 _ hl1 (HR1.out.below (ball (ball (ball (Below.refl _ _) hb1) hb2) hb3))).mono ?_
      rintro e w4 ⟨g3, rfl, hg3, ho3, hb4⟩
      have HO3 := Lib.hid ho3; clear ho3
      go_wp2_with fail
      refine (toIntS_any ad3 cap3 xs3 _ hl3 (HR3.out.below (ball (ball (ball (ball (Below.refl _ _) hb1) hb2) hb3) hb4))).mono ?_
      rintro e w5 ⟨g4, rfl, hg4, ho4, hb5⟩
      have HO4 := Lib.hid ho4; clear ho4
      have ltg3 := (HO3.out.belowAll (ball (Below.refl _ _) hb5)).lt
      have ltg4 := HO4.out.lt
      have neg4g3 := Nat.ne_of_gt (Nat.lt_of_lt_of_le HO3.out.lt hg4)
      go_wp2_with fail
      refine (implTop_c x0 _ _ ls1 x2 _ _ xs3 _ hl1 (HO3.out.belowAll (ball (Below.refl _ _) hb5)).rdL hl3 HO4.out.rd).mono ?_
      rintro e w6 ⟨v2, u2, rfl, hv2, hu2, hvu2, hb6⟩
      have HV2 := Lib.hid hv2; clear hv2
      have HU2 := Lib.hid hu2; clear hu2
      have HVU2 := Lib.hid hvu2; clear hvu2
      go_wp2_with fail
      refine (eqIntS_v _ _ (toppleR x0 ls1 x2 xs3).1 _ hlr0 HV2.out.rdV (HV1.out.below (ball (ball (ball (Below.refl _ _) hb4) hb5) hb6)).rdV).mono ?_
      rintro e w7 ⟨rfl, hb7⟩
      go_wp2_with fail
      refine (eqIntS_v _ _ (toppleR x0 ls1 x2 xs3).2.1 _ hlr1 (HU2.out.below (ball (Below.refl _ _) hb7)).rdV (HU1.out.below (ball (ball (ball (ball (Below.refl _ _) hb4) hb5) hb6) hb7)).rdV).mono ?_
      rintro e w8 ⟨rfl, hb8⟩
      go_wp2_with fail
      refine (toLinkS_any ad1 cap1 ls1 _ hl1 (HR1.out.below (ball (ball (ball (ball (ball (ball (ball (ball (Below.refl _ _) hb1) hb2) hb3) hb4) hb5) hb6) hb7) hb8))).mono ?_
      rintro e w9 ⟨g5, rfl, hg5, ho5, hb9⟩
      have HO5 := Lib.hid ho5; clear ho5
      go_wp2_with fail
      refine (eqLinkS_same _ _ _ _ ls1 _ hl1 (HO3.out.belowAll (ball (ball (ball (ball (ball (Below.refl _ _) hb5) hb6) hb7) hb8) hb9)).rdL HO5.out.rdL).mono ?_
      rintro e w10 ⟨rfl, hb10⟩
      go_wp2_with fail
      refine (toIntS_any ad3 cap3 xs3 _ hl3 (HR3.out.below (ball (ball (ball (ball (ball (ball (ball (ball (ball (ball (Below.refl _ _) hb1) hb2) hb3) hb4) hb5) hb6) hb7) hb8) hb9) hb10))).mono ?_
      rintro e w11 ⟨g6, rfl, hg6, ho6, hb11⟩
      have HO6 := Lib.hid ho6; clear ho6
      go_wp2_with fail
      refine (eqIntS_same _ _ _ _ xs3 _ hl3 (HO4.out.belowAll (ball (ball (ball (ball (ball (ball (Below.refl _ _) hb6) hb7) hb8) hb9) hb10) hb11)).rd HO6.out.rd).mono ?_
      rintro e w12 ⟨rfl, hb12⟩
      go_wp2_with fail
      refine (markLinkS_own g3 _ ls1 _ _ hl1 (by omega) (by omega) (HO3.out.belowAll (ball (ball (ball (ball (ball (ball (ball (ball (Below.refl _ _) hb5) hb6) hb7) hb8) hb9) hb10) hb11) hb12))).mono ?_
      rintro e w13 ⟨rfl, hc13⟩
      have HNg413 := Lib.hid ((HO4.out.belowAll (ball (ball (ball (ball (ball (ball (ball (Below.refl _ _) hb6) hb7) hb8) hb9) hb10) hb11) hb12)).chg hc13 neg4g3)
      have HNv213 := Lib.hid ((HV2.out.below (ball (ball (ball (ball (ball (ball (Below.refl _ _) hb7) hb8) hb9) hb10) hb11) hb12)).chg hc13 ltg3)
      have HNu213 := Lib.hid ((HU2.out.below (ball (ball (ball (ball (ball (ball (Below.refl _ _) hb7) hb8) hb9) hb10) hb11) hb12)).chg hc13 ltg3)
      go_wp2_with fail
      refine (markIntS_own g4 _ xs3 _ _ hl3 (by omega) (by omega) HNg413.out).mono ?_
      rintro e w14 ⟨rfl, hov14, hc14⟩
      clear hov14
      have HNv214 := Lib.hid (HNv213.out.chg hc14 ltg4)
      have HNu214 := Lib.hid (HNu213.out.chg hc14 ltg4)
      go_wp2_with fail
      refine (eqIntS_v _ _ (toppleR x0 ls1 x2 xs3).1 _ hlr0 HNv214.out.rdV (HV1.out.below (bchg (bchg (ball (ball (ball (ball (ball (ball (ball (ball (ball (Below.refl _ _) hb4) hb5) hb6) hb7) hb8) hb9) hb10) hb11) hb12) hc13 hg3 (Nat.le_trans (Nat.le_trans (Nat.le_trans (Nat.le_trans (Nat.le_trans (Nat.le_trans (Nat.le_trans (Nat.le_trans hb4.size hb5.size) hb6.size) hb7.size) hb8.size) hb9.size) hb10.size) hb11.size) hb12.size)) hc14 (Nat.le_trans hb4.size hg4) (Nat.le_trans (Nat.le_trans (Nat.le_trans (Nat.le_trans (Nat.le_trans (Nat.le_trans (Nat.le_trans (Nat.le_trans (Nat.le_trans hb4.size hb5.size) hb6.size) hb7.size) hb8.size) hb9.size) hb10.size) hb11.size) hb12.size) hc13.size))).rdV).mono ?_
      rintro e w15 ⟨rfl, hb15⟩
      go_wp2_with fail
      refine (eqIntS_v _ _ (toppleR x0 ls1 x2 xs3).2.1 _ hlr1 (HNu214.out.below (ball (Below.refl _ _) hb15)).rdV (HU1.out.below (ball (bchg (bchg (ball (ball (ball (ball (ball (ball (ball (ball (ball (Below.refl _ _) hb4) hb5) hb6) hb7) hb8) hb9) hb10) hb11) hb12) hc13 hg3 (Nat.le_trans (Nat.le_trans (Nat.le_trans (Nat.le_trans (Nat.le_trans (Nat.le_trans (Nat.le_trans (Nat.le_trans hb4.size hb5.size) hb6.size) hb7.size) hb8.size) hb9.size) hb10.size) hb11.size) hb12.size)) hc14 (Nat.le_trans hb4.size hg4) (Nat.le_trans (Nat.le_trans (Nat.le_trans (Nat.le_trans (Nat.le_trans (Nat.le_trans (Nat.le_trans (Nat.le_trans (Nat.le_trans hb4.size hb5.size) hb6.size) hb7.size) hb8.size) hb9.size) hb10.size) hb11.size) hb12.size) hc13.size)) hb15)).rdV).mono ?_
      rintro e w16 ⟨rfl, hb16⟩
      go_wp2_with fail
      refine (markIntS_resC w5.heap.size v2 (toppleR x0 ls1 x2 xs3).1 _ _ hlr0 (by omega) (by omega) (Nat.le_trans (Nat.le_trans (Nat.le_trans (Nat.le_trans (Nat.le_trans (Nat.le_trans (Nat.le_trans (Nat.le_trans (Nat.le_trans (Nat.le_trans hb6.size hb7.size) hb8.size) hb9.size) hb10.size) hb11.size) hb12.size) hc13.size) hc14.size) hb15.size) hb16.size) (HNv214.out.below (ball (ball (Below.refl _ _) hb15) hb16))).mono ?_
      rintro e w17 ⟨rfl, hq17, hb17, hpr17⟩
      have HQ17 := Lib.hid hq17; clear hq17
      have HOu217 := Lib.hid (hpr17 _ _ (HNu214.out.below (ball (ball (Below.refl _ _) hb15) hb16)) (fun p hp hp2 => HVU2.out p hp2 hp))
      clear hpr17
      go_wp2_with fail
      refine (markIntS_resC w5.heap.size u2 (toppleR x0 ls1 x2 xs3).2.1 _ _ hlr1 (by omega) (by omega) (Nat.le_trans (Nat.le_trans (Nat.le_trans (Nat.le_trans (Nat.le_trans (Nat.le_trans (Nat.le_trans (Nat.le_trans (Nat.le_trans (Nat.le_trans (Nat.le_trans hb6.size hb7.size) hb8.size) hb9.size) hb10.size) hb11.size) hb12.size) hc13.size) hc14.size) hb15.size) hb16.size) hb17.size) HOu217.out).mono ?_
      rintro e w18 ⟨rfl, hq18, hb18, hpr18⟩
      have HQ18 := Lib.hid hq18; clear hq18
      have HOv218 := Lib.hid (hpr18 _ _ HQ17.out HVU2.out)
      clear hpr18
      go_wp2_with fail
      refine (heldIntS_v v2 (toppleR x0 ls1 x2 xs3).1.length 1 _ hlr0 (by omega) (by omega) HOv218.out.rdV).mono ?_
      rintro e w' ⟨rfl, rfl⟩
      go_wp2_with fail
      refine (heldIntS_v u2 (toppleR x0 ls1 x2 xs3).2.1.length (1 + ((toppleR x0 ls1 x2 xs3).1.length : Int)) _ hlr1 (by omega) (by omega) HQ18.out.rdV).mono ?_
      rintro e w' ⟨rfl, rfl⟩
      go_wp2_with fail
      refine (toLinkS_any ad1 cap1 ls1 _ hl1 (HR1.out.below (((ball (ball (bchg (bchg (ball (ball (ball (ball (ball (ball (ball (ball (ball (ball (ball (ball (Below.refl _ _) hb1) hb2) hb3) hb4) hb5) hb6) hb7) hb8) hb9) hb10) hb11) hb12) hc13 (Nat.le_trans (Nat.le_trans (Nat.le_trans hb1.size hb2.size) hb3.size) hg3) (Nat.le_trans (Nat.le_trans (Nat.le_trans (Nat.le_trans (Nat.le_trans (Nat.le_trans (Nat.le_trans (Nat.le_trans (Nat.le_trans (Nat.le_trans (Nat.le_trans hb1.size hb2.size) hb3.size) hb4.size) hb5.size) hb6.size) hb7.size) hb8.size) hb9.size) hb10.size) hb11.size) hb12.size)) hc14 (Nat.le_trans (Nat.le_trans (Nat.le_trans (Nat.le_trans hb1.size hb2.size) hb3.size) hb4.size) hg4) (Nat.le_trans (Nat.le_trans (Nat.le_trans (Nat.le_trans (Nat.le_trans (Nat.le_trans (Nat.le_trans (Nat.le_trans (Nat.le_trans (Nat.le_trans (Nat.le_trans (Nat.le_trans hb1.size hb2.size) hb3.size) hb4.size) hb5.size) hb6.size) hb7.size) hb8.size) hb9.size) hb10.size) hb11.size) hb12.size) hc13.size)) hb15) hb16).trans (hb17.mono (Nat.le_trans (Nat.le_trans (Nat.le_trans (Nat.le_trans hb1.size hb2.size) hb3.size) hb4.size) hb5.size))).trans (hb18.mono (Nat.le_trans (Nat.le_trans (Nat.le_trans (Nat.le_trans hb1.size hb2.size) hb3.size) hb4.size) hb5.size))))).mono ?_
      rintro e w19 ⟨g7, rfl, hg7, ho7, hb19⟩
      have HO7 := Lib.hid ho7; clear ho7
      go_wp2_with fail
      refine (toIntS_any ad3 cap3 xs3 _ hl3 (HR3.out.below (ball (((ball (ball (bchg (bchg (ball (ball (ball (ball (ball (ball (ball (ball (ball (ball (ball (ball (Below.refl _ _) hb1) hb2) hb3) hb4) hb5) hb6) hb7) hb8) hb9) hb10) hb11) hb12) hc13 (Nat.le_trans (Nat.le_trans (Nat.le_trans hb1.size hb2.size) hb3.size) hg3) (Nat.le_trans (Nat.le_trans (Nat.le_trans (Nat.le_trans (Nat.le_trans (Nat.le_trans (Nat.le_trans (Nat.le_trans (Nat.le_trans (Nat.le_trans (Nat.le_trans hb1.size hb2.size) hb3.size) hb4.size) hb5.size) hb6.size) hb7.size) hb8.size) hb9.size) hb10.size) hb11.size) hb12.size)) hc14 (Nat.le_trans (Nat.le_trans (Nat.le_trans (Nat.le_trans hb1.size hb2.size) hb3.size) hb4.size) hg4) (Nat.le_trans (Nat.le_trans (Nat.le_trans (Nat.le_trans (Nat.le_trans (Nat.le_trans (Nat.le_trans (Nat.le_trans (Nat.le_trans (Nat.le_trans (Nat.le_trans (Nat.le_trans hb1.size hb2.size) hb3.size) hb4.size) hb5.size) hb6.size) hb7.size) hb8.size) hb9.size) hb10.size) hb11.size) hb12.size) hc13.size)) hb15) hb16).trans (hb17.mono (Nat.le_trans (Nat.le_trans (Nat.le_trans (Nat.le_trans hb1.size hb2.size) hb3.size) hb4.size) hb5.size))).trans (hb18.mono (Nat.le_trans (Nat.le_trans (Nat.le_trans (Nat.le_trans hb1.size hb2.size) hb3.size) hb4.size) hb5.size))) hb19))).mono ?_
      rintro e w20 ⟨g8, rfl, hg8, ho8, hb20⟩
      have HO8 := Lib.hid ho8; clear ho8
      go_wp2_with fail
      refine (implTop_c x0 _ _ ls1 x2 _ _ xs3 _ hl1 (HO7.out.belowAll (ball (Below.refl _ _) hb20)).rdL hl3 HO8.out.rd).mono ?_
      rintro e w21 ⟨v3, u3, rfl, hv3, hu3, hvu3, hb21⟩
      have HV3 := Lib.hid hv3; clear hv3
      have HU3 := Lib.hid hu3; clear hu3
      have HVU3 := Lib.hid hvu3; clear hvu3
      go_wp2_with fail
      refine (eqIntS_v _ _ (toppleR x0 ls1 x2 xs3).1 _ hlr0 HV3.out.rdV (HV1.out.below (ball (ball (ball (((ball (ball (bchg (bchg (ball (ball (ball (ball (ball (ball (ball (ball (ball (Below.refl _ _) hb4) hb5) hb6) hb7) hb8) hb9) hb10) hb11) hb12) hc13 hg3 (Nat.le_trans (Nat.le_trans (Nat.le_trans (Nat.le_trans (Nat.le_trans (Nat.le_trans (Nat.le_trans (Nat.le_trans hb4.size hb5.size) hb6.size) hb7.size) hb8.size) hb9.size) hb10.size) hb11.size) hb12.size)) hc14 (Nat.le_trans hb4.size hg4) (Nat.le_trans (Nat.le_trans (Nat.le_trans (Nat.le_trans (Nat.le_trans (Nat.le_trans (Nat.le_trans (Nat.le_trans (Nat.le_trans hb4.size hb5.size) hb6.size) hb7.size) hb8.size) hb9.size) hb10.size) hb11.size) hb12.size) hc13.size)) hb15) hb16).trans (hb17.mono (Nat.le_trans hb4.size hb5.size))).trans (hb18.mono (Nat.le_trans hb4.size hb5.size))) hb19) hb20) hb21)).rdV).mono ?_
      rintro e w22 ⟨rfl, hb22⟩
      go_wp2_with fail
      refine (eqIntS_v _ _ (toppleR x0 ls1 x2 xs3).2.1 _ hlr1 (HU3.out.below (ball (Below.refl _ _) hb22)).rdV (HU1.out.below (ball (ball (ball (ball (((ball (ball (bchg (bchg (ball (ball (ball (ball (ball (ball (ball (ball (ball (Below.refl _ _) hb4) hb5) hb6) hb7) hb8) hb9) hb10) hb11) hb12) hc13 hg3 (Nat.le_trans (Nat.le_trans (Nat.le_trans (Nat.le_trans (Nat.le_trans (Nat.le_trans (Nat.le_trans (Nat.le_trans hb4.size hb5.size) hb6.size) hb7.size) hb8.size) hb9.size) hb10.size) hb11.size) hb12.size)) hc14 (Nat.le_trans hb4.size hg4) (Nat.le_trans (Nat.le_trans (Nat.le_trans (Nat.le_trans (Nat.le_trans (Nat.le_trans (Nat.le_trans (Nat.le_trans (Nat.le_trans hb4.size hb5.size) hb6.size) hb7.size) hb8.size) hb9.size) hb10.size) hb11.size) hb12.size) hc13.size)) hb15) hb16).trans (hb17.mono (Nat.le_trans hb4.size hb5.size))).trans (hb18.mono (Nat.le_trans hb4.size hb5.size))) hb19) hb20) hb21) hb22)).rdV).mono ?_
      rintro e w23 ⟨rfl, hb23⟩
      go_wp2_with fail
      refine (heldIntS_v v2 (toppleR x0 ls1 x2 xs3).1.length 1 _ hlr0 (by omega) (by omega) (HOv218.out.below (ball (ball (ball (ball (ball (Below.refl _ _) hb19) hb20) hb21) hb22) hb23)).rdV).mono ?_
      rintro e w' ⟨rfl, rfl⟩
      go_wp2_with fail
      refine (heldIntS_v u2 (toppleR x0 ls1 x2 xs3).2.1.length (1 + ((toppleR x0 ls1 x2 xs3).1.length : Int)) _ hlr1 (by omega) (by omega) (HQ18.out.below (ball (ball (ball (ball (ball (Below.refl _ _) hb19) hb20) hb21) hb22) hb23)).rdV).mono ?_
      rintro e w' ⟨rfl, rfl⟩
      go_wp2
      go_ret
      exact ⟨rfl, (ball (ball (ball (ball (ball (((ball (ball (bchg (bchg (ball (ball (ball (ball (ball (ball (ball (ball (ball (ball (ball (ball (Below.refl _ _) hb1) hb2) hb3) hb4) hb5) hb6) hb7) hb8) hb9) hb10) hb11) hb12) hc13 (Nat.le_trans (Nat.le_trans (Nat.le_trans hb1.size hb2.size) hb3.size) hg3) (Nat.le_trans (Nat.le_trans (Nat.le_trans (Nat.le_trans (Nat.le_trans (Nat.le_trans (Nat.le_trans (Nat.le_trans (Nat.le_trans (Nat.le_trans (Nat.le_trans hb1.size hb2.size) hb3.size) hb4.size) hb5.size) hb6.size) hb7.size) hb8.size) hb9.size) hb10.size) hb11.size) hb12.size)) hc14 (Nat.le_trans (Nat.le_trans (Nat.le_trans (Nat.le_trans hb1.size hb2.size) hb3.size) hb4.size) hg4) (Nat.le_trans (Nat.le_trans (Nat.le_trans (Nat.le_trans (Nat.le_trans (Nat.le_trans (Nat.le_trans (Nat.le_trans (Nat.le_trans (Nat.le_trans (Nat.le_trans (Nat.le_trans hb1.size hb2.size) hb3.size) hb4.size) hb5.size) hb6.size) hb7.size) hb8.size) hb9.size) hb10.size) hb11.size) hb12.size) hc13.size)) hb15) hb16).trans (hb17.mono (Nat.le_trans (Nat.le_trans (Nat.le_trans (Nat.le_trans hb1.size hb2.size) hb3.size) hb4.size) hb5.size))).trans (hb18.mono (Nat.le_trans (Nat.le_trans (Nat.le_trans (Nat.le_trans hb1.size hb2.size) hb3.size) hb4.size) hb5.size))) hb19) hb20) hb21) hb22) hb23)⟩

set_option maxRecDepth 100000 in
theorem toppleAll_lifted (os : Os) (started : os.Started) (H : Type) (enc : TypeId × Value → H) :
    ReturnsInHanded {} Try.checked os 8 .any (Rows.fnExactToppleAllSpec.pre6 enc Try.prog Try.f8 Rows.fnExactToppleAllRow.domain false) (Rows.fnExactToppleAllSpec.post enc Try.prog Try.f8 false true false false) := by
  refine returnsInHanded_of_change (C := Try.checked) Try.own started (by kernel_rfl) Try.func8
    (ChangeSpec.witness6 (enc := enc) (C := Try.checked) false ⟨#[], #[.int .i64 0, .slice none 0 0, .int .i64 0, .slice none 0 0], []⟩ 8 (by kernel_rfl) (by kernel_rfl) (by kernel_rfl) (by kernel_rfl)) ?_
  intro W base args ds gs before hval0 hW hcnd _
  have hval : ∀ (j : Nat) t v, Try.f8.params[j]? = some t → args[j]? = some v → Value.okWide Try.prog W .any base t v := hval0
  have hW' := hW
  obtain ⟨p, q, hA0, hV, rfl, hfz, hnd⟩ := hW
  have hA : DataW.TrodAll enc Try.prog W 0 (fun _ => true) true Try.f8.params.toList args.toList ds p := hA0
  rw [Try.params8] at hA hval
  obtain ⟨v0, v1, v2, v3, d0, d1, d2, d3, p0, p1, p2, p3, rfl, rfl, rfl, h0, h1, h2, h3⟩ := trodAll_four hA
  obtain ⟨rfl, rfl⟩ := trodVars_none hV
  obtain ⟨x0, rfl, rfl, rfl, wx0⟩ := open_int Try.underlying3 (hval 0 3 v0 rfl rfl) h0
  obtain ⟨a1, len1, cap1, rfl⟩ := okWide_slice Try.underlying22 (hval 1 22 v1 rfl rfl)
  obtain ⟨x2, rfl, rfl, rfl, wx2⟩ := open_int Try.underlying3 (hval 2 3 v2 rfl rfl) h2
  obtain ⟨a3, len3, cap3, rfl⟩ := okWide_slice Try.underlying23 (hval 3 23 v3 rfl rfl)
  clear hA0 hval0
  simp only [List.append_nil, List.nil_append] at hW'
  have lt1 : ∀ x ∈ p1, x.block < W.heap.size := fun x hx => hW'.lt x (by simp [hx])
  have k1 : ∀ (W' : World), Below W.heap.size W W' → DataW.Trod enc Try.prog W' 0 (fun b => decide (b < W.heap.size)) true 22 (.slice a1 len1 cap1) d1 p1 :=
    fun W' hn => Below.trod Try.laidOut (by kernel_rfl) (of_decide_eq_true (by kernel_rfl)) h1 hn lt1
  have lt3 : ∀ x ∈ p3, x.block < W.heap.size := fun x hx => hW'.lt x (by simp [hx])
  have k3 : ∀ (W' : World), Below W.heap.size W W' → DataW.Trod enc Try.prog W' 0 (fun b => decide (b < W.heap.size)) true 23 (.slice a3 len3 cap3) d3 p3 :=
    fun W' hn => Below.trod Try.laidOut (by kernel_rfl) (of_decide_eq_true (by kernel_rfl)) h3 hn lt3
  obtain ⟨hm1, ls1, rfl, hr1⟩ := open_rdL h1
  obtain ⟨hm3, xs3, rfl, hr3, _⟩ := open_rdI h3
  refine (lawToppleAll_any x0 a1 cap1 ls1 x2 a3 cap3 xs3 W hm1 hr1 hm3 hr3).mono fun e W' ⟨he, hw⟩ => ?_
  subst he
  refine ⟨_, rfl, _, _, _, [], ([] : List MemPlace) ++ (p1 ++ (([] : List MemPlace) ++ (p3))), [], hW', ?_, ?_, rfl, hw.frame _, fun h => by cases h⟩
  · exact trodAll_mk1 (shut_bool Try.underlying4 true)
  · exact trodAll_mk4 (shut_int Try.underlying3 wx0) (k1 W' hw) (shut_int Try.underlying3 wx2) (k3 W' hw)

theorem toppleAll_holds : Rows.FnExactToppleAllSaid :=
  OpenClaim.holds_of_wide 8 Try.f8 rfl rfl rfl rfl rfl rfl rfl ⟨rfl, rfl, rfl, rfl, rfl⟩ rfl rfl rfl rfl rfl (by kernel_rfl) Try.func8 (by kernel_rfl)
    (of_decide_eq_true (by kernel_rfl)) (by unfold Func.isWrapper; first | (rw [if_pos (by decide +kernel)]; kernel_rfl) | (rw [if_neg (by decide +kernel)]; exact ⟨rfl, rfl⟩))
    (fun os started H enc _ => toppleAll_lifted os started H enc)

end Go.Proofs.Ytopkohkilmlpaaa
