/-
  'laws.FnExactAddPiles' returns true at every input and leaves its arguments as they were: no condition.
-/
import Derived.Test.YtopkohkilmlpaaaAddR
import Derived.Test.YtopkohkilmlpaaaOpen
namespace Go.Proofs.Ytopkohkilmlpaaa
open Go.ChangeShapes Go.WideShapes Go.ChangeAt Go.RowKit

set_option maxHeartbeats 3200000 in
set_option maxRecDepth 100000 in
theorem lawAddPiles_any (x0 : Int) (ad1 : Option Addr) (cap1 : Nat) (ls1 : List Lk) (x2 : Int) (ad3 : Option Addr) (cap3 : Nat) (xs3 : List Int) (ad4 : Option Addr) (cap4 : Nat) (xs4 : List Int) (w : World) (hm1 : ls1.length ≤ 9223372036854775807) (hr1 : RdL w ad1 ls1) (hm3 : xs3.length ≤ 9223372036854775807) (hr3 : RdI w ad3 xs3) (hm4 : xs4.length ≤ 9223372036854775807) (hr4 : RdI w ad4 xs4) :
    Calls Try.prog 9 #[.int .i64 x0, .slice ad1 ls1.length cap1, .int .i64 x2, .slice ad3 xs3.length cap3, .slice ad4 xs4.length cap4] w fun e w' => e = .returned (.bool true) ∧ Below w.heap.size w w' := by
  by_cases hl3 : xs3.length ≤ 1048576
  case neg =>
    go_enter Try.func9, Try.ntmps9
    go_wp2
    go_ret
    exact ⟨rfl, Below.refl _ _⟩
  case pos =>
    by_cases hl4 : xs4.length ≤ 1048576
    case neg =>
      go_enter Try.func9, Try.ntmps9
      go_wp2
      go_ret
      exact ⟨rfl, Below.refl _ _⟩
    case pos =>
      by_cases hl1 : ls1.length ≤ 1048576
      case neg =>
        go_enter Try.func9, Try.ntmps9
        go_wp2_with fail
        refine (szLinkS_big ad1 ls1.length cap1 1048576 _ (by omega) (by omega) hm1 (by omega)).mono ?_
        rintro e w' ⟨rfl, rfl⟩
        go_wp2
        go_ret
        exact ⟨rfl, Below.refl _ _⟩
      case pos =>
        have HR3 := Lib.hid hr3; clear hr3
        have HR4 := Lib.hid hr4; clear hr4
        have HR1 := Lib.hid hr1; clear hr1
        go_enter Try.func9, Try.ntmps9
        go_wp2_with fail
        refine (szLinkS_ok ad1 ls1.length cap1 1048576 _ (by omega) (by omega)).mono ?_
        rintro e w' ⟨rfl, rfl⟩
        have hs1 : (0 : Int) ≤ 1048576 - ls1.length := by omega
        have hlr0 : ((addR x0 ls1 x2 xs3 xs4).1).length ≤ 1048576 := addR_len
        go_wp2_with fail
        refine (toLinkS_any ad1 cap1 ls1 _ hl1 HR1.out).mono ?_
        rintro e w1 ⟨g1, rfl, hg1, ho1, hb1⟩
        have HO1 := Lib.hid ho1; clear ho1
        go_wp2_with fail
        refine (toIntS_any ad3 cap3 xs3 _ hl3 (HR3.out.below (ball (Below.refl _ _) hb1))).mono ?_
        rintro e w2 ⟨g2, rfl, hg2, ho2, hb2⟩
        have HO2 := Lib.hid ho2; clear ho2
        go_wp2_with fail
        refine (toIntS_any ad4 cap4 xs4 _ hl4 (HR4.out.below (ball (ball (Below.refl _ _) hb1) hb2))).mono ?_
        rintro e w3 ⟨g3, rfl, hg3, ho3, hb3⟩
        have HO3 := Lib.hid ho3; clear ho3
        go_wp2_with fail
        refine (specAdd_c x0 _ _ ls1 x2 _ _ xs3 _ _ xs4 _ hl1 (HO1.out.belowAll (ball (ball (Below.refl _ _) hb2) hb3)).rdL hl3 (HO2.out.belowAll (ball (Below.refl _ _) hb3)).rd hl4 HO3.out.rd).mono ?_
        rintro e w4 ⟨v1, rfl, hv1, hb4⟩
        have HV1 := Lib.hid hv1; clear hv1
        go_wp2_with fail
        refine (toLinkS_any ad1 cap1 ls1 _ hl1 (HR1.out.below (ball (ball (ball (ball (Below.refl _ _) hb1) hb2) hb3) hb4))).mono ?_
        rintro e w5 ⟨g4, rfl, hg4, ho4, hb5⟩
        have HO4 := Lib.hid ho4; clear ho4
        go_wp2_with fail
        refine (toIntS_any ad3 cap3 xs3 _ hl3 (HR3.out.below (ball (ball (ball (ball (ball (Below.refl _ _) hb1) hb2) hb3) hb4) hb5))).mono ?_
        rintro e w6 ⟨g5, rfl, hg5, ho5, hb6⟩
        have HO5 := Lib.hid ho5; clear ho5
        go_wp2_with fail
        refine (toIntS_any ad4 cap4 xs4 _ hl4 (HR4.out.below (ball (ball (ball (ball (ball (ball (Below.refl _ _) hb1) hb2) hb3) hb4) hb5) hb6))).mono ?_
        rintro e w7 ⟨g6, rfl, hg6, ho6, hb7⟩
        have HO6 := Lib.hid ho6; clear ho6
        have ltg4 := (HO4.out.belowAll (ball (ball (Below.refl _ _) hb6) hb7)).lt
        have ltg5 := (HO5.out.belowAll (ball (Below.refl _ _) hb7)).lt
        have ltg6 := HO6.out.lt
        have neg5g4 := Nat.ne_of_gt (Nat.lt_of_lt_of_le HO4.out.lt hg5)
        have neg6g4 := Nat.ne_of_gt (Nat.lt_of_lt_of_le (HO4.out.belowAll (ball (Below.refl _ _) hb6)).lt hg6)
        have neg6g5 := Nat.ne_of_gt (Nat.lt_of_lt_of_le HO5.out.lt hg6)
        go_wp2_with fail
        refine (implAdd_c x0 _ _ ls1 x2 _ _ xs3 _ _ xs4 _ hl1 (HO4.out.belowAll (ball (ball (Below.refl _ _) hb6) hb7)).rdL hl3 (HO5.out.belowAll (ball (Below.refl _ _) hb7)).rd hl4 HO6.out.rd).mono ?_
        rintro e w8 ⟨v2, rfl, hv2, hb8⟩
        have HV2 := Lib.hid hv2; clear hv2
        go_wp2_with fail
        refine (eqIntS_v _ _ (addR x0 ls1 x2 xs3 xs4).1 _ hlr0 HV2.out.rdV (HV1.out.below (ball (ball (ball (ball (Below.refl _ _) hb5) hb6) hb7) hb8)).rdV).mono ?_
        rintro e w9 ⟨rfl, hb9⟩
        go_wp2_with fail
        refine (toLinkS_any ad1 cap1 ls1 _ hl1 (HR1.out.below (ball (ball (ball (ball (ball (ball (ball (ball (ball (Below.refl _ _) hb1) hb2) hb3) hb4) hb5) hb6) hb7) hb8) hb9))).mono ?_
        rintro e w10 ⟨g7, rfl, hg7, ho7, hb10⟩
        have HO7 := Lib.hid ho7; clear ho7
        go_wp2_with fail
        refine (eqLinkS_same _ _ _ _ ls1 _ hl1 (HO4.out.belowAll (ball (ball (ball (ball (ball (Below.refl _ _) hb6) hb7) hb8) hb9) hb10)).rdL HO7.out.rdL).mono ?_
        rintro e w11 ⟨rfl, hb11⟩
        go_wp2_with fail
        refine (toIntS_any ad3 cap3 xs3 _ hl3 (HR3.out.below (ball (ball (ball (ball (ball (ball (ball (ball (ball (ball (ball (Below.refl _ _) hb1) hb2) hb3) hb4) hb5) hb6) hb7) hb8) hb9) hb10) hb11))).mono ?_
        rintro e w12 ⟨g8, rfl, hg8, ho8, hb12⟩
        have HO8 := Lib.hid ho8; clear ho8
        go_wp2_with fail
        refine (eqIntS_same _ _ _ _ xs3 _ hl3 (HO5.out.belowAll (ball (ball (ball (ball (ball (ball (Below.refl _ _) hb7) hb8) hb9) hb10) hb11) hb12)).rd HO8.out.rd).mono ?_
        rintro e w13 ⟨rfl, hb13⟩
        go_wp2_with fail
        refine (toIntS_any ad4 cap4 xs4 _ hl4 (HR4.out.below (ball (ball (ball (ball (ball (ball (ball (ball (ball (ball (ball (ball (ball (Below.refl _ _) hb1) hb2) hb3) hb4) hb5) hb6) hb7) hb8) hb9) hb10) hb11) hb12) hb13))).mono ?_
        rintro e w14 ⟨g9, rfl, hg9, ho9, hb14⟩
        have HO9 := Lib.hid ho9; clear ho9
        go_wp2_with fail
        refine (eqIntS_same _ _ _ _ xs4 _ hl4 (HO6.out.belowAll (ball (ball (ball (ball (ball (ball (ball (Below.refl _ _) hb8) hb9) hb10) hb11) hb12) hb13) hb14)).rd HO9.out.rd).mono ?_
        rintro e w15 ⟨rfl, hb15⟩
        go_wp2_with fail
        refine (markLinkS_own g4 _ ls1 _ _ hl1 (by omega) (by omega) (HO4.out.belowAll (ball (ball (ball (ball (ball (ball (ball (ball (ball (ball (Below.refl _ _) hb6) hb7) hb8) hb9) hb10) hb11) hb12) hb13) hb14) hb15))).mono ?_
        rintro e w16 ⟨rfl, hc16⟩
        have HNg516 := Lib.hid ((HO5.out.belowAll (ball (ball (ball (ball (ball (ball (ball (ball (ball (Below.refl _ _) hb7) hb8) hb9) hb10) hb11) hb12) hb13) hb14) hb15)).chg hc16 neg5g4)
        have HNg616 := Lib.hid ((HO6.out.belowAll (ball (ball (ball (ball (ball (ball (ball (ball (Below.refl _ _) hb8) hb9) hb10) hb11) hb12) hb13) hb14) hb15)).chg hc16 neg6g4)
        have HNv216 := Lib.hid ((HV2.out.below (ball (ball (ball (ball (ball (ball (ball (Below.refl _ _) hb9) hb10) hb11) hb12) hb13) hb14) hb15)).chg hc16 ltg4)
        go_wp2_with fail
        refine (markIntS_own g5 _ xs3 _ _ hl3 (by omega) (by omega) HNg516.out).mono ?_
        rintro e w17 ⟨rfl, hov17, hc17⟩
        clear hov17
        have HNg617 := Lib.hid (HNg616.out.chg hc17 neg6g5)
        have HNv217 := Lib.hid (HNv216.out.chg hc17 ltg5)
        go_wp2_with fail
        refine (markIntS_own g6 _ xs4 _ _ hl4 (by omega) (by omega) HNg617.out).mono ?_
        rintro e w18 ⟨rfl, hov18, hc18⟩
        clear hov18
        have HNv218 := Lib.hid (HNv217.out.chg hc18 ltg6)
        go_wp2_with fail
        refine (eqIntS_v _ _ (addR x0 ls1 x2 xs3 xs4).1 _ hlr0 HNv218.out.rdV (HV1.out.below (bchg (bchg (bchg (ball (ball (ball (ball (ball (ball (ball (ball (ball (ball (ball (Below.refl _ _) hb5) hb6) hb7) hb8) hb9) hb10) hb11) hb12) hb13) hb14) hb15) hc16 hg4 (Nat.le_trans (Nat.le_trans (Nat.le_trans (Nat.le_trans (Nat.le_trans (Nat.le_trans (Nat.le_trans (Nat.le_trans (Nat.le_trans (Nat.le_trans hb5.size hb6.size) hb7.size) hb8.size) hb9.size) hb10.size) hb11.size) hb12.size) hb13.size) hb14.size) hb15.size)) hc17 (Nat.le_trans hb5.size hg5) (Nat.le_trans (Nat.le_trans (Nat.le_trans (Nat.le_trans (Nat.le_trans (Nat.le_trans (Nat.le_trans (Nat.le_trans (Nat.le_trans (Nat.le_trans (Nat.le_trans hb5.size hb6.size) hb7.size) hb8.size) hb9.size) hb10.size) hb11.size) hb12.size) hb13.size) hb14.size) hb15.size) hc16.size)) hc18 (Nat.le_trans (Nat.le_trans hb5.size hb6.size) hg6) (Nat.le_trans (Nat.le_trans (Nat.le_trans (Nat.le_trans (Nat.le_trans (Nat.le_trans (Nat.le_trans (Nat.le_trans (Nat.le_trans (Nat.le_trans (Nat.le_trans (Nat.le_trans hb5.size hb6.size) hb7.size) hb8.size) hb9.size) hb10.size) hb11.size) hb12.size) hb13.size) hb14.size) hb15.size) hc16.size) hc17.size))).rdV).mono ?_
        rintro e w19 ⟨rfl, hb19⟩
        go_wp2_with fail
        refine (markIntS_res w7.heap.size v2 (addR x0 ls1 x2 xs3 xs4).1 _ _ hlr0 (by omega) (by omega) (Nat.le_trans (Nat.le_trans (Nat.le_trans (Nat.le_trans (Nat.le_trans (Nat.le_trans (Nat.le_trans (Nat.le_trans (Nat.le_trans (Nat.le_trans (Nat.le_trans hb8.size hb9.size) hb10.size) hb11.size) hb12.size) hb13.size) hb14.size) hb15.size) hc16.size) hc17.size) hc18.size) hb19.size) (HNv218.out.below (ball (Below.refl _ _) hb19))).mono ?_
        rintro e w20 ⟨rfl, hq20, hb20⟩
        have HQ20 := Lib.hid hq20; clear hq20
        go_wp2_with fail
        refine (heldIntS_v v2 (addR x0 ls1 x2 xs3 xs4).1.length 1 _ hlr0 (by omega) (by omega) HQ20.out.rdV).mono ?_
        rintro e w' ⟨rfl, rfl⟩
        go_wp2_with fail
        refine (toLinkS_any ad1 cap1 ls1 _ hl1 (HR1.out.below ((ball (bchg (bchg (bchg (ball (ball (ball (ball (ball (ball (ball (ball (ball (ball (ball (ball (ball (ball (ball (Below.refl _ _) hb1) hb2) hb3) hb4) hb5) hb6) hb7) hb8) hb9) hb10) hb11) hb12) hb13) hb14) hb15) hc16 (Nat.le_trans (Nat.le_trans (Nat.le_trans (Nat.le_trans hb1.size hb2.size) hb3.size) hb4.size) hg4) (Nat.le_trans (Nat.le_trans (Nat.le_trans (Nat.le_trans (Nat.le_trans (Nat.le_trans (Nat.le_trans (Nat.le_trans (Nat.le_trans (Nat.le_trans (Nat.le_trans (Nat.le_trans (Nat.le_trans (Nat.le_trans hb1.size hb2.size) hb3.size) hb4.size) hb5.size) hb6.size) hb7.size) hb8.size) hb9.size) hb10.size) hb11.size) hb12.size) hb13.size) hb14.size) hb15.size)) hc17 (Nat.le_trans (Nat.le_trans (Nat.le_trans (Nat.le_trans (Nat.le_trans hb1.size hb2.size) hb3.size) hb4.size) hb5.size) hg5) (Nat.le_trans (Nat.le_trans (Nat.le_trans (Nat.le_trans (Nat.le_trans (Nat.le_trans (Nat.le_trans (Nat.le_trans (Nat.le_trans (Nat.le_trans (Nat.le_trans (Nat.le_trans (Nat.le_trans (Nat.le_trans (Nat.le_trans hb1.size hb2.size) hb3.size) hb4.size) hb5.size) hb6.size) hb7.size) hb8.size) hb9.size) hb10.size) hb11.size) hb12.size) hb13.size) hb14.size) hb15.size) hc16.size)) hc18 (Nat.le_trans (Nat.le_trans (Nat.le_trans (Nat.le_trans (Nat.le_trans (Nat.le_trans hb1.size hb2.size) hb3.size) hb4.size) hb5.size) hb6.size) hg6) (Nat.le_trans (Nat.le_trans (Nat.le_trans (Nat.le_trans (Nat.le_trans (Nat.le_trans (Nat.le_trans (Nat.le_trans (Nat.le_trans (Nat.le_trans (Nat.le_trans (Nat.le_trans (Nat.le_trans (Nat.le_trans (Nat.le_trans (Nat.le_trans hb1.size hb2.size) hb3.size) hb4.size) hb5.size) hb6.size) hb7.size) hb8.size) hb9.size) hb10.size) hb11.size) hb12.size) hb13.size) hb14.size) hb15.size) hc16.size) hc17.size)) hb19).trans (hb20.mono (Nat.le_trans (Nat.le_trans (Nat.le_trans (Nat.le_trans (Nat.le_trans (Nat.le_trans hb1.size hb2.size) hb3.size) hb4.size) hb5.size) hb6.size) hb7.size))))).mono ?_
        rintro e w21 ⟨g10, rfl, hg10, ho10, hb21⟩
        have HO10 := Lib.hid ho10; clear ho10
        go_wp2_with fail
        refine (toIntS_any ad3 cap3 xs3 _ hl3 (HR3.out.below (ball ((ball (bchg (bchg (bchg (ball (ball (ball (ball (ball (ball (ball (ball (ball (ball (ball (ball (ball (ball (ball (Below.refl _ _) hb1) hb2) hb3) hb4) hb5) hb6) hb7) hb8) hb9) hb10) hb11) hb12) hb13) hb14) hb15) hc16 (Nat.le_trans (Nat.le_trans (Nat.le_trans (Nat.le_trans hb1.size hb2.size) hb3.size) hb4.size) hg4) (Nat.le_trans (Nat.le_trans (Nat.le_trans (Nat.le_trans (Nat.le_trans (Nat.le_trans (Nat.le_trans (Nat.le_trans (Nat.le_trans (Nat.le_trans (Nat.le_trans (Nat.le_trans (Nat.le_trans (Nat.le_trans hb1.size hb2.size) hb3.size) hb4.size) hb5.size) hb6.size) hb7.size) hb8.size) hb9.size) hb10.size) hb11.size) hb12.size) hb13.size) hb14.size) hb15.size)) hc17 (Nat.le_trans (Nat.le_trans (Nat.le_trans (Nat.le_trans (Nat.le_trans hb1.size hb2.size) hb3.size) hb4.size) hb5.size) hg5) (Nat.le_trans (Nat.le_trans (Nat.le_trans (Nat.le_trans (Nat.le_trans (Nat.le_trans (Nat.le_trans (Nat.le_trans (Nat.le_trans (Nat.le_trans (Nat.le_trans (Nat.le_trans (Nat.le_trans (Nat.le_trans (Nat.le_trans hb1.size hb2.size) hb3.size) hb4.size) hb5.size) hb6.size) hb7.size) hb8.size) hb9.size) hb10.size) hb11.size) hb12.size) hb13.size) hb14.size) hb15.size) hc16.size)) hc18 (Nat.le_trans (Nat.le_trans (Nat.le_trans (Nat.le_trans (Nat.le_trans (Nat.le_trans hb1.size hb2.size) hb3.size) hb4.size) hb5.size) hb6.size) hg6) (Nat.le_trans (Nat.le_trans (Nat.le_trans (Nat.le_trans (Nat.le_trans (Nat.le_trans (Nat.le_trans (Nat.le_trans (Nat.le_trans (Nat.le_trans (Nat.le_trans (Nat.le_trans (Nat.le_trans (Nat.le_trans (Nat.le_trans (Nat.le_trans hb1.size hb2.size) hb3.size) hb4.size) hb5.size) hb6.size) hb7.size) hb8.size) hb9.size) hb10.size) hb11.size) hb12.size) hb13.size) hb14.size) hb15.size) hc16.size) hc17.size)) hb19).trans (hb20.mono (Nat.le_trans (Nat.le_trans (Nat.le_trans (Nat.le_trans (Nat.le_trans (Nat.le_trans hb1.size hb2.size) hb3.size) hb4.size) hb5.size) hb6.size) hb7.size))) hb21))).mono ?_
        rintro e w22 ⟨g11, rfl, hg11, ho11, hb22⟩
        have HO11 := Lib.hid ho11; clear ho11
        go_wp2_with fail
        refine (toIntS_any ad4 cap4 xs4 _ hl4 (HR4.out.below (ball (ball ((ball (bchg (bchg (bchg (ball (ball (ball (ball (ball (ball (ball (ball (ball (ball (ball (ball (ball (ball (ball (Below.refl _ _) hb1) hb2) hb3) hb4) hb5) hb6) hb7) hb8) hb9) hb10) hb11) hb12) hb13) hb14) hb15) hc16 (Nat.le_trans (Nat.le_trans (Nat.le_trans (Nat.le_trans hb1.size hb2.size) hb3.size) hb4.size) hg4) (Nat.le_trans (Nat.le_trans (Nat.le_trans (Nat.le_trans (Nat.le_trans (Nat.le_trans (Nat.le_trans (Nat.le_trans (Nat.le_trans (Nat.le_trans (Nat.le_trans (Nat.le_trans (Nat.le_trans (Nat.le_trans hb1.size hb2.size) hb3.size) hb4.size) hb5.size) hb6.size) hb7.size) hb8.size) hb9.size) hb10.size) hb11.size) hb12.size) hb13.size) hb14.size) hb15.size)) hc17 (Nat.le_trans (Nat.le_trans (Nat.le_trans (Nat.le_trans (Nat.le_trans hb1.size hb2.size) hb3.size) hb4.size) hb5.size) hg5) (Nat.le_trans (Nat.le_trans (Nat.le_trans (Nat.le_trans (Nat.le_trans (Nat.le_trans (Nat.le_trans (Nat.le_trans (Nat.le_trans (Nat.le_trans (Nat.le_trans (Nat.le_trans (Nat.le_trans (Nat.le_trans (Nat.le_trans hb1.size hb2.size) hb3.size) hb4.size) hb5.size) hb6.size) hb7.size) hb8.size) hb9.size) hb10.size) hb11.size) hb12.size) hb13.size) hb14.size) hb15.size) hc16.size)) hc18 (Nat.le_trans (Nat.le_trans (Nat.le_trans (Nat.le_trans (Nat.le_trans (Nat.le_trans hb1.size hb2.size) hb3.size) hb4.size) hb5.size) hb6.size) hg6) (Nat.le_trans (Nat.le_trans (Nat.le_trans (Nat.le_trans (Nat.le_trans (Nat.le_trans (Nat.le_trans (Nat.le_trans (Nat.le_trans (Nat.le_trans (Nat.le_trans (Nat.le_trans (Nat.le_trans (Nat.le_trans (Nat.le_trans (Nat.le_trans hb1.size hb2.size) hb3.size) hb4.size) hb5.size) hb6.size) hb7.size) hb8.size) hb9.size) hb10.size) hb11.size) hb12.size) hb13.size) hb14.size) hb15.size) hc16.size) hc17.size)) hb19).trans (hb20.mono (Nat.le_trans (Nat.le_trans (Nat.le_trans (Nat.le_trans (Nat.le_trans (Nat.le_trans hb1.size hb2.size) hb3.size) hb4.size) hb5.size) hb6.size) hb7.size))) hb21) hb22))).mono ?_
        rintro e w23 ⟨g12, rfl, hg12, ho12, hb23⟩
        have HO12 := Lib.hid ho12; clear ho12
        go_wp2_with fail
        refine (implAdd_c x0 _ _ ls1 x2 _ _ xs3 _ _ xs4 _ hl1 (HO10.out.belowAll (ball (ball (Below.refl _ _) hb22) hb23)).rdL hl3 (HO11.out.belowAll (ball (Below.refl _ _) hb23)).rd hl4 HO12.out.rd).mono ?_
        rintro e w24 ⟨v3, rfl, hv3, hb24⟩
        have HV3 := Lib.hid hv3; clear hv3
        go_wp2_with fail
        refine (eqIntS_v _ _ (addR x0 ls1 x2 xs3 xs4).1 _ hlr0 HV3.out.rdV (HV1.out.below (ball (ball (ball (ball ((ball (bchg (bchg (bchg (ball (ball (ball (ball (ball (ball (ball (ball (ball (ball (ball (Below.refl _ _) hb5) hb6) hb7) hb8) hb9) hb10) hb11) hb12) hb13) hb14) hb15) hc16 hg4 (Nat.le_trans (Nat.le_trans (Nat.le_trans (Nat.le_trans (Nat.le_trans (Nat.le_trans (Nat.le_trans (Nat.le_trans (Nat.le_trans (Nat.le_trans hb5.size hb6.size) hb7.size) hb8.size) hb9.size) hb10.size) hb11.size) hb12.size) hb13.size) hb14.size) hb15.size)) hc17 (Nat.le_trans hb5.size hg5) (Nat.le_trans (Nat.le_trans (Nat.le_trans (Nat.le_trans (Nat.le_trans (Nat.le_trans (Nat.le_trans (Nat.le_trans (Nat.le_trans (Nat.le_trans (Nat.le_trans hb5.size hb6.size) hb7.size) hb8.size) hb9.size) hb10.size) hb11.size) hb12.size) hb13.size) hb14.size) hb15.size) hc16.size)) hc18 (Nat.le_trans (Nat.le_trans hb5.size hb6.size) hg6) (Nat.le_trans (Nat.le_trans (Nat.le_trans (Nat.le_trans (Nat.le_trans (Nat.le_trans (Nat.le_trans (Nat.le_trans (Nat.le_trans (Nat.le_trans (Nat.le_trans (Nat.le_trans hb5.size hb6.size) hb7.size) hb8.size) hb9.size) hb10.size) hb11.size) hb12.size) hb13.size) hb14.size) hb15.size) hc16.size) hc17.size)) hb19).trans (hb20.mono (Nat.le_trans (Nat.le_trans hb5.size hb6.size) hb7.size))) hb21) hb22) hb23) hb24)).rdV).mono ?_
        rintro e w25 ⟨rfl, hb25⟩
        go_wp2_with fail
        refine (heldIntS_v v2 (addR x0 ls1 x2 xs3 xs4).1.length 1 _ hlr0 (by omega) (by omega) (HQ20.out.below (ball (ball (ball (ball (ball (Below.refl _ _) hb21) hb22) hb23) hb24) hb25)).rdV).mono ?_
        rintro e w' ⟨rfl, rfl⟩
        go_wp2
        go_ret
        exact ⟨rfl, (ball (ball (ball (ball (ball ((ball (bchg (bchg (bchg (ball (ball (ball (ball (ball (ball (ball (ball (ball (ball (ball (ball (ball (ball (ball (Below.refl _ _) hb1) hb2) hb3) hb4) hb5) hb6) hb7) hb8) hb9) hb10) hb11) hb12) hb13) hb14) hb15) hc16 (Nat.le_trans (Nat.le_trans (Nat.le_trans (Nat.le_trans hb1.size hb2.size) hb3.size) hb4.size) hg4) (Nat.le_trans (Nat.le_trans (Nat.le_trans (Nat.le_trans (Nat.le_trans (Nat.le_trans (Nat.le_trans (Nat.le_trans (Nat.le_trans (Nat.le_trans (Nat.le_trans (Nat.le_trans (Nat.le_trans (Nat.le_trans hb1.size hb2.size) hb3.size) hb4.size) hb5.size) hb6.size) hb7.size) hb8.size) hb9.size) hb10.size) hb11.size) hb12.size) hb13.size) hb14.size) hb15.size)) hc17 (Nat.le_trans (Nat.le_trans (Nat.le_trans (Nat.le_trans (Nat.le_trans hb1.size hb2.size) hb3.size) hb4.size) hb5.size) hg5) (Nat.le_trans (Nat.le_trans (Nat.le_trans (Nat.le_trans (Nat.le_trans (Nat.le_trans (Nat.le_trans (Nat.le_trans (Nat.le_trans (Nat.le_trans (Nat.le_trans (Nat.le_trans (Nat.le_trans (Nat.le_trans (Nat.le_trans hb1.size hb2.size) hb3.size) hb4.size) hb5.size) hb6.size) hb7.size) hb8.size) hb9.size) hb10.size) hb11.size) hb12.size) hb13.size) hb14.size) hb15.size) hc16.size)) hc18 (Nat.le_trans (Nat.le_trans (Nat.le_trans (Nat.le_trans (Nat.le_trans (Nat.le_trans hb1.size hb2.size) hb3.size) hb4.size) hb5.size) hb6.size) hg6) (Nat.le_trans (Nat.le_trans (Nat.le_trans (Nat.le_trans (Nat.le_trans (Nat.le_trans (Nat.le_trans (Nat.le_trans (Nat.le_trans (Nat.le_trans (Nat.le_trans (Nat.le_trans (Nat.le_trans (Nat.le_trans (Nat.le_trans (Nat.le_trans hb1.size hb2.size) hb3.size) hb4.size) hb5.size) hb6.size) hb7.size) hb8.size) hb9.size) hb10.size) hb11.size) hb12.size) hb13.size) hb14.size) hb15.size) hc16.size) hc17.size)) hb19).trans (hb20.mono (Nat.le_trans (Nat.le_trans (Nat.le_trans (Nat.le_trans (Nat.le_trans (Nat.le_trans hb1.size hb2.size) hb3.size) hb4.size) hb5.size) hb6.size) hb7.size))) hb21) hb22) hb23) hb24) hb25)⟩

set_option maxRecDepth 100000 in
theorem addPiles_lifted (os : Os) (started : os.Started) (H : Type) (enc : TypeId × Value → H) :
    ReturnsInHanded {} Try.checked os 9 .any (Rows.fnExactAddPilesSpec.pre6 enc Try.prog Try.f9 Rows.fnExactAddPilesRow.domain false) (Rows.fnExactAddPilesSpec.post enc Try.prog Try.f9 false true false false) := by
  refine returnsInHanded_of_change (C := Try.checked) Try.own started (by kernel_rfl) Try.func9
    (ChangeSpec.witness6 (enc := enc) (C := Try.checked) false ⟨#[], #[.int .i64 0, .slice none 0 0, .int .i64 0, .slice none 0 0, .slice none 0 0], []⟩ 8 (by kernel_rfl) (by kernel_rfl) (by kernel_rfl) (by kernel_rfl)) ?_
  intro W base args ds gs before hval0 hW hcnd _
  have hval : ∀ (j : Nat) t v, Try.f9.params[j]? = some t → args[j]? = some v → Value.okWide Try.prog W .any base t v := hval0
  have hW' := hW
  obtain ⟨p, q, hA0, hV, rfl, hfz, hnd⟩ := hW
  have hA : DataW.TrodAll enc Try.prog W 0 (fun _ => true) true Try.f9.params.toList args.toList ds p := hA0
  rw [Try.params9] at hA hval
  obtain ⟨v0, vs0, d0, ds0, p0, q0, hargs, rfl, rfl, h0, r0⟩ := trodAll_cons hA
  obtain ⟨v1, vs1, d1, ds1, p1, q1, rfl, rfl, rfl, h1, r1⟩ := trodAll_cons r0
  obtain ⟨v2, vs2, d2, ds2, p2, q2, rfl, rfl, rfl, h2, r2⟩ := trodAll_cons r1
  obtain ⟨v3, vs3, d3, ds3, p3, q3, rfl, rfl, rfl, h3, r3⟩ := trodAll_cons r2
  obtain ⟨v4, vs4, d4, ds4, p4, q4, rfl, rfl, rfl, h4, r4⟩ := trodAll_cons r3
  obtain ⟨rfl, rfl, rfl⟩ := trodAll_nil r4
  obtain ⟨al⟩ := args; simp only at hargs; subst hargs
  obtain ⟨rfl, rfl⟩ := trodVars_none hV
  obtain ⟨x0, rfl, rfl, rfl, wx0⟩ := open_int Try.underlying3 (hval 0 3 v0 rfl rfl) h0
  obtain ⟨a1, len1, cap1, rfl⟩ := okWide_slice Try.underlying22 (hval 1 22 v1 rfl rfl)
  obtain ⟨x2, rfl, rfl, rfl, wx2⟩ := open_int Try.underlying3 (hval 2 3 v2 rfl rfl) h2
  obtain ⟨a3, len3, cap3, rfl⟩ := okWide_slice Try.underlying23 (hval 3 23 v3 rfl rfl)
  obtain ⟨a4, len4, cap4, rfl⟩ := okWide_slice Try.underlying23 (hval 4 23 v4 rfl rfl)
  clear hA0 hval0
  simp only [List.append_nil, List.nil_append] at hW'
  have lt1 : ∀ x ∈ p1, x.block < W.heap.size := fun x hx => hW'.lt x (by simp [hx])
  have k1 : ∀ (W' : World), Below W.heap.size W W' → DataW.Trod enc Try.prog W' 0 (fun b => decide (b < W.heap.size)) true 22 (.slice a1 len1 cap1) d1 p1 :=
    fun W' hn => Below.trod Try.laidOut (by kernel_rfl) (of_decide_eq_true (by kernel_rfl)) h1 hn lt1
  have lt3 : ∀ x ∈ p3, x.block < W.heap.size := fun x hx => hW'.lt x (by simp [hx])
  have k3 : ∀ (W' : World), Below W.heap.size W W' → DataW.Trod enc Try.prog W' 0 (fun b => decide (b < W.heap.size)) true 23 (.slice a3 len3 cap3) d3 p3 :=
    fun W' hn => Below.trod Try.laidOut (by kernel_rfl) (of_decide_eq_true (by kernel_rfl)) h3 hn lt3
  have lt4 : ∀ x ∈ p4, x.block < W.heap.size := fun x hx => hW'.lt x (by simp [hx])
  have k4 : ∀ (W' : World), Below W.heap.size W W' → DataW.Trod enc Try.prog W' 0 (fun b => decide (b < W.heap.size)) true 23 (.slice a4 len4 cap4) d4 p4 :=
    fun W' hn => Below.trod Try.laidOut (by kernel_rfl) (of_decide_eq_true (by kernel_rfl)) h4 hn lt4
  obtain ⟨hm1, ls1, rfl, hr1⟩ := open_rdL h1
  obtain ⟨hm3, xs3, rfl, hr3, _⟩ := open_rdI h3
  obtain ⟨hm4, xs4, rfl, hr4, _⟩ := open_rdI h4
  refine (lawAddPiles_any x0 a1 cap1 ls1 x2 a3 cap3 xs3 a4 cap4 xs4 W hm1 hr1 hm3 hr3 hm4 hr4).mono fun e W' ⟨he, hw⟩ => ?_
  subst he
  refine ⟨_, rfl, _, _, _, [], ([] : List MemPlace) ++ (p1 ++ (([] : List MemPlace) ++ (p3 ++ (p4)))), [], hW', ?_, ?_, rfl, hw.frame _, fun h => by cases h⟩
  · exact trodAll_mk1 (shut_bool Try.underlying4 true)
  · exact ⟨_, _, (shut_int Try.underlying3 wx0), (trodAll_mk4 (k1 W' hw) (shut_int Try.underlying3 wx2) (k3 W' hw) (k4 W' hw)), rfl⟩

theorem addPiles_holds : Rows.FnExactAddPilesSaid :=
  OpenClaim.holds_of_wide 9 Try.f9 rfl rfl rfl rfl rfl rfl rfl ⟨rfl, rfl, rfl, rfl, rfl⟩ rfl rfl rfl rfl rfl (by kernel_rfl) Try.func9 (by kernel_rfl)
    (of_decide_eq_true (by kernel_rfl)) (by unfold Func.isWrapper; first | (rw [if_pos (by decide +kernel)]; kernel_rfl) | (rw [if_neg (by decide +kernel)]; exact ⟨rfl, rfl⟩))
    (fun os started H enc _ => addPiles_lifted os started H enc)

end Go.Proofs.Ytopkohkilmlpaaa
