/-
  The walk of 'laws.FnStars': it returns true. Printed by gen_lawS.py.
-/
import Derived.Test.YtlplodkabeiimaaStZ
import Derived.Test.YtlplodkabeiimaaBig
import Derived.Deep.DeepCutAuto
namespace Go.Proofs.Ytlplodkabeiimaa
open Go.RowKit

set_option maxHeartbeats 64000000 in
set_option maxRecDepth 100000 in
theorem lawStars_any (ad0 : Option Addr) (n0 cap0 : Nat) (ad1 : Option Addr) (n1 cap1 : Nat) (w : World) (hm0 : n0 ≤ 9223372036854775807) (hr0 : RdB w ad0 n0) (hm1 : n1 ≤ 9223372036854775807) (hr1 : RdB w ad1 n1) :
    Calls Try.prog 3 #[.slice ad0 n0 cap0, .slice ad1 n1 cap1] w fun e w' => e = .returned (.bool true) ∧ Below w.heap.size w w' := by
  have bw0 := Below.refl w.heap.size w
  have K1 := Lib.hid hr0; clear hr0
  have K2 := Lib.hid hr1; clear hr1
  obtain ⟨tb, htb⟩ : ∃ tb : Bool, bigB n0 n1 = tb := ⟨_, rfl⟩
  have CB := big_c ad0 n0 cap0 ad1 n1 cap1 w hm0
  rw [htb] at CB
  have CBB := Lib.hid CB; clear CB htb
  cases tb
  case true =>
    go_enter Try.func3, Try.ntmps3
    go_wp2_with fail
    refine CBB.out.mono ?_
    rintro e w' ⟨rfl, rfl⟩
    go_wp2_with fail
    go_ret
    exact ⟨rfl, bw0⟩
  case false =>
    go_enter Try.func3, Try.ntmps3
    go_wp2_with fail
    refine (CBB.out).mono ?_
    rintro e w' ⟨rfl, rfl⟩
    clear CBB
    go_wp2_with fail
    refine (drawAddStars_c ad0 n0 cap0 _ hm0 K1.out).mono ?_
    rintro e w3 ⟨ada, ca, a, adb, cb, b, rfl, ⟨hla, hra, hsa⟩, ⟨hlb, hrb, hsb⟩, hb4⟩
    have K5 := Lib.hid (K1.out.below hb4); clear K1
    have K6 := Lib.hid (K2.out.below hb4); clear K2
    have bw7 := ball bw0 hb4
    clear bw0
    clear hb4
    have K8 := Lib.hid hra; clear hra
    have K9 := Lib.hid hrb; clear hrb
    clear K5
    have hsl1 := fputs_len b a
    have HSA := Lib.hid hsa; have HSB := Lib.hid hsb
    obtain ⟨u1, hu1⟩ : ∃ u, addB a b = u := ⟨_, rfl⟩
    obtain ⟨S1, hS1⟩ : ∃ S, onB u1 (addR a b) = S := ⟨_, rfl⟩
    obtain ⟨n1, hn1⟩ : ∃ n, S1.length = n := ⟨_, rfl⟩
    have CI1 := Lib.hid (fun (w : World) (h1 : RdY w ada a) (h2 : RdY w adb b) => (addStars_c ada adb ca cb a b w h1 hsa (by omega) h2 hsb (by omega)).mono fun e w' h => StarR.uni h hu1 hS1 hn1)
    have CR1 := Lib.hid (fun (w : World) (h1 : RdY w ada a) (h2 : RdY w adb b) => (sAddStars_c ada adb ca cb a b w h1 hsa (by omega) h2 (by omega)).mono fun e w' h => StarR.uni h hu1 hS1 hn1)
    have HU1 := Lib.hid hu1; have HS1 := Lib.hid hS1; have HN1 := Lib.hid hn1
    have hn22 : n1 ≤ 22 := by
      rw [← hn1, ← hS1]
      unfold onB addR
      split
      · omega
      · simp
    clear hu1 hS1 hn1 hsl1
    clear hsa hsb
    go_wp2_with fail
    refine (CI1.out _ K8.out K9.out).mono ?_
    rintro e w10 ⟨ad3, c3, rfl, hrd, hsy, hb11⟩
    have K12 := Lib.hid (K6.out.below hb11); clear K6
    have K13 := Lib.hid (K8.out.below hb11); clear K8
    have K14 := Lib.hid (K9.out.below hb11); clear K9
    have bw15 := ball bw7 hb11
    clear bw7
    clear hb11
    have K16 := Lib.hid hrd; clear hrd
    have HY1 := Lib.hid hsy; clear hsy
    go_wp2_with fail
    refine (CR1.out _ K13.out K14.out).mono ?_
    rintro e w17 ⟨ad4, c4, rfl, hrd, hsy, hb18⟩
    have K19 := Lib.hid (K12.out.below hb18); clear K12
    have K20 := Lib.hid (K13.out.below hb18); clear K13
    have K21 := Lib.hid (K14.out.below hb18); clear K14
    have K22 := Lib.hid (K16.out.below hb18); clear K16
    have bw23 := ball bw15 hb18
    clear bw15
    clear hb18
    have K24 := Lib.hid hrd; clear hrd
    clear hsy CI1 CR1
    have CP1 := Lib.hid (fun (w : World) h1 h2 => pSame_c ad3 ad4 c3 c4 n1 S1 HN1.out (by omega) w h1 h2)
    go_wp2_with fail
    refine (CP1.out _ K22.out K24.out).mono ?_
    rintro e w25 ⟨rfl, hb26⟩
    have K27 := Lib.hid (K19.out.below hb26); clear K19
    have K28 := Lib.hid (K20.out.below hb26); clear K20
    have K29 := Lib.hid (K21.out.below hb26); clear K21
    have K30 := Lib.hid (K22.out.below hb26); clear K22
    have K31 := Lib.hid (K24.out.below hb26); clear K24
    have bw32 := ball bw23 hb26
    clear bw23
    clear hb26
    clear CP1
    clear K31
    go_upto_if 91 with fail
    go_cut [] from 91 to 91 (fun wc => Below w25.heap.size w25 wc)
    case first =>
      cases u1
      case false =>
        go_wp2_with fail
        go_meet
        exact Below.refl _ _
      case true =>
        have hS := HS1.out
        rw [show onB true (addR a b) = addR a b from rfl] at hS
        obtain ⟨st1, st2, st3⟩ := add_true HU1.out
        obtain ⟨sm1, sm2⟩ := add_sums a b
        have bd1 := star_bd st1
        have bd2 := star_bd st2
        rw [hS] at st3 sm1 sm2
        have q1 := fun (w : World) (h : RdY w ad3 S1) => starSumI_c ad3 c3 S1 w h (by rw [HN1.out]; omega)
        have q2 := fun (w : World) (h : RdY w ada a) => starSumI_c ada ca a w h (by omega)
        have q3 := fun (w : World) (h : RdY w adb b) => starSumI_c adb cb b w h (by omega)
        have q4 := fun (w : World) (h : RdY w ad3 S1) => isStarI_c ad3 c3 S1 w h (by rw [HN1.out]; omega)
        simp only [st3, st1, st2, if_true, HN1.out] at q1 q2 q3 q4
        rw [sm1, sm2] at q1
        generalize sxR a = X1 at q1 q2 bd1
        generalize syR a = Y1 at q1 q2 bd1
        generalize sxR b = X2 at q1 q3 bd2
        generalize syR b = Y2 at q1 q3 bd2
        have w1' : IntKind.i64.wrap (X1 + X2) = X1 + X2 := i64_small (by omega) (by omega)
        have w2' : IntKind.i64.wrap (Y1 + Y2) = Y1 + Y2 := i64_small (by omega) (by omega)
        have Q1 := Lib.hid q1; have Q2 := Lib.hid q2; have Q3 := Lib.hid q3; have Q4 := Lib.hid q4
        clear q1 q2 q3 q4 hS st1 st2 st3 sm1 sm2 bd1 bd2
        go_wp2_with fail
        refine (Q1.out _ K30.out).mono ?_
        rintro e w33 ⟨rfl, hb34⟩
        have K35 := Lib.hid (K27.out.below hb34); clear K27
        have K36 := Lib.hid (K28.out.below hb34); clear K28
        have K37 := Lib.hid (K29.out.below hb34); clear K29
        have K38 := Lib.hid (K30.out.below hb34); clear K30
        have bw39 := hb34
        clear hb34
        go_wp2_with fail
        refine (Q2.out _ K36.out).mono ?_
        rintro e w40 ⟨rfl, hb41⟩
        have K42 := Lib.hid (K35.out.below hb41); clear K35
        have K43 := Lib.hid (K36.out.below hb41); clear K36
        have K44 := Lib.hid (K37.out.below hb41); clear K37
        have K45 := Lib.hid (K38.out.below hb41); clear K38
        have bw46 := ball bw39 hb41
        clear bw39
        clear hb41
        go_wp2_with fail
        refine (Q3.out _ K44.out).mono ?_
        rintro e w47 ⟨rfl, hb48⟩
        have K49 := Lib.hid (K42.out.below hb48); clear K42
        have K50 := Lib.hid (K43.out.below hb48); clear K43
        have K51 := Lib.hid (K44.out.below hb48); clear K44
        have K52 := Lib.hid (K45.out.below hb48); clear K45
        have bw53 := ball bw46 hb48
        clear bw46
        clear hb48
        go_wp2_with fail
        refine (Q4.out _ K52.out).mono ?_
        rintro e w54 ⟨rfl, hb55⟩
        have K56 := Lib.hid (K49.out.below hb55); clear K49
        have K57 := Lib.hid (K50.out.below hb55); clear K50
        have K58 := Lib.hid (K51.out.below hb55); clear K51
        have K59 := Lib.hid (K52.out.below hb55); clear K52
        have bw60 := ball bw53 hb55
        clear bw53
        clear hb55
        go_wp2_with fail
        go_meet
        exact bw60
    case rest =>
      obtain ⟨w61, rfl⟩ : ∃ y : World, y = wc := ⟨_, rfl⟩
      clear K28
      clear K29
      clear K30
      clear HS1 HU1 HN1 HY1 HSA HSB
      have K62 := Lib.hid (K27.out.below hcut); clear K27
      have bw63 := ball bw32 hcut
      clear bw32
      clear hcut
      go_wp2_with fail
      refine (drawMissingRay_c ad1 _ cap1 _ hm1 K62.out).mono ?_
      rintro e w64 ⟨adl, cl, l, rfl, ⟨hll, hrl, hsl⟩, hb65⟩
      have K66 := Lib.hid (K62.out.below hb65); clear K62
      have bw67 := ball bw63 hb65
      clear bw63
      clear hb65
      have K68 := Lib.hid hrl; clear hrl
      have HSL := Lib.hid hsl; clear hsl
      have hmt := fun h : missB l = true => miss_true h
      have q1 := fun (w : World) (h : RdY w adl l) => missingRay_c adl cl l w h (by omega)
      have q2 := fun (w : World) (h : RdY w adl l) => sMissingRay_c adl cl l w h (by omega)
      have q3 := fun (w : World) (h : RdY w adl l) => isBalancedI_c adl cl l w h (by omega)
      have q4 := fun (w : World) (h : RdY w adl l) => sIsBalanced_c adl cl l w h (by omega)
      have q5 := fun (w : World) (h : RdY w adl l) => isStarI_c adl cl l w h (by omega)
      unfold rayR at q1 q2
      obtain ⟨m, hm⟩ : ∃ m, (if missB l = true then missR l else Ry.z) = m := ⟨_, rfl⟩
      simp only [hm] at q1 q2
      obtain ⟨uM, huM⟩ : ∃ u, missB l = u := ⟨_, rfl⟩
      rw [huM] at hmt hm
      simp only [huM] at q1 q2
      obtain ⟨vS, hvS⟩ : ∃ u, starB l = u := ⟨_, rfl⟩
      obtain ⟨vB, hvB⟩ : ∃ u, balB l = u := ⟨_, rfl⟩
      rw [hvS, hvB] at hmt
      simp only [hvS, hvB] at q3 q4 q5
      obtain ⟨mx, my, mz⟩ := m
      unfold ryV at q1 q2
      simp only at q1 q2
      have Q1 := Lib.hid q1; have Q2 := Lib.hid q2; have Q3 := Lib.hid q3; have Q4 := Lib.hid q4; have Q5 := Lib.hid q5
      have HMT := Lib.hid hmt; have HM := Lib.hid hm
      clear q1 q2 q3 q4 q5 hmt hm hvS hvB huM
      go_wp2_with fail
      refine (Q1.out _ K68.out).mono ?_
      rintro e w69 ⟨rfl, hb70⟩
      have K71 := Lib.hid (K66.out.below hb70); clear K66
      have K72 := Lib.hid (K68.out.below hb70); clear K68
      have bw73 := ball bw67 hb70
      clear bw67
      clear hb70
      have hnl := RyO.new w69 mx my mz rfl
      have hbx := (Below.refl w69.heap.size w69).alloc (Nat.le_refl _) (.cells #[.int .i64 mx, .int .i64 my, .int .i64 mz] 35)
      go_wp2_with fail
      have K74 := Lib.hid (K71.out.below hbx); clear K71
      have K75 := Lib.hid (K72.out.below hbx); clear K72
      have bw76 := ball bw73 hbx
      clear bw73
      clear hbx
      have K77 := Lib.hid hnl; clear hnl
      refine (Q2.out _ K75.out).mono ?_
      rintro e w78 ⟨rfl, hb79⟩
      have K80 := Lib.hid (K74.out.below hb79); clear K74
      have K81 := Lib.hid (K75.out.below hb79); clear K75
      have K82 := Lib.hid (K77.out.below hb79); clear K77
      have bw83 := ball bw76 hb79
      clear bw76
      clear hb79
      have hnl := RyO.new w78 mx my mz rfl
      have hbx := (Below.refl w78.heap.size w78).alloc (Nat.le_refl _) (.cells #[.int .i64 mx, .int .i64 my, .int .i64 mz] 35)
      go_wp2_with fail
      have K84 := Lib.hid (K80.out.below hbx); clear K80
      have K85 := Lib.hid (K81.out.below hbx); clear K81
      have K86 := Lib.hid (K82.out.below hbx); clear K82
      have bw87 := ball bw83 hbx
      clear bw83
      clear hbx
      have K88 := Lib.hid hnl; clear hnl
      refine (Q3.out _ K85.out).mono ?_
      rintro e w89 ⟨rfl, hb90⟩
      have K91 := Lib.hid (K84.out.below hb90); clear K84
      have K92 := Lib.hid (K85.out.below hb90); clear K85
      have K93 := Lib.hid (K86.out.below hb90); clear K86
      have K94 := Lib.hid (K88.out.below hb90); clear K88
      have bw95 := ball bw87 hb90
      clear bw87
      clear hb90
      go_wp2_with fail
      refine (Q4.out _ K92.out).mono ?_
      rintro e w96 ⟨rfl, hb97⟩
      have K98 := Lib.hid (K91.out.below hb97); clear K91
      have K99 := Lib.hid (K92.out.below hb97); clear K92
      have K100 := Lib.hid (K93.out.below hb97); clear K93
      have K101 := Lib.hid (K94.out.below hb97); clear K94
      have bw102 := ball bw95 hb97
      clear bw95
      clear hb97
      clear Q1 Q2 Q3 Q4
      go_upto_region 19 with fail
      go_cut [194] from 161 to 194 (fun s wc => s = .bool false ∧ Below w96.heap.size w96 wc)
      case first =>
        obtain ⟨x0, x1, x2⟩ := RyO.at K100.out
        obtain ⟨y0, y1, y2⟩ := RyO.at K101.out
        cases uM
        case false =>
          go_wp2_with fail
          refine (Q5.out _ K99.out).mono ?_
          rintro e w6 ⟨rfl, hb6⟩
          go_wp2_with fail
          go_meet
          exact ⟨rfl, hb6⟩
        case true =>
          obtain ⟨rfl, rfl⟩ := HMT.out rfl
          go_wp2_with fail
          refine (Q5.out _ K99.out).mono ?_
          rintro e w6 ⟨rfl, hb6⟩
          go_wp2_with fail
          go_meet
          exact ⟨rfl, hb6⟩
      case rest =>
        obtain ⟨rfl, hcut⟩ := hcut
        obtain ⟨w103, rfl⟩ : ∃ y : World, y = wc := ⟨_, rfl⟩
        clear Q5
        clear K101
        have K104 := Lib.hid (K98.out.below hcut); clear K98
        have K105 := Lib.hid (K99.out.below hcut); clear K99
        have K106 := Lib.hid (K100.out.below hcut); clear K100
        have bw107 := ball bw102 hcut
        clear bw102
        clear hcut
        go_upto_if 195 with fail
        go_cut [] from 195 to 195 (fun wc => Below w103.heap.size w103 wc)
        case first =>
          cases uM
          case false =>
            go_wp2_with fail
            go_meet
            exact Below.refl _ _
          case true =>
            obtain ⟨rfl, rfl⟩ := HMT.out rfl
            have hm := HM.out
            rw [if_pos rfl] at hm
            have hbal := miss_bal l
            rw [hm] at hbal
            have hsl5 := fputs_len [⟨mx, my, mz⟩] l
            obtain ⟨x0, x1, x2⟩ := RyO.at K106.out
            obtain ⟨u5, hu5⟩ : ∃ u, addB l [⟨mx, my, mz⟩] = u := ⟨_, rfl⟩
            obtain ⟨S5, hS5⟩ : ∃ S, onB u5 (addR l [⟨mx, my, mz⟩]) = S := ⟨_, rfl⟩
            obtain ⟨n5, hn5⟩ : ∃ n, S5.length = n := ⟨_, rfl⟩
            have CI5 := Lib.hid (fun (g : Nat) (w : World) (h1 : RdY w adl l) (h2 : RdY w (some ⟨g, 0, none⟩) [⟨mx, my, mz⟩]) => (addStars_c adl (some ⟨g, 0, none⟩) cl 1 l [⟨mx, my, mz⟩] w h1 HSL.out (by omega) h2 (Or.inr ⟨⟨_, _, rfl⟩, Nat.le_refl _, by unfold maxLen; omega⟩) (by simp)).mono fun e w' h => StarR.uni h hu5 hS5 hn5)
            have CR5 := Lib.hid (fun (g : Nat) (w : World) (h1 : RdY w adl l) (h2 : RdY w (some ⟨g, 0, none⟩) [⟨mx, my, mz⟩]) => (sAddStars_c adl (some ⟨g, 0, none⟩) cl 1 l [⟨mx, my, mz⟩] w h1 HSL.out (by omega) h2 (by simp)).mono fun e w' h => StarR.uni h hu5 hS5 hn5)
            have HU5 := Lib.hid hu5; have HS5 := Lib.hid hS5; have HN5 := Lib.hid hn5
            have hn12 : n5 ≤ 12 := by
              rw [← hn5, ← hS5]
              unfold onB addR
              split
              · simp at hsl5; omega
              · simp
            clear hu5 hS5 hn5 hsl5 CR5
            go_wp2_with fail
            have hnl := readsY_one w103 w103.heap.size mx my mz rfl
            have hrd1 : RdY (w103.alloc (.cells #[.int .i64 mx, .int .i64 my, .int .i64 mz] 35)) (some ⟨w103.heap.size, 0, none⟩) [⟨mx, my, mz⟩] := by
              rcases hnl with ⟨e, _⟩ | ⟨b, o, c, e, h⟩
              · cases e
              · injection e with e _ _
                rw [e]
                exact h
            have hbx := (Below.refl w103.heap.size w103).alloc (Nat.le_refl _) (.cells #[.int .i64 mx, .int .i64 my, .int .i64 mz] 35)
            have K108 := Lib.hid (K104.out.below hbx); clear K104
            have K109 := Lib.hid (K105.out.below hbx); clear K105
            have K110 := Lib.hid (K106.out.below hbx); clear K106
            have bw111 := hbx
            clear hbx
            have K112 := Lib.hid hrd1; clear hrd1
            refine (CI5.out _ _ K109.out K112.out).mono ?_
            rintro e w113 ⟨ad6, c6, rfl, hrd, hsy, hb114⟩
            have K115 := Lib.hid (K108.out.below hb114); clear K108
            have K116 := Lib.hid (K109.out.below hb114); clear K109
            have K117 := Lib.hid (K110.out.below hb114); clear K110
            have K118 := Lib.hid (K112.out.below hb114); clear K112
            have bw119 := ball bw111 hb114
            clear bw111
            clear hb114
            have K120 := Lib.hid hrd; clear hrd
            clear CI5 hsy
            cases u5
            case false =>
              go_wp2_with fail
              go_meet
              exact bw119
            case true =>
              have hS := HS5.out
              rw [show onB true (addR l [⟨mx, my, mz⟩]) = addR l [⟨mx, my, mz⟩] from rfl] at hS
              obtain ⟨_, _, st3⟩ := add_true HU5.out
              rw [hS] at st3 hbal
              have q3 := fun (w : World) (h : RdY w ad6 S5) => isBalancedI_c ad6 c6 S5 w h (by rw [HN5.out]; omega)
              simp only [st3, hbal, HN5.out, Bool.and_self] at q3
              have Q3 := Lib.hid q3
              clear q3 st3 hbal hS
              go_wp2_with fail
              refine (Q3.out _ K120.out).mono ?_
              rintro e w121 ⟨rfl, hb122⟩
              have K123 := Lib.hid (K115.out.below hb122); clear K115
              have K124 := Lib.hid (K116.out.below hb122); clear K116
              have K125 := Lib.hid (K117.out.below hb122); clear K117
              have K126 := Lib.hid (K118.out.below hb122); clear K118
              have K127 := Lib.hid (K120.out.below hb122); clear K120
              have bw128 := ball bw119 hb122
              clear bw119
              clear hb122
              go_wp2_with fail
              go_meet
              exact bw128
        case rest =>
          obtain ⟨w129, rfl⟩ : ∃ y : World, y = wc := ⟨_, rfl⟩
          clear HM HMT HSL
          clear K105
          clear K106
          have K130 := Lib.hid (K104.out.below hcut); clear K104
          have bw131 := ball bw107 hcut
          clear bw107
          clear hcut
          go_wp2_with fail
          refine (drawMapStar_c ad1 _ cap1 _ hm1 K130.out).mono ?_
          rintro e w132 ⟨adm, cm, m, p, q, r, s, rfl, ⟨hlm, hrm, hsm⟩, hb133⟩
          have K134 := Lib.hid (K130.out.below hb133); clear K130
          have bw135 := ball bw131 hb133
          clear bw131
          clear hb133
          have K136 := Lib.hid hrm; clear hrm
          clear hsm
          have hslm := fputs_len (m.map (mapR p q r s)) []
          obtain ⟨u7, hu7⟩ : ∃ u, mpsB p q r s m = u := ⟨_, rfl⟩
          obtain ⟨S7, hS7⟩ : ∃ S, onB u7 (fputs (m.map (mapR p q r s)) []) = S := ⟨_, rfl⟩
          obtain ⟨n7, hn7⟩ : ∃ n, S7.length = n := ⟨_, rfl⟩
          have CI7 := Lib.hid (fun (w : World) (h1 : RdY w adm m) => (mapStar_c adm cm m p q r s w h1 (by omega)).mono fun e w' h => StarR.uni h hu7 hS7 hn7)
          have CR7 := Lib.hid (fun (w : World) (h1 : RdY w adm m) => (sMapStar_c adm cm m p q r s w h1 (by omega)).mono fun e w' h => StarR.uni h hu7 hS7 hn7)
          have HU7 := Lib.hid hu7; have HS7 := Lib.hid hS7; have HN7 := Lib.hid hn7
          have hn11 : n7 ≤ 11 := by
            rw [← hn7, ← hS7]
            unfold onB
            split
            · rw [List.length_map, List.length_nil] at hslm; omega
            · simp
          clear hu7 hS7 hn7 hslm
          go_wp2_with fail
          refine (CI7.out _ K136.out).mono ?_
          rintro e w137 ⟨ad8, c8, rfl, hrd, hsy, hb138⟩
          have K139 := Lib.hid (K134.out.below hb138); clear K134
          have K140 := Lib.hid (K136.out.below hb138); clear K136
          have bw141 := ball bw135 hb138
          clear bw135
          clear hb138
          have K142 := Lib.hid hrd; clear hrd
          clear hsy
          go_wp2_with fail
          refine (CR7.out _ K140.out).mono ?_
          rintro e w143 ⟨ad9, c9, rfl, hrd, hsy, hb144⟩
          have K145 := Lib.hid (K139.out.below hb144); clear K139
          have K146 := Lib.hid (K140.out.below hb144); clear K140
          have K147 := Lib.hid (K142.out.below hb144); clear K142
          have bw148 := ball bw141 hb144
          clear bw141
          clear hb144
          have K149 := Lib.hid hrd; clear hrd
          clear hsy CI7 CR7
          go_wp2_with fail
          refine (drawScaleStar_c ad1 _ cap1 _ hm1 K145.out).mono ?_
          rintro e w150 ⟨ads, cs, t, k, rfl, ⟨hlt, hrt, hst⟩, hb151⟩
          have K152 := Lib.hid (K145.out.below hb151); clear K145
          have K153 := Lib.hid (K146.out.below hb151); clear K146
          have K154 := Lib.hid (K147.out.below hb151); clear K147
          have K155 := Lib.hid (K149.out.below hb151); clear K149
          have bw156 := ball bw148 hb151
          clear bw148
          clear hb151
          have K157 := Lib.hid hrt; clear hrt
          have HST := Lib.hid hst; clear hst
          have hslt := scl_len k t
          obtain ⟨u2, hu2⟩ : ∃ u, scaB k t = u := ⟨_, rfl⟩
          obtain ⟨S2, hS2⟩ : ∃ S, onB u2 (sclR k t) = S := ⟨_, rfl⟩
          obtain ⟨n2, hn2⟩ : ∃ n, S2.length = n := ⟨_, rfl⟩
          have CI2 := Lib.hid (fun (w : World) (h1 : RdY w ads t) => (scaleStar_c ads cs t k w h1 HST.out (by omega)).mono fun e w' h => StarR.uni h hu2 hS2 hn2)
          have CR2 := Lib.hid (fun (w : World) (h1 : RdY w ads t) => (sScaleStar_c ads cs t k w h1 (by omega)).mono fun e w' h => StarR.uni h hu2 hS2 hn2)
          have HU2 := Lib.hid hu2; have HS2 := Lib.hid hS2; have HN2 := Lib.hid hn2
          have hn112 : n2 ≤ 11 := by
            rw [← hn2, ← hS2]
            unfold onB
            split
            · omega
            · simp
          clear hu2 hS2 hn2 hslt
          go_wp2_with fail
          refine (CI2.out _ K157.out).mono ?_
          rintro e w158 ⟨ad10, c10, rfl, hrd, hsy, hb159⟩
          have K160 := Lib.hid (K152.out.below hb159); clear K152
          have K161 := Lib.hid (K153.out.below hb159); clear K153
          have K162 := Lib.hid (K154.out.below hb159); clear K154
          have K163 := Lib.hid (K155.out.below hb159); clear K155
          have K164 := Lib.hid (K157.out.below hb159); clear K157
          have bw165 := ball bw156 hb159
          clear bw156
          clear hb159
          have K166 := Lib.hid hrd; clear hrd
          clear hsy
          go_wp2_with fail
          refine (CR2.out _ K164.out).mono ?_
          rintro e w167 ⟨ad11, c11, rfl, hrd, hsy, hb168⟩
          have K169 := Lib.hid (K160.out.below hb168); clear K160
          have K170 := Lib.hid (K161.out.below hb168); clear K161
          have K171 := Lib.hid (K162.out.below hb168); clear K162
          have K172 := Lib.hid (K163.out.below hb168); clear K163
          have K173 := Lib.hid (K164.out.below hb168); clear K164
          have K174 := Lib.hid (K166.out.below hb168); clear K166
          have bw175 := ball bw165 hb168
          clear bw165
          clear hb168
          have K176 := Lib.hid hrd; clear hrd
          clear hsy CI2 CR2 HST
          have CP1 := Lib.hid (fun (w : World) h1 h2 => pSame_c ad8 ad9 c8 c9 n7 S7 HN7.out (by omega) w h1 h2)
          have CP2 := Lib.hid (fun (w : World) h1 h2 => pSame_c ad10 ad11 c10 c11 n2 S2 HN2.out (by omega) w h1 h2)
          go_wp2_with fail
          refine (CP1.out _ K171.out K172.out).mono ?_
          rintro e w177 ⟨rfl, hb178⟩
          have K179 := Lib.hid (K169.out.below hb178); clear K169
          have K180 := Lib.hid (K170.out.below hb178); clear K170
          have K181 := Lib.hid (K171.out.below hb178); clear K171
          have K182 := Lib.hid (K172.out.below hb178); clear K172
          have K183 := Lib.hid (K173.out.below hb178); clear K173
          have K184 := Lib.hid (K174.out.below hb178); clear K174
          have K185 := Lib.hid (K176.out.below hb178); clear K176
          have bw186 := ball bw175 hb178
          clear bw175
          clear hb178
          go_wp2_with fail
          refine (CP2.out _ K184.out K185.out).mono ?_
          rintro e w187 ⟨rfl, hb188⟩
          have K189 := Lib.hid (K179.out.below hb188); clear K179
          have K190 := Lib.hid (K180.out.below hb188); clear K180
          have K191 := Lib.hid (K181.out.below hb188); clear K181
          have K192 := Lib.hid (K182.out.below hb188); clear K182
          have K193 := Lib.hid (K183.out.below hb188); clear K183
          have K194 := Lib.hid (K184.out.below hb188); clear K184
          have K195 := Lib.hid (K185.out.below hb188); clear K185
          have bw196 := ball bw186 hb188
          clear bw186
          clear hb188
          clear CP1 CP2
          clear K192
          clear K195
          go_upto_if 278 with fail
          go_cut [] from 278 to 278 (fun wc => Below w187.heap.size w187 wc)
          case first =>
            cases u7
            case false =>
              go_wp2_with fail
              go_meet
              exact Below.refl _ _
            case true =>
              have hS := HS7.out
              rw [show onB true (fputs (m.map (mapR p q r s)) []) = fputs (m.map (mapR p q r s)) [] from rfl] at hS
              obtain ⟨st1, st2, _⟩ := map_true HU7.out
              have hba := map_bal HU7.out
              have hle := map_len HU7.out
              rw [hS, HN7.out] at hle
              have hle1 : ((n7 : Int) != (m.length : Int)) = false := by rw [hle]; exact bne_self_eq_false _
              have hle2 : (n7 != m.length) = false := by rw [hle]; exact bne_self_eq_false _
              clear hle
              rw [hS] at st2 hba
              have q1 := fun (w : World) (h : RdY w adm m) => isBalancedI_c adm cm m w h (by omega)
              have q2 := fun (w : World) (h : RdY w ad8 S7) => isBalancedI_c ad8 c8 S7 w h (by rw [HN7.out]; omega)
              simp only [st1, st2, hba, HN7.out, Bool.true_and] at q1 q2
              generalize balB m = vb at q1 q2
              have Q1 := Lib.hid q1; have Q2 := Lib.hid q2
              clear q1 q2 st1 st2 hba
              go_wp2_with fail
              refine (Q1.out _ K190.out).mono ?_
              rintro e w197 ⟨rfl, hb198⟩
              have K199 := Lib.hid (K189.out.below hb198); clear K189
              have K200 := Lib.hid (K190.out.below hb198); clear K190
              have K201 := Lib.hid (K191.out.below hb198); clear K191
              have K202 := Lib.hid (K193.out.below hb198); clear K193
              have K203 := Lib.hid (K194.out.below hb198); clear K194
              have bw204 := hb198
              clear hb198
              go_wp2_with fail
              refine (Q2.out _ K201.out).mono ?_
              rintro e w205 ⟨rfl, hb206⟩
              have K207 := Lib.hid (K199.out.below hb206); clear K199
              have K208 := Lib.hid (K200.out.below hb206); clear K200
              have K209 := Lib.hid (K201.out.below hb206); clear K201
              have K210 := Lib.hid (K202.out.below hb206); clear K202
              have K211 := Lib.hid (K203.out.below hb206); clear K203
              have bw212 := ball bw204 hb206
              clear bw204
              clear hb206
              go_wp2_with fail
              go_meet
              exact bw212
          case rest =>
            obtain ⟨w213, rfl⟩ : ∃ y : World, y = wc := ⟨_, rfl⟩
            have K214 := Lib.hid (K189.out.below hcut); clear K189
            have K215 := Lib.hid (K190.out.below hcut); clear K190
            have K216 := Lib.hid (K191.out.below hcut); clear K191
            have K217 := Lib.hid (K193.out.below hcut); clear K193
            have K218 := Lib.hid (K194.out.below hcut); clear K194
            have bw219 := ball bw196 hcut
            clear bw196
            clear hcut
            clear K215
            clear K216
            go_upto_if 307 with fail
            go_cut [] from 307 to 307 (fun wc => Below w213.heap.size w213 wc)
            case first =>
              cases u2
              case false =>
                go_wp2_with fail
                go_meet
                exact Below.refl _ _
              case true =>
                have hS := HS2.out
                rw [show onB true (sclR k t) = sclR k t from rfl] at hS
                obtain ⟨st1, st2, _⟩ := scl_true HU2.out
                have hba := scl_bal HU2.out
                
                rw [hS] at st2 hba
                have q1 := fun (w : World) (h : RdY w ads t) => isBalancedI_c ads cs t w h (by omega)
                have q2 := fun (w : World) (h : RdY w ad10 S2) => isBalancedI_c ad10 c10 S2 w h (by rw [HN2.out]; omega)
                simp only [st1, st2, hba, HN2.out, Bool.true_and] at q1 q2
                generalize balB t = vb at q1 q2
                have Q1 := Lib.hid q1; have Q2 := Lib.hid q2
                clear q1 q2 st1 st2 hba
                go_wp2_with fail
                refine (Q1.out _ K217.out).mono ?_
                rintro e w220 ⟨rfl, hb221⟩
                have K222 := Lib.hid (K214.out.below hb221); clear K214
                have K223 := Lib.hid (K217.out.below hb221); clear K217
                have K224 := Lib.hid (K218.out.below hb221); clear K218
                have bw225 := hb221
                clear hb221
                go_wp2_with fail
                refine (Q2.out _ K224.out).mono ?_
                rintro e w226 ⟨rfl, hb227⟩
                have K228 := Lib.hid (K222.out.below hb227); clear K222
                have K229 := Lib.hid (K223.out.below hb227); clear K223
                have K230 := Lib.hid (K224.out.below hb227); clear K224
                have bw231 := ball bw225 hb227
                clear bw225
                clear hb227
                go_wp2_with fail
                go_meet
                exact bw231
            case rest =>
              obtain ⟨w232, rfl⟩ : ∃ y : World, y = wc := ⟨_, rfl⟩
              have K233 := Lib.hid (K214.out.below hcut); clear K214
              have K234 := Lib.hid (K217.out.below hcut); clear K217
              have K235 := Lib.hid (K218.out.below hcut); clear K218
              have bw236 := ball bw219 hcut
              clear bw219
              clear hcut
              clear K234
              clear K235
              go_wp2_with fail
              refine (drawPrimitiveRay_c ad1 _ cap1 _ hm1 K233.out).mono ?_
              rintro e w237 ⟨x, y, rfl, hb238⟩
              have K239 := Lib.hid (K233.out.below hb238); clear K233
              have bw240 := ball bw236 hb238
              clear bw236
              clear hb238
              clear K239
              have hpb := prim_back x y
              have hbd := fun h : stepsB x y = true => steps_of h
              have q1 := fun (w : World) => primitiveRay_c x y w
              have q2 := fun (w : World) => sPrimitiveRay_c x y w
              unfold rayR at q1 q2
              obtain ⟨pr, hpr⟩ : ∃ m, primR x y = m := ⟨_, rfl⟩
              obtain ⟨uP, huP⟩ : ∃ u, stepsB x y = u := ⟨_, rfl⟩
              rw [hpr] at hpb
              rw [huP] at hbd
              simp only [hpr, huP] at q1 q2
              clear hpr huP
              obtain ⟨px, py, pz⟩ := pr
              simp only at hpb
              cases uP
              case false =>
                rw [show (if false = true then (⟨px, py, pz⟩ : Ry) else Ry.z) = ⟨0, 0, 0⟩ from rfl] at q1 q2
                unfold ryV at q1 q2
                simp only at q1 q2
                have Q1 := Lib.hid q1; have Q2 := Lib.hid q2
                clear q1 q2 hpb hbd
                go_wp2_with fail
                refine (Q1.out _).mono ?_
                rintro e w241 ⟨rfl, hb242⟩
                have bw243 := ball bw240 hb242
                clear bw240
                clear hb242
                have hnl := RyO.new w241 0 0 0 rfl
                have hbx := (Below.refl w241.heap.size w241).alloc (Nat.le_refl _) (.cells #[.int .i64 0, .int .i64 0, .int .i64 0] 35)
                go_wp2_with fail
                have bw244 := ball bw243 hbx
                clear bw243
                clear hbx
                have K245 := Lib.hid hnl; clear hnl
                refine (Q2.out _).mono ?_
                rintro e w246 ⟨rfl, hb247⟩
                have K248 := Lib.hid (K245.out.below hb247); clear K245
                have bw249 := ball bw244 hb247
                clear bw244
                clear hb247
                have hnl := RyO.new w246 0 0 0 rfl
                have hbx := (Below.refl w246.heap.size w246).alloc (Nat.le_refl _) (.cells #[.int .i64 0, .int .i64 0, .int .i64 0] 35)
                go_upto_region 48 with fail
                have K250 := Lib.hid (K248.out.below hbx); clear K248
                have bw251 := ball bw249 hbx
                clear bw249
                clear hbx
                have K252 := Lib.hid hnl; clear hnl
                clear Q1 Q2
                generalize (w246.alloc (.cells #[.int .i64 0, .int .i64 0, .int .i64 0] 35)) = wz at K250 K252 bw251 ⊢
                obtain ⟨x0, x1, x2⟩ := RyO.at K250.out
                obtain ⟨y0, y1, y2⟩ := RyO.at K252.out
                go_wp2_with fail
                go_ret
                exact ⟨rfl, bw251⟩
              case true =>
                rw [show (if true = true then (⟨px, py, pz⟩ : Ry) else Ry.z) = ⟨px, py, pz⟩ from rfl] at q1 q2
                unfold ryV at q1 q2
                simp only at q1 q2
                have bd := hbd rfl
                have e1 : IntKind.i64.wrap (pz * px) = x := by rw [hpb.1]; exact i64_small (by omega) (by omega)
                have e2 : IntKind.i64.wrap (pz * py) = y := by rw [hpb.2]; exact i64_small (by omega) (by omega)
                have Q1 := Lib.hid q1; have Q2 := Lib.hid q2
                clear q1 q2 hpb hbd
                go_wp2_with fail
                refine (Q1.out _).mono ?_
                rintro e w253 ⟨rfl, hb254⟩
                have bw255 := ball bw240 hb254
                clear bw240
                clear hb254
                have hnl := RyO.new w253 px py pz rfl
                have hbx := (Below.refl w253.heap.size w253).alloc (Nat.le_refl _) (.cells #[.int .i64 px, .int .i64 py, .int .i64 pz] 35)
                go_wp2_with fail
                have bw256 := ball bw255 hbx
                clear bw255
                clear hbx
                have K257 := Lib.hid hnl; clear hnl
                refine (Q2.out _).mono ?_
                rintro e w258 ⟨rfl, hb259⟩
                have K260 := Lib.hid (K257.out.below hb259); clear K257
                have bw261 := ball bw256 hb259
                clear bw256
                clear hb259
                have hnl := RyO.new w258 px py pz rfl
                have hbx := (Below.refl w258.heap.size w258).alloc (Nat.le_refl _) (.cells #[.int .i64 px, .int .i64 py, .int .i64 pz] 35)
                go_upto_region 48 with fail
                have K262 := Lib.hid (K260.out.below hbx); clear K260
                have bw263 := ball bw261 hbx
                clear bw261
                clear hbx
                have K264 := Lib.hid hnl; clear hnl
                clear Q1 Q2
                generalize (w258.alloc (.cells #[.int .i64 px, .int .i64 py, .int .i64 pz] 35)) = wz at K262 K264 bw263 ⊢
                obtain ⟨x0, x1, x2⟩ := RyO.at K262.out
                obtain ⟨y0, y1, y2⟩ := RyO.at K264.out
                go_wp2_with fail
                go_ret
                exact ⟨rfl, bw263⟩

end Go.Proofs.Ytlplodkabeiimaa
