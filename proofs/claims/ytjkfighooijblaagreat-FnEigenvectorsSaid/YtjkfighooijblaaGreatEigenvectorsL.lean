/-
  The walk of 'laws.FnEigenvectors': it returns true. Printed by gen_lawE.py. By an AI agent.
-/
import Derived.Test.YtjkfighooijblaaGreatEhU
namespace Go.Proofs.YtjkfighooijblaaGreat
open Go.RowKit

set_option maxHeartbeats 64000000 in
set_option maxRecDepth 100000 in
theorem lawEigenvectors_any (ad0 : Option Addr) (n0 cap0 : Nat) (ad1 : Option Addr) (n1 cap1 : Nat) (w : World) (hm0 : n0 ≤ 9223372036854775807) (hr0 : RdB w ad0 n0) (hm1 : n1 ≤ 9223372036854775807) (hr1 : RdB w ad1 n1) :
    Calls Tryz.prog 3 #[.slice ad0 n0 cap0, .slice ad1 n1 cap1] w fun e w' => e = .returned (.bool true) ∧ Below w.heap.size w w' := by
  have bw0 := Below.refl w.heap.size w
  have K1 := Lib.hid hr0; clear hr0
  have K2 := Lib.hid hr1; clear hr1
  obtain ⟨tb, htb⟩ : ∃ tb : Bool, decide (1048576 < wrap64 ((n0 : Int) + (n1 : Int))) = tb := ⟨_, rfl⟩
  cases tb
  case true =>
    go_enter Tryz.func3, Tryz.ntmps3
    go_wp2_with fail
    go_ret
    exact ⟨rfl, bw0⟩
  case false =>
    go_enter Tryz.func3, Tryz.ntmps3
    go_wp2_with fail
    refine (drawEigenvectorOf_c ad0 n0 cap0 _ hm0 K1.out).mono ?_
    rintro e w3 ⟨adm, cm, M, rfl, hsm, hrm, hb4⟩
    have K5 := Lib.hid (K1.out.below hb4); clear K1
    have K6 := Lib.hid (K2.out.below hb4); clear K2
    have bw7 := ball bw0 hb4
    clear bw0
    clear hb4
    have K8 := Lib.hid hrm; clear hrm
    clear K5
    clear htb
    obtain ⟨u, P, x, hP7, q1, q2, q3⟩ := evPack adm cm M hsm
    obtain ⟨nM, hnM⟩ : ∃ n, M.length = n := ⟨_, rfl⟩
    obtain ⟨nP, hnP⟩ : ∃ n, P.length = n := ⟨_, rfl⟩
    have cq := fun (a : Option Addr) (c : Nat) (a' : Option Addr) (c' : Nat) (w : World) => qI_c a c a' c' P w (by omega)
    unfold OutL at q1 q2
    simp only [hnM] at q1 q2 q3
    simp only [hnP] at q1 q2 q3 cq
    rw [hnM]
    have Q1 := Lib.hid q1; have Q2 := Lib.hid q2; have Q3 := Lib.hid q3; have CQ := Lib.hid cq
    clear q1 q2 q3 cq hsm hP7 hnM hnP
    go_wp2_with fail
    refine (Q1.out _ K8.out).mono ?_
    rintro e w9 ⟨av, cv, rfl, hrv, hb10⟩
    have K11 := Lib.hid (K6.out.below hb10); clear K6
    have K12 := Lib.hid (K8.out.below hb10); clear K8
    have bw13 := ball bw7 hb10
    clear bw7
    clear hb10
    have K14 := Lib.hid hrv; clear hrv
    go_wp2_with fail
    refine (Q2.out _ K12.out).mono ?_
    rintro e w15 ⟨a2, c2, rfl, hrv2, hb16⟩
    have K17 := Lib.hid (K11.out.below hb16); clear K11
    have K18 := Lib.hid (K12.out.below hb16); clear K12
    have K19 := Lib.hid (K14.out.below hb16); clear K14
    have bw20 := ball bw13 hb16
    clear bw13
    clear hb16
    have K21 := Lib.hid hrv2; clear hrv2
    clear Q1 Q2
    have ee : (u != u) = false := bne_self_eq_false u
    go_wp2_with fail
    refine (CQ.out av cv a2 c2 _ K19.out K21.out).mono ?_
    rintro e w22 ⟨rfl, hb23⟩
    have K24 := Lib.hid (K17.out.below hb23); clear K17
    have K25 := Lib.hid (K18.out.below hb23); clear K18
    have K26 := Lib.hid (K19.out.below hb23); clear K19
    have K27 := Lib.hid (K21.out.below hb23); clear K21
    have bw28 := ball bw20 hb23
    clear bw20
    clear hb23
    clear CQ ee
    clear K27
    go_upto_if 67 with fail
    go_cut [] from 67 to 67 (fun wc => Below w22.heap.size w22 wc)
    case first =>
      have bwq := Below.refl w22.heap.size w22
      cases u
      case false =>
        go_wp2_with fail
        go_meet
        exact bwq
      case true =>
        obtain ⟨g1, g2, g3⟩ := Q3.out (by first | rfl | trivial)
        have G1 := Lib.hid g1; have G2 := Lib.hid g2; have G3 := Lib.hid g3
        clear g1 g2 g3 Q3
        go_wp2_with fail
        refine (G1.out _ K25.out).mono ?_
        rintro e w29 ⟨rfl, hb30⟩
        have K31 := Lib.hid (K24.out.below hb30); clear K24
        have K32 := Lib.hid (K25.out.below hb30); clear K25
        have K33 := Lib.hid (K26.out.below hb30); clear K26
        have bw34 := ball bwq hb30
        clear bwq
        clear hb30
        have hbA : Below w29.heap.size w29 (w29.alloc (.cells #[.int .i64 x, .int .i64 1] 30)) := (Below.refl _ _).alloc (Nat.le_refl _) _
        have oM := FrO.new w29 x 1 rfl
        have K35 := Lib.hid (K31.out.below hbA); clear K31
        have K36 := Lib.hid (K32.out.below hbA); clear K32
        have K37 := Lib.hid (K33.out.below hbA); clear K33
        have bw38 := ball bw34 hbA
        clear bw34
        clear hbA
        have K39 := Lib.hid oM; clear oM
        clear G1
        obtain ⟨y0, y1⟩ := K39.out.at
        go_wp2_with fail
        refine (G2.out _ _ _ K36.out K37.out).mono ?_
        rintro e w40 ⟨rfl, hb41⟩
        have K42 := Lib.hid (K35.out.below hb41); clear K35
        have K43 := Lib.hid (K36.out.below hb41); clear K36
        have K44 := Lib.hid (K37.out.below hb41); clear K37
        have K45 := Lib.hid (K39.out.below hb41); clear K39
        have bw46 := ball bw38 hb41
        clear bw38
        clear hb41
        clear G2 y0 y1
        obtain ⟨y0, y1⟩ := K45.out.at
        go_wp2_with fail
        refine (G3.out _ _ _ K43.out K44.out).mono ?_
        rintro e w47 ⟨rfl, hb48⟩
        have K49 := Lib.hid (K42.out.below hb48); clear K42
        have K50 := Lib.hid (K43.out.below hb48); clear K43
        have K51 := Lib.hid (K44.out.below hb48); clear K44
        have K52 := Lib.hid (K45.out.below hb48); clear K45
        have bw53 := ball bw46 hb48
        clear bw46
        clear hb48
        clear G3 y0 y1
        obtain ⟨y0, y1⟩ := K52.out.at
        go_wp2_with fail
        go_meet
        exact bw53
    case rest =>
      obtain ⟨w54, rfl⟩ : ∃ y : World, y = wc := ⟨_, rfl⟩
      clear K25
      clear K26
      have K55 := Lib.hid (K24.out.below hcut); clear K24
      have bw56 := ball bw28 hcut
      clear bw28
      clear hcut
      clear Q3
      go_wp2_with fail
      refine (drawPotentialOf_c ad1 n1 cap1 _ hm1 K55.out).mono ?_
      rintro e w57 ⟨adu, cu, U, us, x2, rfl, hsu, hmu, hb58⟩
      have K59 := Lib.hid (K55.out.below hb58); clear K55
      have bw60 := ball bw56 hb58
      clear bw56
      clear hb58
      have hru := hmu.rd; clear hmu
      have K61 := Lib.hid hru; clear hru
      obtain ⟨u2, P2, hP2, q1, q2, q3⟩ := poPack adu cu U x2 hsu
      obtain ⟨nU, hnU⟩ : ∃ n, U.length = n := ⟨_, rfl⟩
      obtain ⟨nP2, hnP2⟩ : ∃ n, P2.length = n := ⟨_, rfl⟩
      have cq := fun (a : Option Addr) (c : Nat) (a' : Option Addr) (c' : Nat) (w : World) => qI_c a c a' c' P2 w (by omega)
      unfold OutL at q1 q2
      simp only [hnU] at q1 q2 q3
      simp only [hnP2] at q1 q2 q3 cq
      rw [hnU]
      have Q1 := Lib.hid q1; have Q2 := Lib.hid q2; have Q3 := Lib.hid q3; have CQ := Lib.hid cq
      clear q1 q2 q3 cq hsu hP2 hnU hnP2
      go_wp2_with fail
      refine (Q1.out _ K61.out).mono ?_
      rintro e w62 ⟨ap, cp, rfl, hrp, hb63⟩
      have K64 := Lib.hid (K59.out.below hb63); clear K59
      have K65 := Lib.hid (K61.out.below hb63); clear K61
      have bw66 := ball bw60 hb63
      clear bw60
      clear hb63
      have K67 := Lib.hid hrp; clear hrp
      go_wp2_with fail
      refine (Q2.out _ K65.out).mono ?_
      rintro e w68 ⟨ap2, cp2, rfl, hrp2, hb69⟩
      have K70 := Lib.hid (K64.out.below hb69); clear K64
      have K71 := Lib.hid (K65.out.below hb69); clear K65
      have K72 := Lib.hid (K67.out.below hb69); clear K67
      have bw73 := ball bw66 hb69
      clear bw66
      clear hb69
      have K74 := Lib.hid hrp2; clear hrp2
      clear Q1 Q2
      go_wp2_with fail
      refine (drawIsEigenvector_c ad1 n1 cap1 _ hm1 K70.out).mono ?_
      rintro e w75 ⟨ada, ca, A, x3, adw, cw, p3, rfl, ⟨hsa, hp3⟩, hra, hrw, hb76⟩
      have K77 := Lib.hid (K70.out.below hb76); clear K70
      have K78 := Lib.hid (K71.out.below hb76); clear K71
      have K79 := Lib.hid (K72.out.below hb76); clear K72
      have K80 := Lib.hid (K74.out.below hb76); clear K74
      have bw81 := ball bw73 hb76
      clear bw73
      clear hb76
      have K82 := Lib.hid hra; clear hra
      have K83 := Lib.hid hrw; clear hrw
      obtain ⟨B3, R3, q4, q5⟩ := eiPack ada ca A x3 adw cw p3 hsa hp3
      obtain ⟨nA, hnA⟩ : ∃ n, A.length = n := ⟨_, rfl⟩
      obtain ⟨nW, hnW⟩ : ∃ n, p3.length = n := ⟨_, rfl⟩
      simp only [hnA] at q4 q5
      simp only [hnW] at q4 q5
      rw [hnA, hnW]
      have Q4 := Lib.hid q4; have Q5 := Lib.hid q5
      clear q4 q5 hsa hp3 hnA hnW
      go_wp2_with fail
      refine (Q4.out _ K82.out K83.out).mono ?_
      rintro e w84 ⟨rfl, hb85⟩
      have K86 := Lib.hid (K77.out.below hb85); clear K77
      have K87 := Lib.hid (K78.out.below hb85); clear K78
      have K88 := Lib.hid (K79.out.below hb85); clear K79
      have K89 := Lib.hid (K80.out.below hb85); clear K80
      have K90 := Lib.hid (K82.out.below hb85); clear K82
      have K91 := Lib.hid (K83.out.below hb85); clear K83
      have bw92 := ball bw81 hb85
      clear bw81
      clear hb85
      go_wp2_with fail
      refine (Q5.out _ K90.out K91.out).mono ?_
      rintro e w93 ⟨rfl, hb94⟩
      have K95 := Lib.hid (K86.out.below hb94); clear K86
      have K96 := Lib.hid (K87.out.below hb94); clear K87
      have K97 := Lib.hid (K88.out.below hb94); clear K88
      have K98 := Lib.hid (K89.out.below hb94); clear K89
      have K99 := Lib.hid (K90.out.below hb94); clear K90
      have K100 := Lib.hid (K91.out.below hb94); clear K91
      have bw101 := ball bw92 hb94
      clear bw92
      clear hb94
      clear Q4 Q5
      clear K99
      clear K100
      go_wp2_with fail
      refine (drawProvesMean_c ad1 n1 cap1 _ hm1 K95.out).mono ?_
      rintro e w102 ⟨adb, cb, E, y, adz, cz, z, rfl, ⟨hsb, hp4⟩, hrb, hrz, hb103⟩
      have K104 := Lib.hid (K95.out.below hb103); clear K95
      have K105 := Lib.hid (K96.out.below hb103); clear K96
      have K106 := Lib.hid (K97.out.below hb103); clear K97
      have K107 := Lib.hid (K98.out.below hb103); clear K98
      have bw108 := ball bw101 hb103
      clear bw101
      clear hb103
      have K109 := Lib.hid hrb; clear hrb
      have K110 := Lib.hid hrz; clear hrz
      obtain ⟨B4, R4, q6, q7, q8⟩ := prPack adb cb E y adz cz z hsb hp4
      obtain ⟨nE, hnE⟩ : ∃ n, E.length = n := ⟨_, rfl⟩
      obtain ⟨nZ, hnZ⟩ : ∃ n, z.length = n := ⟨_, rfl⟩
      simp only [hnE] at q6 q7 q8
      simp only [hnZ] at q6 q7
      rw [hnE, hnZ]
      have Q6 := Lib.hid q6; have Q7 := Lib.hid q7; have Q8 := Lib.hid q8
      clear q6 q7 q8 hsb hp4 hnE hnZ
      go_wp2_with fail
      refine (Q6.out _ K109.out K110.out).mono ?_
      rintro e w111 ⟨rfl, hb112⟩
      have K113 := Lib.hid (K104.out.below hb112); clear K104
      have K114 := Lib.hid (K105.out.below hb112); clear K105
      have K115 := Lib.hid (K106.out.below hb112); clear K106
      have K116 := Lib.hid (K107.out.below hb112); clear K107
      have K117 := Lib.hid (K109.out.below hb112); clear K109
      have K118 := Lib.hid (K110.out.below hb112); clear K110
      have bw119 := ball bw108 hb112
      clear bw108
      clear hb112
      go_wp2_with fail
      refine (Q7.out _ K117.out K118.out).mono ?_
      rintro e w120 ⟨rfl, hb121⟩
      have K122 := Lib.hid (K113.out.below hb121); clear K113
      have K123 := Lib.hid (K114.out.below hb121); clear K114
      have K124 := Lib.hid (K115.out.below hb121); clear K115
      have K125 := Lib.hid (K116.out.below hb121); clear K116
      have K126 := Lib.hid (K117.out.below hb121); clear K117
      have K127 := Lib.hid (K118.out.below hb121); clear K118
      have bw128 := ball bw119 hb121
      clear bw119
      clear hb121
      clear Q6 Q7
      clear K122
      clear K127
      have e1 : (u2 != u2) = false := bne_self_eq_false u2
      have e2 : (B3 != B3) = false := bne_self_eq_false B3
      have e3 : (R3 != R3) = false := bne_self_eq_false R3
      have e4 : (B4 != B4) = false := bne_self_eq_false B4
      have e5 : (R4 != R4) = false := bne_self_eq_false R4
      go_wp2_with fail
      refine (CQ.out ap cp ap2 cp2 _ K124.out K125.out).mono ?_
      rintro e w129 ⟨rfl, hb130⟩
      have K131 := Lib.hid (K123.out.below hb130); clear K123
      have K132 := Lib.hid (K124.out.below hb130); clear K124
      have K133 := Lib.hid (K125.out.below hb130); clear K125
      have K134 := Lib.hid (K126.out.below hb130); clear K126
      have bw135 := ball bw128 hb130
      clear bw128
      clear hb130
      clear CQ
      clear K133
      go_upto_if 198 with fail
      go_cut [] from 198 to 198 (fun wc => Below w129.heap.size w129 wc)
      case first =>
        have bwq := Below.refl w129.heap.size w129
        clear e1 e2 e3 e4 e5 Q8
        cases u2
        case false =>
          go_wp2_with fail
          go_meet
          exact bwq
        case true =>
          have g3 := Q3.out (by first | rfl | trivial)
          have G3 := Lib.hid g3
          clear g3 Q3
          go_wp2_with fail
          refine (G3.out _ _ _ K131.out K132.out).mono ?_
          rintro e w136 ⟨rfl, hb137⟩
          have K138 := Lib.hid (K131.out.below hb137); clear K131
          have K139 := Lib.hid (K132.out.below hb137); clear K132
          have K140 := Lib.hid (K134.out.below hb137); clear K134
          have bw141 := ball bwq hb137
          clear bwq
          clear hb137
          clear G3
          go_wp2_with fail
          go_meet
          exact bw141
      case rest =>
        obtain ⟨w142, rfl⟩ : ∃ y : World, y = wc := ⟨_, rfl⟩
        clear K131
        clear K132
        have K143 := Lib.hid (K134.out.below hcut); clear K134
        have bw144 := ball bw135 hcut
        clear bw135
        clear hcut
        clear Q3 e1 e2 e3 e4 e5
        cases R4
        case false =>
          go_wp2_with fail
          go_ret
          exact ⟨rfl, bw144⟩
        case true =>
          cases B4
          case false =>
            go_wp2_with fail
            go_ret
            exact ⟨rfl, bw144⟩
          case true =>
            obtain ⟨a, d, Z, k, q, z1, z2⟩ := Q8.out (by first | rfl | trivial) (by first | rfl | trivial)
            have Q := Lib.hid q; have Z1 := Lib.hid z1; have Z2 := Lib.hid z2
            clear q z1 z2 Q8
            go_wp2_with fail
            refine (Q.out _ K143.out).mono ?_
            rintro e w145 ⟨rfl, hb146⟩
            have K147 := Lib.hid (K143.out.below hb146); clear K143
            have bw148 := ball bw144 hb146
            clear bw144
            clear hb146
            have hbA : Below w145.heap.size w145 (w145.alloc (.cells #[.int .i64 a, .int .i64 d] 30)) := (Below.refl _ _).alloc (Nat.le_refl _) _
            have oM := FrO.new w145 a d rfl
            clear K147
            have bw149 := ball bw148 hbA
            clear bw148
            clear hbA
            clear Q
            obtain ⟨y0, y1⟩ := oM.at
            cases k
            case false =>
              go_wp2_with fail
              go_ret
              exact ⟨rfl, bw149⟩
            case true =>
              have z1 := Z1.out; have z2 := Z2.out (by first | rfl | trivial)
              go_wp2_with fail
              go_ret
              exact ⟨rfl, bw149⟩
end Go.Proofs.YtjkfighooijblaaGreat
