/-
  The walk of 'laws.FnWays': it returns true. Printed by gen_lawW.py. By an AI agent.
-/
import Derived.Test.YtbffcbjbeeagmaaPotH
import Derived.Test.YtbffcbjbeeagmaaWzK
import Derived.Test.YtbffcbjbeeagmaaBig
import Derived.Deep.DeepCutAuto
namespace Go.Proofs.Ytbffcbjbeeagmaa
open Go.RowKit

theorem sm7.smW {M : List (List Int)} (h : sm7 M) : smM M := ⟨by have := h.1; omega, fun i hi => by have := h.2 i hi; omega⟩
theorem LisR.uniW {B u : Bool} {X P : List Int} {n : Nat} {w w' : World} {e : Ending} (h : LisR B X w e w') (hP : onL B X = P) (hu : B = u) (hn : P.length = n) : ∃ ad cap, e = .returned (.tuple #[.slice ad n cap, .bool u]) ∧ RdI w' ad P ∧ Below w.heap.size w w' := by
  subst hP; subst hu; subst hn; exact h
theorem ManR.uniW {B u : Bool} {X P : List (List Int)} {n : Nat} {w w' : World} {e : Ending} (h : ManR B X w e w') (hP : onM B X = P) (hu : B = u) (hn : P.length = n) : ∃ ad cap, e = .returned (.tuple #[.slice ad n cap, .bool u]) ∧ RdM w' ad P ∧ Below w.heap.size w w' := by
  subst hP; subst hu; subst hn; exact h

set_option maxHeartbeats 64000000 in
set_option maxRecDepth 100000 in
theorem lawWays_any (ad0 : Option Addr) (n0 cap0 : Nat) (ad1 : Option Addr) (n1 cap1 : Nat) (w : World) (hm0 : n0 ≤ 9223372036854775807) (hr0 : RdB w ad0 n0) (hm1 : n1 ≤ 9223372036854775807) (hr1 : RdB w ad1 n1) :
    Calls Try.prog 3 #[.slice ad0 n0 cap0, .slice ad1 n1 cap1] w fun e w' => e = .returned (.bool true) ∧ Below w.heap.size w w' := by
  have bw0 := Below.refl w.heap.size w
  have K1 := Lib.hid hr0; clear hr0
  have K2 := Lib.hid hr1; clear hr1
  obtain ⟨tb, htb⟩ : ∃ tb : Bool, bigB n0 n1 = tb := ⟨_, rfl⟩
  have CB := big_c ad0 n0 cap0 ad1 n1 cap1 w hm0
  rw [htb] at CB
  have CBB := Lib.hid CB; clear CB htb
  cases tb
  case true =>
    go_enter Try.func3, Try.ntmps3
    go_wp2_with fail
    refine CBB.out.mono ?_
    rintro e w' ⟨rfl, rfl⟩
    go_wp2_with fail
    go_ret
    exact ⟨rfl, bw0⟩
  case false =>
    go_enter Try.func3, Try.ntmps3
    go_wp2_with fail
    refine (CBB.out).mono ?_
    rintro e w' ⟨rfl, rfl⟩
    clear CBB
    go_wp2_with fail
    refine (drawCheapest_c ad0 n0 cap0 _ hm0 K1.out).mono ?_
    rintro e w3 ⟨adm, cm, M, f, t, rfl, hsm, hrm, hb4⟩
    have K5 := Lib.hid (K1.out.below hb4); clear K1
    have K6 := Lib.hid (K2.out.below hb4); clear K2
    have bw7 := ball bw0 hb4
    clear bw0
    clear hb4
    have K8 := Lib.hid hrm; clear hrm
    clear K5
    have HSM := Lib.hid hsm; clear hsm
    obtain ⟨XD, hXD⟩ : ∃ X, onM (cosB M) (disM M) = X := ⟨_, rfl⟩
    obtain ⟨u1, hu1⟩ : ∃ u, cosB M = u := ⟨_, rfl⟩
    obtain ⟨nD, hnD⟩ : ∃ n, XD.length = n := ⟨_, rfl⟩
    obtain ⟨P, hP⟩ : ∃ P, onL (chB M f t) (chX M f t) = P := ⟨_, rfl⟩
    obtain ⟨u2, hu2⟩ : ∃ u, chB M f t = u := ⟨_, rfl⟩
    obtain ⟨nP, hnP⟩ : ∃ n, P.length = n := ⟨_, rfl⟩
    obtain ⟨nM, hnM⟩ : ∃ n, M.length = n := ⟨_, rfl⟩
    have q1 := fun (w : World) (h : RdM w adm M) => (iWayCosts_c adm cm M w h HSM.out.smW).mono fun e w' h => ManR.uniW h hXD hu1 hnD
    have q2 := fun (w : World) (h : RdM w adm M) => (sWayCosts_c adm cm M w h HSM.out.smW).mono fun e w' h => ManR.uniW h hXD hu1 hnD
    have q3 := fun (w : World) (h : RdM w adm M) => (iCheapest_c adm cm M f t w h HSM.out.smW).mono fun e w' h => LisR.uniW h hP hu2 hnP
    have q4 := fun (w : World) (h : RdM w adm M) => (sCheapest_c adm cm M f t w h HSM.out.smW).mono fun e w' h => LisR.uniW h hP hu2 hnP
    have q5 := fun (w : World) (adp : Option Addr) (cp : Nat) (h : RdM w adm M) (h2 : RdI w adp P) => iCostOfWay_c adm cm M adp cp P w h HSM.out.smW h2 (by have := ch_sm M f t; rw [hP] at this; omega)
    simp only [hnM, hnP] at q1 q2 q3 q4 q5
    have hnP7 : nP ≤ 7 := by
      rw [← hnP, ← hP]
      exact ch_sm M f t
    have xsm := dis_sm HSM.out
    rw [hXD] at xsm
    have hnM7 : nM ≤ 7 := by rw [← hnM]; exact HSM.out.1
    rw [hnM]
    have Q1 := Lib.hid q1; have Q2 := Lib.hid q2; have Q3 := Lib.hid q3; have Q4 := Lib.hid q4; have Q5 := Lib.hid q5; have HXS := Lib.hid xsm
    have HP := Lib.hid hP; have HU1 := Lib.hid hu1; have HNP := Lib.hid hnP; have HNM := Lib.hid hnM; have HU2 := Lib.hid hu2; have HXD := Lib.hid hXD; have HND := Lib.hid hnD
    clear q1 q2 q3 q4 q5 hP hu1 hnP hnM hu2 hXD hnD xsm
    go_wp2_with fail
    refine (Q1.out _ K8.out).mono ?_
    rintro e w9 ⟨adx, cx, rfl, hrx, hb10⟩
    have K11 := Lib.hid (K6.out.below hb10); clear K6
    have K12 := Lib.hid (K8.out.below hb10); clear K8
    have bw13 := ball bw7 hb10
    clear bw7
    clear hb10
    have K14 := Lib.hid hrx; clear hrx
    go_wp2_with fail
    refine (Q2.out _ K12.out).mono ?_
    rintro e w15 ⟨adx2, cx2, rfl, hrx, hb16⟩
    have K17 := Lib.hid (K11.out.below hb16); clear K11
    have K18 := Lib.hid (K12.out.below hb16); clear K12
    have K19 := Lib.hid (K14.out.below hb16); clear K14
    have bw20 := ball bw13 hb16
    clear bw13
    clear hb16
    have K21 := Lib.hid hrx; clear hrx
    go_wp2_with fail
    refine (Q3.out _ K18.out).mono ?_
    rintro e w22 ⟨adp, cp, rfl, hrp, hb23⟩
    have K24 := Lib.hid (K17.out.below hb23); clear K17
    have K25 := Lib.hid (K18.out.below hb23); clear K18
    have K26 := Lib.hid (K19.out.below hb23); clear K19
    have K27 := Lib.hid (K21.out.below hb23); clear K21
    have bw28 := ball bw20 hb23
    clear bw20
    clear hb23
    have K29 := Lib.hid hrp; clear hrp
    go_wp2_with fail
    refine (Q4.out _ K25.out).mono ?_
    rintro e w30 ⟨adp2, cp2, rfl, hrp, hb31⟩
    have K32 := Lib.hid (K24.out.below hb31); clear K24
    have K33 := Lib.hid (K25.out.below hb31); clear K25
    have K34 := Lib.hid (K26.out.below hb31); clear K26
    have K35 := Lib.hid (K27.out.below hb31); clear K27
    have K36 := Lib.hid (K29.out.below hb31); clear K29
    have bw37 := ball bw28 hb31
    clear bw28
    clear hb31
    have K38 := Lib.hid hrp; clear hrp
    clear Q1 Q2 Q3 Q4
    have CS := Lib.hid (fun (w : World) h1 h2 => (show Calls _ _ #[.slice adx nD cx, .slice adx2 nD cx2] w _ by have := sameM_c adx cx adx2 cx2 XD w (by have := HXS.out.1; omega) (fun i hi => by have := HXS.out.2 i hi; omega) h1 h2; rw [HND.out] at this; exact this))
    have CT := Lib.hid (fun (w : World) h1 h2 => (show Calls _ _ #[.slice adp nP cp, .slice adp2 nP cp2] w _ by have := sameI_c adp cp adp2 cp2 P w (by rw [HNP.out]; omega) h1 h2; rw [HNP.out] at this; exact this))
    go_wp2_with fail
    refine (CS.out _ K34.out K35.out).mono ?_
    rintro e w39 ⟨rfl, hb40⟩
    have K41 := Lib.hid (K32.out.below hb40); clear K32
    have K42 := Lib.hid (K33.out.below hb40); clear K33
    have K43 := Lib.hid (K34.out.below hb40); clear K34
    have K44 := Lib.hid (K35.out.below hb40); clear K35
    have K45 := Lib.hid (K36.out.below hb40); clear K36
    have K46 := Lib.hid (K38.out.below hb40); clear K38
    have bw47 := ball bw37 hb40
    clear bw37
    clear hb40
    go_wp2_with fail
    refine (CT.out _ K45.out K46.out).mono ?_
    rintro e w48 ⟨rfl, hb49⟩
    have K50 := Lib.hid (K41.out.below hb49); clear K41
    have K51 := Lib.hid (K42.out.below hb49); clear K42
    have K52 := Lib.hid (K43.out.below hb49); clear K43
    have K53 := Lib.hid (K44.out.below hb49); clear K44
    have K54 := Lib.hid (K45.out.below hb49); clear K45
    have K55 := Lib.hid (K46.out.below hb49); clear K46
    have bw56 := ball bw47 hb49
    clear bw47
    clear hb49
    clear CS CT
    go_upto_if 92 with fail
    go_cut [] from 92 to 92 (fun wc => Below w48.heap.size w48 wc)
    case first =>
      have bwq := Below.refl w48.heap.size w48
      cases u1
      case false =>
        go_wp2_with fail
        go_meet
        exact bwq
      case true =>
        obtain ⟨hn6, hTN, hT0, hTT⟩ := tri_good HU1.out
        have hX2 : XD = toM M.length (bf M.length (entM M) M.length) := by rw [← HXD.out, HU1.out]; rfl
        have HCG := Lib.hid (fun (h : u2 = true) => ch_good (M := M) (f := f) (t := t) (by rw [HU2.out]; exact h) HU1.out)
        generalize bf M.length (entM M) M.length = D at hTN hT0 hTT hX2 HCG
        rw [HNM.out] at hn6 hTN hT0 hTT hX2 HCG
        have hnDM : nD = nM := by rw [← HND.out, hX2, toM_len]
        subst hnDM
        have HTN := Lib.hid hTN; have HT0 := Lib.hid hT0; have HTT := Lib.hid hTT; have HX2 := Lib.hid hX2
        clear hTN hT0 hTT hX2
        have hx2 := K53.out
        rw [HX2.out] at hx2
        have K57 := Lib.hid hx2; clear hx2
        clear K50
        clear K52
        clear K53
        go_wp2_with fail
        go_loopw [95] (fun i wr => ∃ k : Nat, k ≤ nD ∧ i = .int .i64 k ∧ Below w48.heap.size w48 wr) (fun i _ => nD - (intOf i).toNat)
        case atStart => exact ⟨0, Nat.zero_le _, rfl, Below.refl _ _⟩
        case round =>
          obtain ⟨wE, rfl⟩ : ∃ x : World, x = wr := ⟨_, rfl⟩
          obtain ⟨k, hk, rfl, hbel⟩ := hrel
          by_cases hlt : k < nD
          case pos =>
            obtain ⟨bD, oD, rfl, hbD, hrow⟩ := K57.out.rowF (by omega)
            obtain ⟨b2, o2, c2, e2, hl2, hc2⟩ := hrow k hlt
            have HE2 := Lib.hid e2
            have HROW := Lib.hid hrow
            have e2 := bcell hbel hbD e2
            have HC2 := Lib.hid hc2
            have x1 : (0 : Int) ≤ (k : Int) := by omega
            have x2 : (k : Int) < (nD : Int) := by omega
            clear hrow hc2
            go_wp2_with fail
            go_loopw [102] (fun i wr => ∃ j : Nat, j ≤ nD ∧ i = .int .i64 j ∧ Below w48.heap.size w48 wr) (fun i _ => nD - (intOf i).toNat)
            case atStart => exact ⟨0, Nat.zero_le _, rfl, hbel⟩
            case round =>
              obtain ⟨wI, rfl⟩ : ∃ x : World, x = wr := ⟨_, rfl⟩
              obtain ⟨j, hj, rfl, hbel2⟩ := hrel
              clear e2
              by_cases hlj : j < nD
              case neg =>
                go_wp2_with fail
                go_roundw
                case rel => exact ⟨k + 1, by omega, by go_num, hbel2⟩
                case measure => simp [intOf]; omega
              case pos =>
                have k2 := bcell hbel2 hl2 (HC2.out j hlj)
                have y1 : (0 : Int) ≤ (j : Int) := by omega
                have y2 : (j : Int) < (nD : Int) := by omega
                have HTX := Lib.hid (fun q (hq : q < nD) h1 h2 => HTT.out k q j hlt hq hlj h1 h2)
                have HDG := Lib.hid (show k = j → D k j = 0 from fun e => by subst e; exact HT0.out k hlt)
                have hkj := numB_t (HTN.out k j hlt hlj)
                generalize hV : D k j = V at k2 HTX HDG hkj
                clear hV
                have hdiag : ((k : Int) == (j : Int)) = false ∨ (((k : Int) == (j : Int)) = true ∧ (V != 0) = false) := by
                  by_cases e : k = j
                  · exact Or.inr ⟨by rw [e]; exact beq_self_eq_true _, by rw [HDG.out e]; rfl⟩
                  · exact Or.inl (beq_eq_false_iff_ne.2 (by omega))
                have HLOOP := Lib.hid hbel2
                rcases hdiag with g1 | ⟨g1, g2⟩
                all_goals
                  go_wp2_with fail
                  go_loopw [116] (fun i wr => ∃ q : Nat, q ≤ nD ∧ i = .int .i64 q ∧ Below w48.heap.size w48 wr) (fun i _ => nD - (intOf i).toNat)
                  case atStart => exact ⟨0, Nat.zero_le _, rfl, hbel2⟩
                  case round =>
                    obtain ⟨wJ, rfl⟩ : ∃ x : World, x = wr := ⟨_, rfl⟩
                    obtain ⟨q, hq, rfl, hbel3⟩ := hrel
                    clear k2
                    by_cases hlq : q < nD
                    case neg =>
                      go_wp2_with fail
                      go_roundw
                      case rel => exact ⟨j + 1, by omega, by go_num, hbel3⟩
                      case measure => simp [intOf]; omega
                    case pos =>
                      have z1 : (0 : Int) ≤ (q : Int) := by omega
                      have z2 : (q : Int) < (nD : Int) := by omega
                      have e3 := bcell hbel3 hbD HE2.out
                      have k3 := bcell hbel3 hl2 (HC2.out q hlq)
                      obtain ⟨b4, o4, c4, e4, hl4, hc4⟩ := HROW.out q hlq
                      have e4 := bcell hbel3 hbD e4
                      have k4 := bcell hbel3 hl4 (hc4 j hlj)
                      have hTq := HTX.out q hlq
                      have n1 := numB_t (HTN.out k q hlt hlq)
                      have n2 := numB_t (HTN.out q j hlq hlj)
                      clear hc4
                      generalize D k q = A at k3 hTq n1
                      generalize D q j = C at k4 hTq n2
                      by_cases hA : A = 1000000000
                      · subst hA
                        clear hTq n1 n2
                        go_wp2_with fail
                        go_quiet (fail)
                        go_wp2_with fail
                        go_roundw
                        case rel => exact ⟨q + 1, by omega, by go_num, bdrewN hbel3 _⟩
                        case measure => simp [intOf]; omega
                      · have d1 : (A != 1000000000) = true := bne_iff_ne.2 hA
                        by_cases hC : C = 1000000000
                        · subst hC
                          clear hTq n1 n2
                          go_wp2_with fail
                          go_quiet (fail)
                          go_wp2_with fail
                          go_roundw
                          case rel => exact ⟨q + 1, by omega, by go_num, bdrewN hbel3 _⟩
                          case measure => simp [intOf]; omega
                        · have d2 : (C != 1000000000) = true := bne_iff_ne.2 hC
                          have hle := hTq hA hC
                          have e5 : IntKind.i64.wrap (A + C) = A + C := i64_small (by omega) (by omega)
                          obtain ⟨S, hS⟩ : ∃ S, A + C = S := ⟨_, rfl⟩
                          rw [hS] at e5 hle
                          have HS := Lib.hid hS
                          have HAC : Hid (IntKind.i64.wrap (A + C) = S) := Lib.hid (by rw [hS]; exact e5)
                          have e6 := HAC.out
                          clear hTq n1 n2 hS e5 HAC hA hC
                          have d3 : decide (S < V) = false := decide_eq_false (by omega)
                          go_wp2_with fail
                          go_quiet (fail)
                          go_wp2_with fail
                          go_roundw
                          case rel => exact ⟨q + 1, by omega, by go_num, bdrewN hbel3 _⟩
                          case measure => simp [intOf]; omega
          case neg =>
            have K58 := Lib.hid (K51.out.below hbel); clear K51
            have K59 := Lib.hid (K54.out.below hbel); clear K54
            have K60 := Lib.hid (K55.out.below hbel); clear K55
            have K61 := Lib.hid (K57.out.below hbel); clear K57
            have bw62 := ball bwq hbel
            clear bwq
            clear hbel
            cases u2
            case false =>
              go_wp2_with fail
              go_meet
              exact bw62
            case true =>
              obtain ⟨a, b, hfa, htb, han, hbn, hcw, hcn, hcx, ⟨hp1, hp2⟩, hp3, hp4⟩ := HCG.out rfl
              subst hfa
              subst htb
              have hPX : P = chX M (a : Int) (b : Int) := by rw [← HP.out, HU2.out]; rfl
              rw [← hPX] at hcw hcn hcx hp1 hp2 hp3 hp4
              rw [HNP.out] at hp1 hp2 hp4
              have q5 := fun (w : World) h1 h2 => Q5.out w adp cp h1 h2
              simp only [hcw, hcn, pairV, if_true, Bool.and_self] at q5
              have htz : toldZ (cowX M P) = D a b := by unfold toldZ; rw [hcn, if_pos rfl, hcx]
              simp only [htz] at q5
              have Q6 := Lib.hid q5
              clear q5 htz hcw hcn hcx hPX Q5
              go_wp2_with fail
              refine (Q6.out _ K58.out K59.out).mono ?_
              rintro e w63 ⟨rfl, hb64⟩
              have K65 := Lib.hid (K58.out.below hb64); clear K58
              have K66 := Lib.hid (K59.out.below hb64); clear K59
              have K67 := Lib.hid (K60.out.below hb64); clear K60
              have K68 := Lib.hid (K61.out.below hb64); clear K61
              have bw69 := ball bw62 hb64
              clear bw62
              clear hb64
              obtain ⟨bD, oD, rfl, hbD, hrow⟩ := K68.out.rowF (by omega)
              obtain ⟨b2, o2, c2, e2, hl2, hc2⟩ := hrow a han
              have k2 := hc2 b hbn
              obtain ⟨b3, o3, rfl, hb3, k3⟩ := K67.out 0 (by rw [HNP.out]; omega)
              have k4 := K67.out.at (j := nP - 1) (by rw [HNP.out]; omega)
              rw [hp3, Nat.add_zero] at k3
              rw [hp4] at k4
              generalize D a b = V at k2 ⊢
              obtain ⟨t, ht⟩ : ∃ t, nP - 1 = t := ⟨_, rfl⟩
              have e1 : IntKind.i64.wrap ((nP : Int) - 1) = (t : Int) := by rw [i64_small (by omega) (by omega)]; omega
              rw [ht] at k4
              have y1 : (0 : Int) ≤ (t : Int) := by omega
              have y2 : (t : Int) < (nP : Int) := by omega
              have y4 : 0 < nP := by omega
              have y5 : (0 : Int) ≤ (a : Int) := by omega
              have y6 : (a : Int) < (nD : Int) := by omega
              have y7 : (0 : Int) ≤ (b : Int) := by omega
              have y8 : (b : Int) < (nD : Int) := by omega
              have y9 : ((nP : Int) == 0) = false := beq_eq_false_iff_ne.2 (by omega)
              have y10 : decide ((nD : Int) < (nP : Int)) = false := decide_eq_false (by omega)
              clear hrow hc2 hp3 hp4 ht
              go_wp2_with fail
              go_meet
              exact bw69
    case rest =>
      obtain ⟨w70, rfl⟩ : ∃ y : World, y = wc := ⟨_, rfl⟩
      clear K51
      clear K52
      clear K53
      clear K54
      clear K55
      have K71 := Lib.hid (K50.out.below hcut); clear K50
      have bw72 := ball bw56 hcut
      clear bw56
      clear hcut
      clear HP HU1 HNP HNM HU2 HXD HND HXS HSM Q5
      go_wp2_with fail
      refine (drawNegative_c ad1 n1 cap1 _ hm1 K71.out).mono ?_
      rintro e w73 ⟨adu, cu, U, rfl, hsu, hru, hb74⟩
      have K75 := Lib.hid (K71.out.below hb74); clear K71
      have bw76 := ball bw72 hb74
      clear bw72
      clear hb74
      have K77 := Lib.hid hru; clear hru
      obtain ⟨P3, hP3⟩ : ∃ P, onL (ngB U) (ngX U) = P := ⟨_, rfl⟩
      obtain ⟨u3, hu3⟩ : ∃ u, ngB U = u := ⟨_, rfl⟩
      obtain ⟨n3, hn3⟩ : ∃ n, P3.length = n := ⟨_, rfl⟩
      obtain ⟨nU, hnU⟩ : ∃ n, U.length = n := ⟨_, rfl⟩
      have q1 := fun (w : World) (h : RdM w adu U) => (iNegative_c adu cu U w h hsu.smW).mono fun e w' h => LisR.uniW h hP3 hu3 hn3
      have q2 := fun (w : World) (h : RdM w adu U) => (sNegative_c adu cu U w h hsu.smW).mono fun e w' h => LisR.uniW h hP3 hu3 hn3
      have q3 := fun (w : World) (h : RdM w adu U) => iWayCosts_c adu cu U w h hsu.smW
      have q4 := fun (w : World) (h : RdM w adu U) (adr : Option Addr) (cr : Nat) (l : List Int) (hl : l.length ≤ 1048576) (h2 : RdI w adr l) => iCostOfWay_c adu cu U adr cr l w h hsu.smW h2 hl
      simp only [hnU] at q1 q2 q3 q4
      have hn37 : n3 ≤ 7 := by
        have h1 := ng_sm U
        rw [hP3, hn3] at h1
        have := hsu.1
        omega
      rw [hnU]
      have Q1 := Lib.hid q1; have Q2 := Lib.hid q2; have Q3 := Lib.hid q3; have Q4 := Lib.hid q4
      have HP3 := Lib.hid hP3; have HU3 := Lib.hid hu3; have HN3 := Lib.hid hn3; have HNU := Lib.hid hnU
      clear q1 q2 q3 q4 hP3 hu3 hn3 hnU hsu
      go_wp2_with fail
      refine (Q1.out _ K77.out).mono ?_
      rintro e w78 ⟨adp, cp, rfl, hrp, hb79⟩
      have K80 := Lib.hid (K75.out.below hb79); clear K75
      have K81 := Lib.hid (K77.out.below hb79); clear K77
      have bw82 := ball bw76 hb79
      clear bw76
      clear hb79
      have K83 := Lib.hid hrp; clear hrp
      go_wp2_with fail
      refine (Q2.out _ K81.out).mono ?_
      rintro e w84 ⟨adp2, cp2, rfl, hrp, hb85⟩
      have K86 := Lib.hid (K80.out.below hb85); clear K80
      have K87 := Lib.hid (K81.out.below hb85); clear K81
      have K88 := Lib.hid (K83.out.below hb85); clear K83
      have bw89 := ball bw82 hb85
      clear bw82
      clear hb85
      have K90 := Lib.hid hrp; clear hrp
      clear Q1 Q2
      have CT := Lib.hid (fun (w : World) h1 h2 => (show Calls _ _ #[.slice adp n3 cp, .slice adp2 n3 cp2] w _ by have := sameI_c adp cp adp2 cp2 P3 w (by rw [HN3.out]; omega) h1 h2; rw [HN3.out] at this; exact this))
      go_wp2_with fail
      refine (CT.out _ K88.out K90.out).mono ?_
      rintro e w91 ⟨rfl, hb92⟩
      have K93 := Lib.hid (K86.out.below hb92); clear K86
      have K94 := Lib.hid (K87.out.below hb92); clear K87
      have K95 := Lib.hid (K88.out.below hb92); clear K88
      have K96 := Lib.hid (K90.out.below hb92); clear K90
      have bw97 := ball bw89 hb92
      clear bw89
      clear hb92
      clear CT
      go_upto_if 229 with fail
      go_cut [] from 229 to 229 (fun wc => Below w91.heap.size w91 wc)
      case first =>
        have bwr := Below.refl w91.heap.size w91
        cases u3
        case false =>
          go_wp2_with fail
          go_meet
          exact bwr
        case true =>
          clear K93
          clear K95
          obtain ⟨hcb, ⟨hg1, hg2⟩, hcx⟩ := ng_good HU3.out
          have hPX : P3 = ngX U := by rw [← HP3.out, HU3.out]; rfl
          rw [← hPX] at hg1 hg2 hcx
          rw [HN3.out] at hg1 hg2
          have q3 := fun (w : World) h => (Q3.out w h).mono fun e w' h => ManR.uniW (P := []) (n := 0) h (by rw [hcb]; rfl) hcb rfl
          have Q5 := Lib.hid q3
          have HCX := Lib.hid hcx
          clear q3 hcb hcx hPX Q3
          go_wp2_with fail
          refine (Q5.out _ K94.out).mono ?_
          rintro e w98 ⟨adz, cz, rfl, -, hb99⟩
          have K100 := Lib.hid (K94.out.below hb99); clear K94
          have K101 := Lib.hid (K96.out.below hb99); clear K96
          have bw102 := ball bwr hb99
          clear bwr
          clear hb99
          clear Q5
          obtain ⟨b3, o3, rfl, hb3, k3⟩ := K101.out 0 (by rw [HN3.out]; omega)
          rw [Nat.add_zero] at k3
          have HO := Lib.hid (rowI_new w98 w98.heap.size w98.heap.size (Nat.le_refl _) rfl)
          have HXX := Lib.hid (K101.out.below ((Below.refl _ _).alloc (Nat.le_refl _) (.cells #[] 3)))
          have y9 : ((n3 : Int) == 0) = false := beq_eq_false_iff_ne.2 (by omega)
          have y4 : 0 < n3 := by omega
          have HX0 := Lib.hid (show ∀ x, P3.getD 0 0 = x → cowX U (P3 ++ [x]) < 0 from fun x hx => by rw [← hx]; exact HCX.out)
          obtain ⟨x0, hx0⟩ : ∃ x, P3.getD 0 0 = x := ⟨_, rfl⟩
          rw [hx0] at k3
          have HNEG := Lib.hid (HX0.out x0 hx0)
          clear hx0 HX0 HCX
          go_wp2_with (at_builtin; first | (refine wpList_appN rfl _ _ rfl w98.heap.size b3 o3 cp2 _ [] P3 n3 (by rw [HN3.out]; simp) rfl (by rw [HN3.out]; rfl) HO.out HXX.out (by simp) (by rw [HN3.out]; omega) (by simp) ?_; intro v5 wm hown hsh hbm hgr; have hbx := (bal_alloc (o := .cells #[] 3) (Below.refl w98.heap.size w98)).trans hbm; have k4 := bcell hbx hb3 k3; rw [List.nil_append] at hown; have HOW := Lib.hid hown; have HBX := Lib.hid hbx; clear hown hsh hgr hbm hbx) | (refine wpList_appN rfl _ _ rfl w98.heap.size wm.heap.size 0 1 _ P3 [x0] (n3 + 1) (by rw [HN3.out]; rfl) rfl rfl (RowI.alloc' HOW.out) (rdI_one _ _ _ rfl) (by rw [HN3.out]; omega) (by simp) (by have := HBX.out.size; simp; omega) ?_; intro v6 wn hown hsh hbm hgr; obtain ⟨g6, c6, rfl, _⟩ := hsh (by omega); have HOW6 := Lib.hid hown; have HBX6 := Lib.hid ((bal_alloc (o := .cells #[.int .i64 x0] 3) HBX.out).trans hbm); clear hown hsh hgr hbm))
          have hbn := HBX6.out
          have K103 := Lib.hid (K100.out.below hbn); clear K100
          have K104 := Lib.hid (K101.out.below hbn); clear K101
          have bw105 := ball bw102 hbn
          clear bw102
          clear hbn
          obtain ⟨ad6, c6', e6, hrd6⟩ := HOW6.out.shape
          have hl6 : (P3 ++ [x0]).length = n3 + 1 := by rw [List.length_append, HN3.out]; rfl
          rw [hl6] at e6
          injection e6 with e6 _ e6c
          subst e6
          clear e6c
          have q4 := Q4.out wn K103.out (some ⟨g6, 0, none⟩) c6 (P3 ++ [x0]) (by rw [hl6]; omega) hrd6
          rw [hl6] at q4
          obtain ⟨u6, hu6⟩ : ∃ u, (cowW U (P3 ++ [x0]) && numB (cowX U (P3 ++ [x0]))) = u := ⟨_, rfl⟩
          obtain ⟨vc, hvc⟩ : ∃ x : Int, (if cowW U (P3 ++ [x0]) = true then toldZ (cowX U (P3 ++ [x0])) else 0) = x := ⟨_, rfl⟩
          have hvn : u6 = true → vc < 0 := fun h => by
            rw [h, Bool.and_eq_true] at hu6
            rw [if_pos hu6.1] at hvc
            unfold toldZ at hvc
            rw [if_pos hu6.2] at hvc
            rw [← hvc]
            exact HNEG.out
          rw [hu6, hvc] at q4
          unfold pairV at q4
          have Q6 := Lib.hid q4; have HVN := Lib.hid hvn
          clear q4 hvn hu6 hvc hrd6 hl6 HNEG HOW6 HOW HXX HO
          refine (Q6.out).mono ?_
          rintro e w106 ⟨rfl, hb107⟩
          have K108 := Lib.hid (K103.out.below hb107); clear K103
          have K109 := Lib.hid (K104.out.below hb107); clear K104
          have bw110 := ball bw105 hb107
          clear bw105
          clear hb107
          cases u6
          case false =>
            go_wp2_with fail
            go_meet
            exact bw110
          case true =>
            have hneg := HVN.out rfl
            have d1 : decide (0 ≤ vc) = false := decide_eq_false (by omega)
            clear hneg
            go_wp2_with fail
            go_meet
            exact bw110
      case rest =>
        obtain ⟨w111, rfl⟩ : ∃ y : World, y = wc := ⟨_, rfl⟩
        clear K94
        clear K95
        clear K96
        have K112 := Lib.hid (K93.out.below hcut); clear K93
        have bw113 := ball bw97 hcut
        clear bw97
        clear hcut
        clear HP3 HU3 HN3 HNU Q3 Q4
        go_wp2_with fail
        refine (drawCostOfWay_c ad1 n1 cap1 _ hm1 K112.out).mono ?_
        rintro e w114 ⟨adv, cv, V, adl, cl, l, rfl, ⟨hs1, hs3⟩, hrv, hrl, hb115⟩
        have K116 := Lib.hid (K112.out.below hb115); clear K112
        have bw117 := ball bw113 hb115
        clear bw113
        clear hb115
        have K118 := Lib.hid hrv; clear hrv
        have K119 := Lib.hid hrl; clear hrl
        obtain ⟨nV, hnV⟩ : ∃ n, V.length = n := ⟨_, rfl⟩
        obtain ⟨nl, hnl⟩ : ∃ n, l.length = n := ⟨_, rfl⟩
        obtain ⟨u8, hu8⟩ : ∃ u, (cowW V l && numB (cowX V l)) = u := ⟨_, rfl⟩
        obtain ⟨vc, hvc⟩ : ∃ x : Int, (if cowW V l = true then toldZ (cowX V l) else 0) = x := ⟨_, rfl⟩
        have q1 := fun (w : World) (h1 : RdM w adv V) (h3 : RdI w adl l) => iCostOfWay_c adv cv V adl cl l w h1 hs1.smW h3 (by omega)
        have q2 := fun (w : World) (h1 : RdM w adv V) (h3 : RdI w adl l) => sCostOfWay_c adv cv V adl cl l w h1 hs1.smW h3 (by omega)
        simp only [hnV, hnl, hu8, hvc, pairV] at q1 q2
        rw [hnV, hnl]
        have Q1 := Lib.hid q1; have Q2 := Lib.hid q2
        clear q1 q2 hnV hnl hu8 hvc hs1 hs3
        go_wp2_with fail
        refine (Q1.out _ K118.out K119.out).mono ?_
        rintro e w120 ⟨rfl, hb121⟩
        have K122 := Lib.hid (K116.out.below hb121); clear K116
        have K123 := Lib.hid (K118.out.below hb121); clear K118
        have K124 := Lib.hid (K119.out.below hb121); clear K119
        have bw125 := ball bw117 hb121
        clear bw117
        clear hb121
        go_wp2_with fail
        refine (Q2.out _ K123.out K124.out).mono ?_
        rintro e w126 ⟨rfl, hb127⟩
        have K128 := Lib.hid (K122.out.below hb127); clear K122
        have K129 := Lib.hid (K123.out.below hb127); clear K123
        have K130 := Lib.hid (K124.out.below hb127); clear K124
        have bw131 := ball bw125 hb127
        clear bw125
        clear hb127
        clear Q1 Q2
        cases u8
        all_goals
          go_wp2_with fail
          go_ret
          exact ⟨rfl, bw131⟩
end Go.Proofs.Ytbffcbjbeeagmaa
