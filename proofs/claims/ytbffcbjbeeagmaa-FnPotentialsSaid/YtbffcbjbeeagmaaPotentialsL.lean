/-
  The walk of 'laws.FnPotentials': it returns true. Printed by gen_lawP.py. By an AI agent.
-/
import Derived.Test.YtbffcbjbeeagmaaPotH
import Derived.Test.YtbffcbjbeeagmaaBig
import Derived.Deep.DeepCutAuto
namespace Go.Proofs.Ytbffcbjbeeagmaa
open Go.RowKit

theorem sm7.sm {M : List (List Int)} (h : sm7 M) : smM M := ⟨by have := h.1; omega, fun i hi => by have := h.2 i hi; omega⟩
theorem LisR.uni {B u : Bool} {X P : List Int} {n : Nat} {w w' : World} {e : Ending} (h : LisR B X w e w') (hP : onL B X = P) (hu : B = u) (hn : P.length = n) : ∃ ad cap, e = .returned (.tuple #[.slice ad n cap, .bool u]) ∧ RdI w' ad P ∧ Below w.heap.size w w' := by
  subst hP; subst hu; subst hn; exact h
theorem ManR.uni {B u : Bool} {X P : List (List Int)} {n : Nat} {w w' : World} {e : Ending} (h : ManR B X w e w') (hP : onM B X = P) (hu : B = u) (hn : P.length = n) : ∃ ad cap, e = .returned (.tuple #[.slice ad n cap, .bool u]) ∧ RdM w' ad P ∧ Below w.heap.size w w' := by
  subst hP; subst hu; subst hn; exact h
theorem CenR.uni {B u : Bool} {p : Nat × Int} {x y : Int} {w w' : World} {e : Ending} (h : CenR B p e ∧ Below w.heap.size w w') (hu : B = u) (hx : (if B = true then (p.1 : Int) else 0) = x) (hy : (if B = true then p.2 else 0) = y) : e = .returned (.tuple #[.int .i64 x, .int .i64 y, .bool u]) ∧ Below w.heap.size w w' := by
  subst hu; subst hx; subst hy; exact h
theorem red_all {M : List (List Int)} {p : List Int} (i j : Nat) (hi : i < (onM (redB M p) (redM M p)).length) (hj : j < ((onM (redB M p) (redM M p)).getD i []).length) : 0 ≤ ((onM (redB M p) (redM M p)).getD i []).getD j 0 := by
  revert hi hj
  cases hB : redB M p with
  | false => exact fun hi _ => absurd hi (Nat.not_lt_zero _)
  | true =>
    intro hi hj
    rw [show onM true (redM M p) = toM M.length (rdF (entM M) p) from rfl] at hi hj ⊢
    rw [toM_len] at hi
    rw [toM_row _ hi] at hj ⊢
    rw [tab_length] at hj
    rw [tab_getD hj]
    unfold redB at hB
    rw [Bool.and_eq_true] at hB
    exact red_pos hB.1 hi hj
theorem red_sm {M : List (List Int)} {p : List Int} (h : sm7 M) : sm7 (onM (redB M p) (redM M p)) := by
  cases redB M p
  · exact ⟨by simp [onM], fun i hi => absurd hi (Nat.not_lt_zero _)⟩
  · rw [show onM true (redM M p) = toM M.length (rdF (entM M) p) from rfl]
    refine ⟨by rw [toM_len]; exact h.1, fun i hi => ?_⟩
    rw [toM_len] at hi
    rw [toM_row _ hi, tab_length]
    exact h.1

set_option maxHeartbeats 64000000 in
set_option maxRecDepth 100000 in
theorem lawPotentials_any (ad0 : Option Addr) (n0 cap0 : Nat) (ad1 : Option Addr) (n1 cap1 : Nat) (w : World) (hm0 : n0 ≤ 9223372036854775807) (hr0 : RdB w ad0 n0) (hm1 : n1 ≤ 9223372036854775807) (hr1 : RdB w ad1 n1) :
    Calls Try.prog 4 #[.slice ad0 n0 cap0, .slice ad1 n1 cap1] w fun e w' => e = .returned (.bool true) ∧ Below w.heap.size w w' := by
  have bw0 := Below.refl w.heap.size w
  have K1 := Lib.hid hr0; clear hr0
  have K2 := Lib.hid hr1; clear hr1
  obtain ⟨tb, htb⟩ : ∃ tb : Bool, bigB n0 n1 = tb := ⟨_, rfl⟩
  have CB := big_c ad0 n0 cap0 ad1 n1 cap1 w hm0
  rw [htb] at CB
  have CBB := Lib.hid CB; clear CB htb
  cases tb
  case true =>
    go_enter Try.func4, Try.ntmps4
    go_wp2_with fail
    refine CBB.out.mono ?_
    rintro e w' ⟨rfl, rfl⟩
    go_wp2_with fail
    go_ret
    exact ⟨rfl, bw0⟩
  case false =>
    go_enter Try.func4, Try.ntmps4
    go_wp2_with fail
    refine (CBB.out).mono ?_
    rintro e w' ⟨rfl, rfl⟩
    clear CBB
    go_wp2_with fail
    refine (drawPotentialsFor_c ad0 n0 cap0 _ hm0 K1.out).mono ?_
    rintro e w3 ⟨adm, cm, M, rfl, hsm, hrm, hb4⟩
    have K5 := Lib.hid (K1.out.below hb4); clear K1
    have K6 := Lib.hid (K2.out.below hb4); clear K2
    have bw7 := ball bw0 hb4
    clear bw0
    clear hb4
    have K8 := Lib.hid hrm; clear hrm
    clear K5
    have HSM := Lib.hid hsm; clear hsm
    obtain ⟨P, hP⟩ : ∃ P, onL (potB M) (potL M) = P := ⟨_, rfl⟩
    obtain ⟨u1, hu1⟩ : ∃ u, potB M = u := ⟨_, rfl⟩
    obtain ⟨nP, hnP⟩ : ∃ n, P.length = n := ⟨_, rfl⟩
    obtain ⟨nM, hnM⟩ : ∃ n, M.length = n := ⟨_, rfl⟩
    have q1 := fun (w : World) (h : RdM w adm M) => (iPotentials_c adm cm M w h HSM.out.sm).mono fun e w' h => LisR.uni h hP hu1 hnP
    have q2 := fun (w : World) (h : RdM w adm M) => (sPotentials_c adm cm M w h HSM.out.sm).mono fun e w' h => LisR.uni h hP hu1 hnP
    simp only [hnM] at q1 q2
    obtain ⟨u2, hu2⟩ : ∃ u, cenB M = u := ⟨_, rfl⟩
    obtain ⟨cc, hcc⟩ : ∃ x : Int, (if cenB M = true then ((cenF (rmxF M) M.length).1 : Int) else 0) = x := ⟨_, rfl⟩
    obtain ⟨cm2, hcm2⟩ : ∃ x : Int, (if cenB M = true then (cenF (rmxF M) M.length).2 else 0) = x := ⟨_, rfl⟩
    have q3 := fun (w : World) (h : RdM w adm M) => (iCentre_c adm cm M w h HSM.out.sm).mono fun e w' h => CenR.uni h hu2 hcc hcm2
    have q4 := fun (w : World) (h : RdM w adm M) => (sCentre_c adm cm M w h HSM.out.sm).mono fun e w' h => CenR.uni h hu2 hcc hcm2
    simp only [hnM] at q3 q4
    have hnP7 : nP ≤ 7 := by
      rw [← hnP, ← hP]
      unfold onL
      split
      · rw [potL_len]; exact HSM.out.1
      · simp
    have hnM7 : nM ≤ 7 := by rw [← hnM]; exact HSM.out.1
    rw [hnM]
    have Q1 := Lib.hid q1; have Q2 := Lib.hid q2; have Q3 := Lib.hid q3; have Q4 := Lib.hid q4
    have HP := Lib.hid hP; have HU1 := Lib.hid hu1; have HNP := Lib.hid hnP; have HNM := Lib.hid hnM; have HU2 := Lib.hid hu2; have HCC := Lib.hid hcc; have HCM := Lib.hid hcm2
    clear q1 q2 q3 q4 hP hu1 hnP hnM hu2 hcc hcm2
    go_wp2_with fail
    refine (Q1.out _ K8.out).mono ?_
    rintro e w9 ⟨adp, cp, rfl, hrp, hb10⟩
    have K11 := Lib.hid (K6.out.below hb10); clear K6
    have K12 := Lib.hid (K8.out.below hb10); clear K8
    have bw13 := ball bw7 hb10
    clear bw7
    clear hb10
    have K14 := Lib.hid hrp; clear hrp
    go_wp2_with fail
    refine (Q2.out _ K12.out).mono ?_
    rintro e w15 ⟨adp2, cp2, rfl, hrp, hb16⟩
    have K17 := Lib.hid (K11.out.below hb16); clear K11
    have K18 := Lib.hid (K12.out.below hb16); clear K12
    have K19 := Lib.hid (K14.out.below hb16); clear K14
    have bw20 := ball bw13 hb16
    clear bw13
    clear hb16
    have K21 := Lib.hid hrp; clear hrp
    go_wp2_with fail
    refine (Q3.out _ K18.out).mono ?_
    rintro e w22 ⟨rfl, hb23⟩
    have K24 := Lib.hid (K17.out.below hb23); clear K17
    have K25 := Lib.hid (K18.out.below hb23); clear K18
    have K26 := Lib.hid (K19.out.below hb23); clear K19
    have K27 := Lib.hid (K21.out.below hb23); clear K21
    have bw28 := ball bw20 hb23
    clear bw20
    clear hb23
    go_wp2_with fail
    refine (Q4.out _ K25.out).mono ?_
    rintro e w29 ⟨rfl, hb30⟩
    have K31 := Lib.hid (K24.out.below hb30); clear K24
    have K32 := Lib.hid (K25.out.below hb30); clear K25
    have K33 := Lib.hid (K26.out.below hb30); clear K26
    have K34 := Lib.hid (K27.out.below hb30); clear K27
    have bw35 := ball bw28 hb30
    clear bw28
    clear hb30
    clear Q1 Q2 Q3 Q4
    have CS := Lib.hid (fun (w : World) h1 h2 => (show Calls _ _ #[.slice adp nP cp, .slice adp2 nP cp2] w _ by have := sameI_c adp cp adp2 cp2 P w (by rw [HNP.out]; omega) h1 h2; rw [HNP.out] at this; exact this))
    go_wp2_with fail
    refine (CS.out _ K33.out K34.out).mono ?_
    rintro e w36 ⟨rfl, hb37⟩
    have K38 := Lib.hid (K31.out.below hb37); clear K31
    have K39 := Lib.hid (K32.out.below hb37); clear K32
    have K40 := Lib.hid (K33.out.below hb37); clear K33
    have K41 := Lib.hid (K34.out.below hb37); clear K34
    have bw42 := ball bw35 hb37
    clear bw35
    clear hb37
    clear CS
    go_upto_if 102 with fail
    go_cut [] from 102 to 102 (fun wc => Below w36.heap.size w36 wc)
    case first =>
      have bwq := Below.refl w36.heap.size w36
      cases u1
      case false =>
        go_wp2_with fail
        go_meet
        exact bwq
      case true =>
        have hPL : P = potL M := HP.out.symm.trans (by rw [HU1.out]; rfl)
        have hhas : hasB M P = true := by rw [hPL]; exact pot_has HU1.out
        have hask : askB M P = true := by unfold hasB at hhas; rw [Bool.and_eq_true] at hhas; exact hhas.1
        have q1 := fun (w : World) (h : RdM w adm M) (h2 : RdI w adp P) => arePotentialsI_c adm cm M adp cp P w h HSM.out.sm h2 (by rw [HNP.out]; omega)
        simp only [areR, hhas, hask, HNP.out, HNM.out] at q1
        have xall := red_all (M := M) (p := P)
        have xsm := red_sm (M := M) (p := P) HSM.out
        obtain ⟨X, hX⟩ : ∃ X, onM (redB M P) (redM M P) = X := ⟨_, rfl⟩
        rw [hX] at xsm
        simp only [hX] at xall
        obtain ⟨nX, hnX⟩ : ∃ n, X.length = n := ⟨_, rfl⟩
        obtain ⟨u3, hu3⟩ : ∃ u, redB M P = u := ⟨_, rfl⟩
        have q2 := fun (w : World) (h : RdM w adm M) (h2 : RdI w adp P) => (iReduced_c adm cm M adp cp P w h HSM.out.sm h2 (by rw [HNP.out]; omega)).mono fun e w' h => ManR.uni h hX hu3 hnX
        have q3 := fun (w : World) (h : RdM w adm M) (h2 : RdI w adp2 P) => (sReduced_c adm cm M adp2 cp2 P w h HSM.out.sm h2 (by rw [HNP.out]; omega)).mono fun e w' h => ManR.uni h hX hu3 hnX
        simp only [HNP.out, HNM.out] at q2 q3
        have Q1 := Lib.hid q1; have Q2 := Lib.hid q2; have Q3 := Lib.hid q3; have HXA := Lib.hid xall; have HXS := Lib.hid xsm; have HNX := Lib.hid hnX
        clear q1 q2 q3 xall xsm hX hnX hu3 hPL hhas hask
        go_wp2_with fail
        refine (Q1.out _ K39.out K40.out).mono ?_
        rintro e w43 ⟨rfl, hb44⟩
        have K45 := Lib.hid (K38.out.below hb44); clear K38
        have K46 := Lib.hid (K39.out.below hb44); clear K39
        have K47 := Lib.hid (K40.out.below hb44); clear K40
        have K48 := Lib.hid (K41.out.below hb44); clear K41
        have bw49 := ball bwq hb44
        clear bwq
        clear hb44
        go_wp2_with fail
        refine (Q2.out _ K46.out K47.out).mono ?_
        rintro e w50 ⟨adx, cx, rfl, hrx, hb51⟩
        have K52 := Lib.hid (K45.out.below hb51); clear K45
        have K53 := Lib.hid (K46.out.below hb51); clear K46
        have K54 := Lib.hid (K47.out.below hb51); clear K47
        have K55 := Lib.hid (K48.out.below hb51); clear K48
        have bw56 := ball bw49 hb51
        clear bw49
        clear hb51
        have K57 := Lib.hid hrx; clear hrx
        go_wp2_with fail
        refine (Q3.out _ K53.out K55.out).mono ?_
        rintro e w58 ⟨adx2, cx2, rfl, hrx, hb59⟩
        have K60 := Lib.hid (K52.out.below hb59); clear K52
        have K61 := Lib.hid (K53.out.below hb59); clear K53
        have K62 := Lib.hid (K54.out.below hb59); clear K54
        have K63 := Lib.hid (K55.out.below hb59); clear K55
        have K64 := Lib.hid (K57.out.below hb59); clear K57
        have bw65 := ball bw56 hb59
        clear bw56
        clear hb59
        have K66 := Lib.hid hrx; clear hrx
        clear Q1 Q2 Q3
        have CS := Lib.hid (fun (w : World) h1 h2 => (show Calls _ _ #[.slice adx nX cx, .slice adx2 nX cx2] w _ by have := sameM_c adx cx adx2 cx2 X w (by have := HXS.out.1; omega) (fun i hi => by have := HXS.out.2 i hi; omega) h1 h2; rw [HNX.out] at this; exact this))
        go_wp2_with fail
        refine (CS.out _ K64.out K66.out).mono ?_
        rintro e w67 ⟨rfl, hb68⟩
        have K69 := Lib.hid (K60.out.below hb68); clear K60
        have K70 := Lib.hid (K61.out.below hb68); clear K61
        have K71 := Lib.hid (K62.out.below hb68); clear K62
        have K72 := Lib.hid (K63.out.below hb68); clear K63
        have K73 := Lib.hid (K64.out.below hb68); clear K64
        have K74 := Lib.hid (K66.out.below hb68); clear K66
        have bw75 := ball bw65 hb68
        clear bw65
        clear hb68
        clear CS
        have hnX7 : nX ≤ 7 := by rw [← HNX.out]; exact HXS.out.1
        go_wp2_with fail
        go_loopw [138] (fun i wr => ∃ k : Nat, k ≤ nX ∧ i = .int .i64 k ∧ Below w67.heap.size w67 wr) (fun i _ => nX - (intOf i).toNat)
        case atStart => exact ⟨0, Nat.zero_le _, rfl, Below.refl _ _⟩
        case round =>
          obtain ⟨wE, rfl⟩ : ∃ x : World, x = wr := ⟨_, rfl⟩
          obtain ⟨k, hk, rfl, hbel⟩ := hrel
          by_cases hlt : k < nX
          case neg =>
            go_wp2_with fail
            go_meet
            exact ball bw75 hbel
          case pos =>
            have hkX : k < X.length := by rw [HNX.out]; exact hlt
            obtain ⟨b1, o1, a1, c1, rfl, hb1, k1, r1⟩ := K74.out k hkX
            have k1 := bcell hbel hb1 k1
            have HRW := Lib.hid r1
            have HPOS := Lib.hid (fun j hj => HXA.out k j hkX hj)
            have hrl := HXS.out.2 k hkX
            generalize X.getD k [] = xs at k1 HRW HPOS hrl
            obtain ⟨nx, hnx⟩ : ∃ n, xs.length = n := ⟨_, rfl⟩
            have HNx := Lib.hid hnx
            rw [hnx] at k1 hrl HPOS
            have x1 : (0 : Int) ≤ (k : Int) := by omega
            have x2 : (k : Int) < (nX : Int) := by omega
            clear hnx r1 hkX
            go_wp2_with fail
            go_loopw [144] (fun i wr => ∃ j : Nat, j ≤ nx ∧ i = .int .i64 j ∧ Below w67.heap.size w67 wr) (fun i _ => nx - (intOf i).toNat)
            case atStart => exact ⟨0, Nat.zero_le _, rfl, hbel⟩
            case round =>
              obtain ⟨wI, rfl⟩ : ∃ x : World, x = wr := ⟨_, rfl⟩
              obtain ⟨j, hj, rfl, hbel2⟩ := hrel
              clear k1
              by_cases hlj : j < nx
              case neg =>
                go_wp2_with fail
                go_roundw
                case rel => exact ⟨k + 1, by omega, by go_num, hbel2⟩
                case measure => simp [intOf]; omega
              case pos =>
                obtain ⟨b2, o2, rfl, hb2, k2⟩ := HRW.out j (by rw [HNx.out]; exact hlj)
                have k2 := bcell hbel2 hb2 k2
                have hp := HPOS.out j hlj
                have g1 : decide (xs.getD j 0 < 0) = false := decide_eq_false (by omega)
                generalize xs.getD j 0 = v at k2 g1
                have y1 : (0 : Int) ≤ (j : Int) := by omega
                have y2 : (j : Int) < (nx : Int) := by omega
                clear hp
                go_wp2_with fail
                go_roundw
                case rel => exact ⟨j + 1, by omega, by go_num, hbel2⟩
                case measure => simp [intOf]; omega
    case rest =>
      obtain ⟨w76, rfl⟩ : ∃ y : World, y = wc := ⟨_, rfl⟩
      clear K40
      clear K41
      have K77 := Lib.hid (K38.out.below hcut); clear K38
      have K78 := Lib.hid (K39.out.below hcut); clear K39
      have bw79 := ball bw42 hcut
      clear bw42
      clear hcut
      go_upto_if 152 with fail
      go_cut [] from 152 to 152 (fun wc => Below w76.heap.size w76 wc)
      case first =>
        have bwr := Below.refl w76.heap.size w76
        cases u2
        case false =>
          go_wp2_with fail
          go_meet
          exact bwr
        case true =>
          have hce := HU2.out
          have hce2 := hce
          unfold cenB at hce2
          rw [Bool.and_eq_true, decide_eq_true_eq] at hce2
          obtain ⟨hcos, hne⟩ := hce2
          have hokW : okW M = true := by unfold cosB at hcos; rw [Bool.and_eq_true] at hcos; exact hcos.1
          have hc1 := HCC.out
          have hc2 := HCM.out
          rw [hce, if_pos rfl] at hc1 hc2
          obtain ⟨ca1, ca2⟩ := cen_at (rmxF M) hne
          obtain ⟨D, hD⟩ : ∃ D, bf M.length (entM M) M.length = D := ⟨_, rfl⟩
          have hX : onM (cosB M) (disM M) = toM nM D := by rw [hcos, ← HNM.out, ← hD]; rfl
          have HG := Lib.hid (show ∀ i, i < nM → cm2 ≤ mxF 0 (D i) nM ∧ ((i : Int) = cc → mxF 0 (D i) nM = cm2) from fun i hi => by
            rw [← HNM.out] at hi
            have h1 := row_max hokW hi
            rw [hD, HNM.out] at h1
            rw [h1, ← hc2, ← hc1]
            refine ⟨cen_le (rmxF M) hi, fun e => ?_⟩
            have e2 : i = (cenF (rmxF M) M.length).1 := by omega
            rw [e2]
            exact ca2)
          have q1 := fun (w : World) (h : RdM w adm M) => (sWayCosts_c adm cm M w h HSM.out.sm).mono fun e w' h => ManR.uni h hX hcos (toM_len nM D)
          simp only [HNM.out] at q1
          have Q1 := Lib.hid q1
          clear q1 hX hD hce hc1 hc2 hcos hne hokW ca1 ca2
          go_wp2_with fail
          refine (Q1.out _ K78.out).mono ?_
          rintro e w80 ⟨add, cd, rfl, hrd, hb81⟩
          have K82 := Lib.hid (K77.out.below hb81); clear K77
          have K83 := Lib.hid (K78.out.below hb81); clear K78
          have bw84 := ball bwr hb81
          clear bwr
          clear hb81
          have K85 := Lib.hid hrd; clear hrd
          clear Q1
          go_wp2_with fail
          go_loopw [162] (fun i wr => ∃ k : Nat, k ≤ nM ∧ i = .int .i64 k ∧ Below w80.heap.size w80 wr) (fun i _ => nM - (intOf i).toNat)
          case atStart => exact ⟨0, Nat.zero_le _, rfl, Below.refl _ _⟩
          case round =>
            obtain ⟨wE, rfl⟩ : ∃ x : World, x = wr := ⟨_, rfl⟩
            obtain ⟨k, hk, rfl, hbel⟩ := hrel
            by_cases hlt : k < nM
            case neg =>
              go_wp2_with fail
              go_meet
              exact ball bw84 hbel
            case pos =>
              obtain ⟨b1, o1, rfl, hb1, hrow⟩ := K85.out.rowF (by omega)
              obtain ⟨b2, o2, c2, e2, hl2, hc2⟩ := hrow k hlt
              have e2 := bcell hbel hb1 e2
              have HC2 := Lib.hid hc2
              have x1 : (0 : Int) ≤ (k : Int) := by omega
              have x2 : (k : Int) < (nM : Int) := by omega
              clear hrow hc2
              go_wp2_with fail
              go_loopw [30, 169] (fun v i wr => ∃ j : Nat, j ≤ nM ∧ i = .int .i64 j ∧ v = .int .i64 (mxF 0 (D k) j) ∧ Below w80.heap.size w80 wr) (fun _ i _ => nM - (intOf i).toNat)
              case atStart => exact ⟨0, Nat.zero_le _, rfl, rfl, hbel⟩
              case round =>
                obtain ⟨wI, rfl⟩ : ∃ x : World, x = wr := ⟨_, rfl⟩
                obtain ⟨j, hj, rfl, rfl, hbel2⟩ := hrel
                clear e2
                by_cases hlj : j < nM
                case neg =>
                  obtain rfl : j = nM := by omega
                  obtain ⟨g1, g2⟩ := HG.out k hlt
                  generalize mxF 0 (D k) j = G at g1 g2 ⊢
                  have d1 : decide (G < cm2) = false := decide_eq_false (by omega)
                  by_cases hkc : (k : Int) = cc
                  · have d3 := g2 hkc
                    subst d3
                    have d2 : ((k : Int) == cc) = true := by rw [hkc]; exact beq_self_eq_true _
                    clear g1 g2 hkc
                    go_wp2_with fail
                    go_roundw
                    case rel => exact ⟨k + 1, by omega, by go_num, hbel2⟩
                    case measure => simp [intOf]; omega
                  · have d2 : ((k : Int) == cc) = false := beq_eq_false_iff_ne.2 hkc
                    clear g1 g2 hkc
                    go_wp2_with fail
                    go_roundw
                    case rel => exact ⟨k + 1, by omega, by go_num, hbel2⟩
                    case measure => simp [intOf]; omega
                case pos =>
                  have k2 := bcell hbel2 hl2 (HC2.out j hlj)
                  have HMX := Lib.hid (show mxF 0 (D k) (j + 1) = mstZ (mxF 0 (D k) j) (D k j) from rfl)
                  generalize mxF 0 (D k) j = A at HMX ⊢
                  generalize D k j = v at k2 HMX
                  have y1 : (0 : Int) ≤ (j : Int) := by omega
                  have y2 : (j : Int) < (nM : Int) := by omega
                  by_cases hv : A < v
                  · have d1 : decide (A < v) = true := decide_eq_true hv
                    have hm2 : mstZ A v = v := by unfold mstZ; rw [if_neg (by omega)]
                    have HM2 := Lib.hid hm2
                    clear hm2 hv
                    go_wp2_with fail
                    go_roundw
                    case rel => exact ⟨j + 1, by omega, by go_num, by rw [HMX.out, HM2.out], hbel2⟩
                    case measure => simp [intOf]; omega
                  · have d1 : decide (A < v) = false := decide_eq_false hv
                    have hm2 : mstZ A v = A := by unfold mstZ; split <;> omega
                    have HM2 := Lib.hid hm2
                    clear hm2 hv
                    go_wp2_with fail
                    go_roundw
                    case rel => exact ⟨j + 1, by omega, by go_num, by rw [HMX.out, HM2.out], hbel2⟩
                    case measure => simp [intOf]; omega
      case rest =>
        obtain ⟨w86, rfl⟩ : ∃ y : World, y = wc := ⟨_, rfl⟩
        clear K78
        have K87 := Lib.hid (K77.out.below hcut); clear K77
        have bw88 := ball bw79 hcut
        clear bw79
        clear hcut
        clear HP HU1 HNP HNM HU2 HCC HCM HSM
        go_wp2_with fail
        refine (drawIsProved_c ad1 n1 cap1 _ hm1 K87.out).mono ?_
        rintro e w89 ⟨adu, cu, U, adq, cq, q, adl, cl, l, rfl, ⟨hs1, hs2, hs3⟩, hru, hrq, hrl, hb90⟩
        have K91 := Lib.hid (K87.out.below hb90); clear K87
        have bw92 := ball bw88 hb90
        clear bw88
        clear hb90
        have K93 := Lib.hid hru; clear hru
        have K94 := Lib.hid hrq; clear hrq
        have K95 := Lib.hid hrl; clear hrl
        obtain ⟨nU, hnU⟩ : ∃ n, U.length = n := ⟨_, rfl⟩
        obtain ⟨nq, hnq⟩ : ∃ n, q.length = n := ⟨_, rfl⟩
        obtain ⟨nl, hnl⟩ : ∃ n, l.length = n := ⟨_, rfl⟩
        obtain ⟨u5, hu5⟩ : ∃ u, proB U q l = u := ⟨_, rfl⟩
        obtain ⟨u6, hu6⟩ : ∃ u, proX U q l = u := ⟨_, rfl⟩
        have q1 := fun (w : World) (h1 : RdM w adu U) (h2 : RdI w adq q) (h3 : RdI w adl l) => iIsProved_c adu cu U adq cq q adl cl l w h1 hs1.sm h2 (by omega) h3 (by omega)
        have q2 := fun (w : World) (h1 : RdM w adu U) (h2 : RdI w adq q) (h3 : RdI w adl l) => sIsProved_c adu cu U adq cq q adl cl l w h1 hs1.sm h2 (by omega) h3 (by omega)
        simp only [hnU, hnq, hnl, hu5, hu6] at q1 q2
        have q3 := fun (w : World) (h1 : RdM w adu U) (h3 : RdI w adl l) => iCostOfWay_c adu cu U adl cl l w h1 hs1.sm h3 (by omega)
        have q4 := fun (w : World) (h1 : RdM w adu U) => iWayCosts_c adu cu U w h1 hs1.sm
        simp only [hnU, hnl] at q3 q4
        rw [hnU, hnq, hnl]
        have Q1 := Lib.hid q1; have Q2 := Lib.hid q2; have Q3 := Lib.hid q3; have Q4 := Lib.hid q4
        have HNU := Lib.hid hnU; have HNL := Lib.hid hnl; have HU5 := Lib.hid hu5; have HU6 := Lib.hid hu6; have HS3 := Lib.hid hs3
        clear q1 q2 q3 q4 hnU hnq hnl hu5 hu6 hs1 hs2 hs3
        go_wp2_with fail
        refine (Q1.out _ K93.out K94.out K95.out).mono ?_
        rintro e w96 ⟨rfl, hb97⟩
        have K98 := Lib.hid (K91.out.below hb97); clear K91
        have K99 := Lib.hid (K93.out.below hb97); clear K93
        have K100 := Lib.hid (K94.out.below hb97); clear K94
        have K101 := Lib.hid (K95.out.below hb97); clear K95
        have bw102 := ball bw92 hb97
        clear bw92
        clear hb97
        go_wp2_with fail
        refine (Q2.out _ K99.out K100.out K101.out).mono ?_
        rintro e w103 ⟨rfl, hb104⟩
        have K105 := Lib.hid (K98.out.below hb104); clear K98
        have K106 := Lib.hid (K99.out.below hb104); clear K99
        have K107 := Lib.hid (K100.out.below hb104); clear K100
        have K108 := Lib.hid (K101.out.below hb104); clear K101
        have bw109 := ball bw102 hb104
        clear bw102
        clear hb104
        clear Q1 Q2
        go_wp2_with fail
        refine (drawWithin_c ad1 n1 cap1 _ hm1 K105.out).mono ?_
        rintro e w110 ⟨adx, cx, X, f, mo, rfl, hsx, hrx, hb111⟩
        have K112 := Lib.hid (K105.out.below hb111); clear K105
        have K113 := Lib.hid (K106.out.below hb111); clear K106
        have K114 := Lib.hid (K107.out.below hb111); clear K107
        have K115 := Lib.hid (K108.out.below hb111); clear K108
        have bw116 := ball bw109 hb111
        clear bw109
        clear hb111
        have K117 := Lib.hid hrx; clear hrx
        obtain ⟨nX, hnX⟩ : ∃ n, X.length = n := ⟨_, rfl⟩
        obtain ⟨P, hP⟩ : ∃ P, onL (wiB X f mo) (wiX X f mo) = P := ⟨_, rfl⟩
        obtain ⟨u7, hu7⟩ : ∃ u, wiB X f mo = u := ⟨_, rfl⟩
        obtain ⟨nP, hnP⟩ : ∃ n, P.length = n := ⟨_, rfl⟩
        have q1 := fun (w : World) (h : RdM w adx X) => (iWithinCost_c adx cx X f mo w h hsx.sm).mono fun e w' h => LisR.uni h hP hu7 hnP
        have q2 := fun (w : World) (h : RdM w adx X) => (sWithinCost_c adx cx X f mo w h hsx.sm).mono fun e w' h => LisR.uni h hP hu7 hnP
        simp only [hnX] at q1 q2
        have hnP7 : nP ≤ 7 := by
          rw [← hnP, ← hP]
          unfold onL
          split
          · exact Nat.le_trans (wiL_len _ _ _) hsx.1
          · simp
        rw [hnX]
        have Q1 := Lib.hid q1; have Q2 := Lib.hid q2; have HNP := Lib.hid hnP
        clear q1 q2 hP hu7 hnP hnX hsx
        go_wp2_with fail
        refine (Q1.out _ K117.out).mono ?_
        rintro e w118 ⟨adp, cp, rfl, hrp, hb119⟩
        have K120 := Lib.hid (K112.out.below hb119); clear K112
        have K121 := Lib.hid (K113.out.below hb119); clear K113
        have K122 := Lib.hid (K114.out.below hb119); clear K114
        have K123 := Lib.hid (K115.out.below hb119); clear K115
        have K124 := Lib.hid (K117.out.below hb119); clear K117
        have bw125 := ball bw116 hb119
        clear bw116
        clear hb119
        have K126 := Lib.hid hrp; clear hrp
        go_wp2_with fail
        refine (Q2.out _ K124.out).mono ?_
        rintro e w127 ⟨adp2, cp2, rfl, hrp, hb128⟩
        have K129 := Lib.hid (K120.out.below hb128); clear K120
        have K130 := Lib.hid (K121.out.below hb128); clear K121
        have K131 := Lib.hid (K122.out.below hb128); clear K122
        have K132 := Lib.hid (K123.out.below hb128); clear K123
        have K133 := Lib.hid (K124.out.below hb128); clear K124
        have K134 := Lib.hid (K126.out.below hb128); clear K126
        have bw135 := ball bw125 hb128
        clear bw125
        clear hb128
        have K136 := Lib.hid hrp; clear hrp
        clear Q1 Q2
        have CS := Lib.hid (fun (w : World) h1 h2 => (show Calls _ _ #[.slice adp nP cp, .slice adp2 nP cp2] w _ by have := sameI_c adp cp adp2 cp2 P w (by rw [HNP.out]; omega) h1 h2; rw [HNP.out] at this; exact this))
        go_wp2_with fail
        refine (CS.out _ K134.out K136.out).mono ?_
        rintro e w137 ⟨rfl, hb138⟩
        have K139 := Lib.hid (K129.out.below hb138); clear K129
        have K140 := Lib.hid (K130.out.below hb138); clear K130
        have K141 := Lib.hid (K131.out.below hb138); clear K131
        have K142 := Lib.hid (K132.out.below hb138); clear K132
        have K143 := Lib.hid (K133.out.below hb138); clear K133
        have K144 := Lib.hid (K134.out.below hb138); clear K134
        have K145 := Lib.hid (K136.out.below hb138); clear K136
        have bw146 := ball bw135 hb138
        clear bw135
        clear hb138
        clear CS
        clear K139
        clear K141
        clear K143
        clear K144
        clear K145
        cases u6
        case false =>
          go_wp2_with fail
          go_ret
          exact ⟨rfl, bw146⟩
        case true =>
          cases u5
          case false =>
            go_wp2_with fail
            go_ret
            exact ⟨rfl, bw146⟩
          case true =>
            have hq3 := Q3.out
            obtain ⟨u8, hu8⟩ : ∃ u, (cowW U l && numB (cowX U l)) = u := ⟨_, rfl⟩
            obtain ⟨vc, hvc⟩ : ∃ x : Int, (if cowW U l = true then toldZ (cowX U l) else 0) = x := ⟨_, rfl⟩
            simp only [hu8, hvc, pairV] at hq3
            obtain ⟨XD, hXD⟩ : ∃ X, onM (cosB U) (disM U) = X := ⟨_, rfl⟩
            obtain ⟨u9, hu9⟩ : ∃ u, cosB U = u := ⟨_, rfl⟩
            obtain ⟨nD, hnD⟩ : ∃ n, XD.length = n := ⟨_, rfl⟩
            have q4 := fun (w : World) (h : RdM w adu U) => (Q4.out w h).mono fun e w' h => ManR.uni h hXD hu9 hnD
            have HQ3 := Lib.hid hq3; have HQ4 := Lib.hid q4
            have HU8 := Lib.hid hu8; have HVC := Lib.hid hvc; have HXD := Lib.hid hXD; have HU9 := Lib.hid hu9; have HND := Lib.hid hnD
            clear hq3 q4 hu8 hvc hXD hu9 hnD Q3 Q4
            go_wp2_with fail
            refine (HQ3.out _ K140.out K142.out).mono ?_
            rintro e w147 ⟨rfl, hb148⟩
            have K149 := Lib.hid (K140.out.below hb148); clear K140
            have K150 := Lib.hid (K142.out.below hb148); clear K142
            have bw151 := ball bw146 hb148
            clear bw146
            clear hb148
            go_wp2_with fail
            refine (HQ4.out _ K149.out).mono ?_
            rintro e w152 ⟨add, cd, rfl, hrd, hb153⟩
            have K154 := Lib.hid (K149.out.below hb153); clear K149
            have K155 := Lib.hid (K150.out.below hb153); clear K150
            have bw156 := ball bw151 hb153
            clear bw151
            clear hb153
            have K157 := Lib.hid hrd; clear hrd
            clear HQ3 HQ4
            cases u8
            case false =>
              go_wp2_with fail
              go_quiet (fail)
              go_wp2_with fail
              go_ret
              exact ⟨rfl, bdrewN bw156 _⟩
            case true =>
              cases u9
              case false =>
                go_wp2_with fail
                go_quiet (fail)
                go_wp2_with fail
                go_ret
                exact ⟨rfl, bdrewN bw156 _⟩
              case true =>
                have hok : okW U = true := by have := HU9.out; unfold cosB at this; rw [Bool.and_eq_true] at this; exact this.1
                obtain ⟨p1, p2, p3, p4, p5, p6⟩ := proved_cheapest HU5.out hok
                have hcw := HU8.out
                rw [Bool.and_eq_true] at hcw
                have hv := HVC.out
                rw [if_pos hcw.1] at hv
                unfold toldZ at hv
                rw [if_pos hcw.2] at hv
                obtain ⟨D, hD⟩ : ∃ D, bf U.length (entM U) U.length = D := ⟨_, rfl⟩
                rw [hD, hv] at p1
                have hX2 : XD = toM nU D := by rw [← HXD.out, HU9.out, ← HNU.out, ← hD]; rfl
                have hRD := K157.out
                rw [hX2] at hRD
                rw [HNU.out] at p2 p3
                have hnD2 : nD = nU := by rw [← HND.out, hX2, toM_len]
                subst hnD2
                obtain ⟨b1, o1, rfl, hb1, hrow⟩ := hRD.rowF (by omega)
                obtain ⟨b2, o2, c2, e2, hl2, hc2⟩ := hrow _ p2
                have k2 := hc2 _ p3
                rw [p1] at k2
                obtain ⟨b3, o3, rfl, hb3, k3⟩ := K155.out 0 (by omega)
                have k4 := K155.out.at (j := l.length - 1) (by omega)
                rw [p5, Nat.add_zero] at k3
                rw [p6] at k4
                rw [HNL.out] at k2 k4 p3 p4
                have hl21 : nl ≤ 21 := by rw [← HNL.out]; exact HS3.out
                
                obtain ⟨t, ht⟩ : ∃ t, nl - 1 = t := ⟨_, rfl⟩
                have e1 : IntKind.i64.wrap ((nl : Int) - 1) = (t : Int) := by rw [i64_small (by omega) (by omega)]; omega
                rw [ht] at k2 k4 p3
                have y1 : (0 : Int) ≤ (t : Int) := by omega
                have y2 : (t : Int) < (nl : Int) := by omega
                have y3 : (0 : Int) < (nl : Int) := by omega
                have y4 : 0 < nl := by omega
                generalize vx l 0 = a at k3 e2 k2 p2
                generalize vx l t = b at k4 k2 p3
                have y5 : (0 : Int) ≤ (a : Int) := by omega
                have y6 : (a : Int) < (nD : Int) := by omega
                have y7 : (0 : Int) ≤ (b : Int) := by omega
                have y8 : (b : Int) < (nD : Int) := by omega
                clear hc2 hrow hRD hX2 hD p1 p4 p5 p6 hcw hv hok ht
                go_wp2_with fail
                go_quiet (fail)
                go_wp2_with fail
                go_ret
                exact ⟨rfl, bdrewN bw156 _⟩
end Go.Proofs.Ytbffcbjbeeagmaa
