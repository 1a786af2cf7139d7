/-
  The walk of 'laws.FnFunctions': it returns true. Printed by gen_lawU.py.
-/
import Derived.Test.YtekhmjhbdoigoaaFuW
import Derived.Deep.DeepCutAuto
import Derived.Deep.QuietTactic
namespace Go.Proofs.Ytekhmjhbdoigoaa
open Go.RowKit

set_option maxHeartbeats 400000 in
theorem iIsPoly_c (ad : Option Addr) (cap : Nat) (p : List Int) (w : World) (hr : RdI w ad p) (hl : p.length ≤ 1048576) :
    Calls Try.prog 10 #[.slice ad p.length cap] w fun e w' => e = .returned (.bool (polyB p)) ∧ w = w' := by
  have c1 := isPoly_c ad cap p w hr hl
  generalize polyB p = b at c1 ⊢
  have C1 := Lib.hid c1; clear c1 hr
  go_enter Try.func10, Try.ntmps10
  go_wp2_with fail
  refine C1.out.mono ?_
  rintro e w1 ⟨rfl, rfl⟩
  go_wp2_with fail
  go_ret
  exact ⟨rfl, rfl⟩
set_option maxHeartbeats 64000000 in
set_option maxRecDepth 100000 in
theorem lawFunctions_any (ad0 : Option Addr) (n0 cap0 : Nat) (ad1 : Option Addr) (n1 cap1 : Nat) (w : World) (hm0 : n0 ≤ 9223372036854775807) (hr0 : RdB w ad0 n0) (hm1 : n1 ≤ 9223372036854775807) (hr1 : RdB w ad1 n1) :
    Calls Try.prog 3 #[.slice ad0 n0 cap0, .slice ad1 n1 cap1] w fun e w' => e = .returned (.bool true) ∧ Below w.heap.size w w' := by
  have bw0 := Below.refl w.heap.size w
  have K1 := Lib.hid hr0; clear hr0
  have K2 := Lib.hid hr1; clear hr1
  obtain ⟨tb, htb⟩ : ∃ tb : Bool, decide (1048576 < wrap64 ((n0 : Int) + (n1 : Int))) = tb := ⟨_, rfl⟩
  cases tb
  case true =>
    go_enter Try.func3, Try.ntmps3
    go_wp2_with fail
    go_ret
    exact ⟨rfl, bw0⟩
  case false =>
    go_enter Try.func3, Try.ntmps3
    go_wp2_with fail
    refine (drawLeast_c ad0 n0 cap0 _ hm0 K1.out).mono ?_
    rintro e w3 ⟨vp, p, rfl, hlp, hrow, hb4⟩
    have K5 := Lib.hid (K1.out.below hb4); clear K1
    have K6 := Lib.hid (K2.out.below hb4); clear K2
    have bw7 := ball bw0 hb4
    clear bw0
    clear hb4
    obtain ⟨adp, capp, rfl, hrp⟩ := hrow.shape
    clear hrow
    have K8 := Lib.hid hrp; clear hrp
    have c1 := fun w hr => iLeast_c adp capp p w hr (by omega)
    have c2 := fun w hr => sLeast_c adp capp p w hr (by omega)
    have c3 := fun w hr => iNeedless_c adp capp p w hr (by omega)
    have c4 := fun w hr => sNeedless_c adp capp p w hr (by omega)
    obtain ⟨LL, hLL⟩ : ∃ L, (if polyB p = true then leastP p else []) = L := ⟨_, rfl⟩
    obtain ⟨NL, hNL⟩ : ∃ L, (if polyB p = true then natL (needK p p.length) else []) = L := ⟨_, rfl⟩
    have hl41 : LL.length ≤ 41 := by rw [← hLL]; split; (rw [leastP_len]; exact hlp); simp
    have hn41 : NL.length ≤ 41 := by rw [← hNL]; split; (rw [natL_len]; have := needK_len p p.length; omega); simp
    simp only [hLL] at c1 c2
    simp only [hNL] at c3 c4
    obtain ⟨va, hva⟩ : ∃ u, polyB p = u := ⟨_, rfl⟩
    simp only [hva] at c1 c2 c3 c4
    have HVA := Lib.hid hva; have HLL := Lib.hid hLL; have HNL := Lib.hid hNL; clear hva hLL hNL
    have C1 := Lib.hid c1; clear c1
    have C2 := Lib.hid c2; clear c2
    have C3 := Lib.hid c3; clear c3
    have C4 := Lib.hid c4; clear c4
    go_wp2_with fail
    refine (C1.out _ K8.out).mono ?_
    rintro e w9 ⟨a1, k1, rfl, hrd, hb10⟩
    have K11 := Lib.hid (K5.out.below hb10); clear K5
    have K12 := Lib.hid (K6.out.below hb10); clear K6
    have K13 := Lib.hid (K8.out.below hb10); clear K8
    have bw14 := ball bw7 hb10
    clear bw7
    clear hb10
    have K15 := Lib.hid hrd; clear hrd
    go_wp2_with fail
    refine (C2.out _ K13.out).mono ?_
    rintro e w16 ⟨a2, k2, rfl, hrd, hb17⟩
    have K18 := Lib.hid (K11.out.below hb17); clear K11
    have K19 := Lib.hid (K12.out.below hb17); clear K12
    have K20 := Lib.hid (K13.out.below hb17); clear K13
    have K21 := Lib.hid (K15.out.below hb17); clear K15
    have bw22 := ball bw14 hb17
    clear bw14
    clear hb17
    have K23 := Lib.hid hrd; clear hrd
    go_wp2_with fail
    refine (C3.out _ K20.out).mono ?_
    rintro e w24 ⟨v3, rfl, hrow, hb25⟩
    have K26 := Lib.hid (K18.out.below hb25); clear K18
    have K27 := Lib.hid (K19.out.below hb25); clear K19
    have K28 := Lib.hid (K20.out.below hb25); clear K20
    have K29 := Lib.hid (K21.out.below hb25); clear K21
    have K30 := Lib.hid (K23.out.below hb25); clear K23
    have bw31 := ball bw22 hb25
    clear bw22
    clear hb25
    obtain ⟨a3, k3, rfl, hrd⟩ := hrow.shape
    clear hrow
    have K32 := Lib.hid hrd; clear hrd
    go_wp2_with fail
    refine (C4.out _ K28.out).mono ?_
    rintro e w33 ⟨v4, rfl, hrow, hb34⟩
    have K35 := Lib.hid (K26.out.below hb34); clear K26
    have K36 := Lib.hid (K27.out.below hb34); clear K27
    have K37 := Lib.hid (K28.out.below hb34); clear K28
    have K38 := Lib.hid (K29.out.below hb34); clear K29
    have K39 := Lib.hid (K30.out.below hb34); clear K30
    have K40 := Lib.hid (K32.out.below hb34); clear K32
    have bw41 := ball bw31 hb34
    clear bw31
    clear hb34
    obtain ⟨a4, k4, rfl, hrd⟩ := hrow.shape
    clear hrow
    have K42 := Lib.hid hrd; clear hrd
    clear C1 C2 C3 C4
    go_wp2_with fail
    refine (qIntsN_c a1 a2 k1 k2 LL _ (by omega) K38.out K39.out).mono ?_
    rintro e w43 ⟨rfl, hb44⟩
    have K45 := Lib.hid (K35.out.below hb44); clear K35
    have K46 := Lib.hid (K36.out.below hb44); clear K36
    have K47 := Lib.hid (K37.out.below hb44); clear K37
    have K48 := Lib.hid (K38.out.below hb44); clear K38
    have K49 := Lib.hid (K39.out.below hb44); clear K39
    have K50 := Lib.hid (K40.out.below hb44); clear K40
    have K51 := Lib.hid (K42.out.below hb44); clear K42
    have bw52 := ball bw41 hb44
    clear bw41
    clear hb44
    go_wp2_with fail
    refine (qIntsN_c a3 a4 k3 k4 NL _ (by omega) K50.out K51.out).mono ?_
    rintro e w53 ⟨rfl, hb54⟩
    have K55 := Lib.hid (K45.out.below hb54); clear K45
    have K56 := Lib.hid (K46.out.below hb54); clear K46
    have K57 := Lib.hid (K47.out.below hb54); clear K47
    have K58 := Lib.hid (K48.out.below hb54); clear K48
    have K59 := Lib.hid (K49.out.below hb54); clear K49
    have K60 := Lib.hid (K50.out.below hb54); clear K50
    have K61 := Lib.hid (K51.out.below hb54); clear K51
    have bw62 := ball bw52 hb54
    clear bw52
    clear hb54
    clear K55
    clear K60
    go_upto_if 96 with fail
    obtain ⟨N, hN⟩ : ∃ n, p.length = n := ⟨_, rfl⟩
    obtain ⟨ln, hln⟩ : ∃ n, LL.length = n := ⟨_, rfl⟩
    obtain ⟨M, hM⟩ : ∃ n, NL.length = n := ⟨_, rfl⟩
    rw [hN, hln, hM]
    have HN := Lib.hid hN; have HLNN := Lib.hid hln; have HMM := Lib.hid hM
    clear hN hln hM
    go_cut [] from 96 to 96 (fun wc => Below w53.heap.size w53 wc)
    case first =>
      cases va
      case false =>
        go_wp2_with fail
        go_meet
        exact Below.refl _ _
      case true =>
        have hp := HVA.out
        have hll := HLL.out
        have hnl := HNL.out
        rw [if_pos hp] at hll hnl
        subst hll hnl
        have hlen := leastP_len p
        have hlnN : ln = N := by rw [← HLNN.out, hlen, HN.out]
        subst hlnN
        have ci := fun w hr => iIsPoly_c a1 k1 (leastP p) w hr (by omega)
        have cs := fun w h h' => iSame_c adp capp p a1 k1 (leastP p) w h h' (by omega) (by omega)
        have hsm : ((polyB p && polyB (leastP p)) && decide (leastP p = leastP (leastP p))) = polyB (leastP p) := by
          rw [hp, Bool.true_and]
          cases h : polyB (leastP p) with
          | false => rfl
          | true => rw [Bool.true_and, least_twice hp h]; exact decide_eq_true rfl
        rw [hp, Bool.true_and] at hsm
        simp only [hp, Bool.true_and, hsm] at cs
        have hlaw := Lib.hid (fun i hi => least_law hp (i := i) hi)
        have hpl := (polyB_t hp).1
        have hN13 : ln ≤ 13 := by have := HN.out; omega
        have hM41 : M ≤ 41 := by rw [← HMM.out]; exact hn41
        obtain ⟨lp, hlpb⟩ : ∃ u, polyB (leastP p) = u := ⟨_, rfl⟩
        simp only [hlpb] at ci cs
        have hN0 := HN.out
        have hL0 : (leastP p).length = ln := HLNN.out
        have hM0 : (natL (needK p p.length)).length = M := HMM.out
        have ch := fun (y : Int) w hr => qHasN_c a4 k4 (natL (needK p p.length)) y w (by omega) hr
        simp only [hM0] at ch
        simp only [hN0, hL0] at ci cs
        have CI := Lib.hid ci; have CS := Lib.hid cs; have CHH := Lib.hid ch
        clear ci cs ch hsm hlpb hlen HLL HNL HVA hp hpl hN0 hL0 hM0
        go_wp2_with fail
        refine (CI.out _ K58.out).mono ?_
        rintro e w' ⟨rfl, rfl⟩
        cases lp
        case false =>
          go_wp2_with fail
          go_loopw [113] (fun i wr => ∃ j : Nat, j ≤ ln ∧ i = .int .i64 j ∧ Below w53.heap.size w53 wr) (fun i _ => ln - (intOf i).toNat)
          case atStart => exact ⟨0, Nat.zero_le _, rfl, Below.refl _ _⟩
          case round =>
            obtain ⟨wE, rfl⟩ : ∃ y : World, y = wr := ⟨_, rfl⟩
            obtain ⟨j, hj, rfl, hbw⟩ := hrel
            by_cases hlt : j < ln
            case neg =>
              go_wp2_with fail
              go_meet
              exact hbw
            case pos =>
              have hjp : j < p.length := by have := HN.out; omega
              obtain ⟨bP, offP, rfl, hbP, e0⟩ := K57.out j hjp
              obtain ⟨bL, offL, rfl, hbL, e1⟩ := K59.out j (by have := HLNN.out; omega)
              obtain ⟨l1, l2⟩ := hlaw.out j hjp
              obtain ⟨X, hX⟩ : ∃ x, p.getD j 0 = x := ⟨_, rfl⟩
              obtain ⟨Y, hY⟩ : ∃ x, (leastP p).getD j 0 = x := ⟨_, rfl⟩
              rw [hX] at e0 l1 l2
              rw [hY] at e1 l1 l2
              have t0 := bcell hbw hbP e0
              have t1 := bcell hbw hbL e1
              have x1 : (0 : Int) ≤ (j : Int) := by omega
              have x2 : (j : Int) < (ln : Int) := by omega
              have x3 : IntKind.i64.wrap ((j : Int) + 1) = ((j + 1 : Nat) : Int) := by rw [i64_small (by omega) (by omega)]; omega
              have g1 : decide (X < Y) = false := decide_eq_false (by omega)
              have g1' : decide (Y ≤ X) = true := decide_eq_true (by omega)
              have ch := CHH.out (j : Int) wE ((K61.out).below hbw)
              obtain ⟨Z, hZ⟩ : ∃ z, decide ((j : Int) ∈ natL (needK p p.length)) = z := ⟨_, rfl⟩
              rw [hZ] at ch
              have CZ := Lib.hid ch
              have L2 := Lib.hid l2; have HZ := Lib.hid hZ
              clear e0 e1 hX hY ch l1 l2 hZ
              cases Z
              case false =>
                go_wp2_with fail
                refine CZ.out.mono ?_
                rintro e w' ⟨rfl, rfl⟩
                go_wp2_with fail
                go_roundw
                case rel => exact ⟨j + 1, by omega, by go_num, hbw⟩
                case measure => (simp [intOf]; omega)
              case true =>
                have hm := of_decide_eq_true HZ.out
                by_cases hxy : Y = X
                case neg =>
                  have g2 : (Y == X) = false := beq_eq_false_iff_ne.2 hxy
                  clear hxy
                  go_wp2_with fail
                  refine CZ.out.mono ?_
                  rintro e w' ⟨rfl, rfl⟩
                  go_wp2_with fail
                  go_roundw
                  case rel => exact ⟨j + 1, by omega, by go_num, hbw⟩
                  case measure => (simp [intOf]; omega)
                case pos =>
                  have hne := L2.out hm hxy
                  have g2 : (Y == X) = true := beq_iff_eq.2 hxy
                  have g3 : (X == 1000000000) = false := beq_eq_false_iff_ne.2 hne
                  clear hxy hne hm
                  go_wp2_with fail
                  refine CZ.out.mono ?_
                  rintro e w' ⟨rfl, rfl⟩
                  go_wp2_with fail
                  go_roundw
                  case rel => exact ⟨j + 1, by omega, by go_num, hbw⟩
                  case measure => (simp [intOf]; omega)
        case true =>
          go_wp2_with fail
          refine (CS.out _ K57.out K58.out).mono ?_
          rintro e w63 ⟨rfl, hb64⟩
          have K65 := Lib.hid (K56.out.below hb64); clear K56
          have K66 := Lib.hid (K57.out.below hb64); clear K57
          have K67 := Lib.hid (K58.out.below hb64); clear K58
          have K68 := Lib.hid (K59.out.below hb64); clear K59
          have K69 := Lib.hid (K61.out.below hb64); clear K61
          have bw70 := hb64
          clear hb64
          go_wp2_with fail
          go_loopw [113] (fun i wr => ∃ j : Nat, j ≤ ln ∧ i = .int .i64 j ∧ Below w63.heap.size w63 wr) (fun i _ => ln - (intOf i).toNat)
          case atStart => exact ⟨0, Nat.zero_le _, rfl, Below.refl _ _⟩
          case round =>
            obtain ⟨wE, rfl⟩ : ∃ y : World, y = wr := ⟨_, rfl⟩
            obtain ⟨j, hj, rfl, hbw⟩ := hrel
            by_cases hlt : j < ln
            case neg =>
              go_wp2_with fail
              go_meet
              exact ball bw70 hbw
            case pos =>
              have hjp : j < p.length := by have := HN.out; omega
              obtain ⟨bP, offP, rfl, hbP, e0⟩ := K66.out j hjp
              obtain ⟨bL, offL, rfl, hbL, e1⟩ := K68.out j (by have := HLNN.out; omega)
              obtain ⟨l1, l2⟩ := hlaw.out j hjp
              obtain ⟨X, hX⟩ : ∃ x, p.getD j 0 = x := ⟨_, rfl⟩
              obtain ⟨Y, hY⟩ : ∃ x, (leastP p).getD j 0 = x := ⟨_, rfl⟩
              rw [hX] at e0 l1 l2
              rw [hY] at e1 l1 l2
              have t0 := bcell hbw hbP e0
              have t1 := bcell hbw hbL e1
              have x1 : (0 : Int) ≤ (j : Int) := by omega
              have x2 : (j : Int) < (ln : Int) := by omega
              have x3 : IntKind.i64.wrap ((j : Int) + 1) = ((j + 1 : Nat) : Int) := by rw [i64_small (by omega) (by omega)]; omega
              have g1 : decide (X < Y) = false := decide_eq_false (by omega)
              have g1' : decide (Y ≤ X) = true := decide_eq_true (by omega)
              have ch := CHH.out (j : Int) wE ((K69.out).below hbw)
              obtain ⟨Z, hZ⟩ : ∃ z, decide ((j : Int) ∈ natL (needK p p.length)) = z := ⟨_, rfl⟩
              rw [hZ] at ch
              have CZ := Lib.hid ch
              have L2 := Lib.hid l2; have HZ := Lib.hid hZ
              clear e0 e1 hX hY ch l1 l2 hZ
              cases Z
              case false =>
                go_wp2_with fail
                refine CZ.out.mono ?_
                rintro e w' ⟨rfl, rfl⟩
                go_wp2_with fail
                go_roundw
                case rel => exact ⟨j + 1, by omega, by go_num, hbw⟩
                case measure => (simp [intOf]; omega)
              case true =>
                have hm := of_decide_eq_true HZ.out
                by_cases hxy : Y = X
                case neg =>
                  have g2 : (Y == X) = false := beq_eq_false_iff_ne.2 hxy
                  clear hxy
                  go_wp2_with fail
                  refine CZ.out.mono ?_
                  rintro e w' ⟨rfl, rfl⟩
                  go_wp2_with fail
                  go_roundw
                  case rel => exact ⟨j + 1, by omega, by go_num, hbw⟩
                  case measure => (simp [intOf]; omega)
                case pos =>
                  have hne := L2.out hm hxy
                  have g2 : (Y == X) = true := beq_iff_eq.2 hxy
                  have g3 : (X == 1000000000) = false := beq_eq_false_iff_ne.2 hne
                  clear hxy hne hm
                  go_wp2_with fail
                  refine CZ.out.mono ?_
                  rintro e w' ⟨rfl, rfl⟩
                  go_wp2_with fail
                  go_roundw
                  case rel => exact ⟨j + 1, by omega, by go_num, hbw⟩
                  case measure => (simp [intOf]; omega)
    case rest =>
      have hbc := hcut
      obtain ⟨wu, rfl⟩ : ∃ wu : World, wu = wc := ⟨_, rfl⟩
      have K71 := Lib.hid (K56.out.below hbc); clear K56
      have K72 := Lib.hid (K57.out.below hbc); clear K57
      have K73 := Lib.hid (K58.out.below hbc); clear K58
      have K74 := Lib.hid (K59.out.below hbc); clear K59
      have K75 := Lib.hid (K61.out.below hbc); clear K61
      have bw76 := ball bw62 hbc
      clear bw62
      clear hbc
      clear K72
      clear K73
      clear K74
      clear K75
      clear HVA HLL HNL HN HLNN HMM
      go_wp2_with fail
      refine (drawSame_c ad1 n1 cap1 _ hm1 K71.out).mono ?_
      rintro e w77 ⟨ada, capa, xa, adb, capb, xb, rfl, ⟨hla, hlb⟩, hrda, hrdb, hb78⟩
      have K79 := Lib.hid (K71.out.below hb78); clear K71
      have bw80 := ball bw76 hb78
      clear bw76
      clear hb78
      have K81 := Lib.hid hrda; clear hrda
      have K82 := Lib.hid hrdb; clear hrdb
      have c1 := fun w h h' => iSame_c ada capa xa adb capb xb w h h' (by omega) (by omega)
      have c2 := fun w h h' => sSame_c ada capa xa adb capb xb w h h' (by omega) (by omega)
      generalize ((polyB xa && polyB xb) && decide (leastP xa = leastP xb)) = sm at c1 c2
      generalize (polyB xa && polyB xb) = sk at c1 c2
      have C1 := Lib.hid c1; have C2 := Lib.hid c2; clear c1 c2
      go_wp2_with fail
      refine (C1.out _ K81.out K82.out).mono ?_
      rintro e w83 ⟨rfl, hb84⟩
      have K85 := Lib.hid (K79.out.below hb84); clear K79
      have K86 := Lib.hid (K81.out.below hb84); clear K81
      have K87 := Lib.hid (K82.out.below hb84); clear K82
      have bw88 := ball bw80 hb84
      clear bw80
      clear hb84
      go_wp2_with fail
      refine (C2.out _ K86.out K87.out).mono ?_
      rintro e w89 ⟨rfl, hb90⟩
      have K91 := Lib.hid (K85.out.below hb90); clear K85
      have K92 := Lib.hid (K86.out.below hb90); clear K86
      have K93 := Lib.hid (K87.out.below hb90); clear K87
      have bw94 := ball bw88 hb90
      clear bw88
      clear hb90
      clear C1 C2
      clear K92
      clear K93
      go_wp2_with fail
      refine (drawFromRoots_c ad1 n1 cap1 _ hm1 K91.out).mono ?_
      rintro e w95 ⟨lead, vl, xl, rfl, hll, hrow, hb96⟩
      have K97 := Lib.hid (K91.out.below hb96); clear K91
      have bw98 := ball bw94 hb96
      clear bw94
      clear hb96
      obtain ⟨adl, capl, rfl, hrl⟩ := hrow.shape
      clear hrow
      have K99 := Lib.hid hrl; clear hrl
      have c1 := fun w hr => iFromRoots_c lead adl capl xl w hr (by omega)
      have c2 := fun w hr => sFromRoots_c lead adl capl xl w hr (by omega)
      obtain ⟨FL, hFL⟩ : ∃ L, (if fromOk lead xl = true then fromP lead xl else []) = L := ⟨_, rfl⟩
      have hf41 : FL.length ≤ 41 := by rw [← hFL]; split; (rw [fromP_len]; omega); simp
      simp only [hFL] at c1 c2
      obtain ⟨fk, hfk⟩ : ∃ u, fromOk lead xl = u := ⟨_, rfl⟩
      simp only [hfk] at c1 c2
      have HFK := Lib.hid hfk; have HFL := Lib.hid hFL; clear hfk hFL
      have C1 := Lib.hid c1; have C2 := Lib.hid c2; clear c1 c2
      go_wp2_with fail
      refine (C1.out _ K99.out).mono ?_
      rintro e w100 ⟨a5, k5, rfl, hrd, hb101⟩
      have K102 := Lib.hid (K97.out.below hb101); clear K97
      have K103 := Lib.hid (K99.out.below hb101); clear K99
      have bw104 := ball bw98 hb101
      clear bw98
      clear hb101
      have K105 := Lib.hid hrd; clear hrd
      go_wp2_with fail
      refine (C2.out _ K103.out).mono ?_
      rintro e w106 ⟨a6, k6, rfl, hrd, hb107⟩
      have K108 := Lib.hid (K102.out.below hb107); clear K102
      have K109 := Lib.hid (K103.out.below hb107); clear K103
      have K110 := Lib.hid (K105.out.below hb107); clear K105
      have bw111 := ball bw104 hb107
      clear bw104
      clear hb107
      have K112 := Lib.hid hrd; clear hrd
      clear C1 C2
      go_wp2_with fail
      refine (drawAtFrac_c ad1 n1 cap1 _ hm1 K108.out).mono ?_
      rintro e w113 ⟨vq, q, f, rfl, hlq, hrow, hb114⟩
      have K115 := Lib.hid (K108.out.below hb114); clear K108
      have K116 := Lib.hid (K109.out.below hb114); clear K109
      have K117 := Lib.hid (K110.out.below hb114); clear K110
      have K118 := Lib.hid (K112.out.below hb114); clear K112
      have bw119 := ball bw111 hb114
      clear bw111
      clear hb114
      obtain ⟨adq, capq, rfl, hrq⟩ := hrow.shape
      clear hrow
      have K120 := Lib.hid hrq; clear hrq
      have d1 := fun w hr => iValueAtFrac_c adq capq q f w hr (by omega)
      have d2 := fun w hr => sValueAtFrac_c adq capq q f w hr (by omega)
      obtain ⟨M0, hM⟩ : ∃ M, (if vafB q f = true then vafF q f else Fr.z) = M := ⟨_, rfl⟩
      unfold frR at d1 d2
      simp only [hM] at d1 d2
      generalize vafB q f = kv at d1 d2 hM
      obtain ⟨ma, mb⟩ := M0
      obtain ⟨fa, fb⟩ := f
      unfold frV
      unfold frV at d1 d2
      simp only at d1 d2 ⊢
      have D1 := Lib.hid d1; have D2 := Lib.hid d2; clear d1 d2 hM
      have hnl := FrO.new w113 fa fb rfl
      have hbx := (Below.refl w113.heap.size w113).alloc (Nat.le_refl _) (.cells #[.int .i64 fa, .int .i64 fb] 38)
      go_wp2_with fail
      have K121 := Lib.hid (K115.out.below hbx); clear K115
      have K122 := Lib.hid (K116.out.below hbx); clear K116
      have K123 := Lib.hid (K117.out.below hbx); clear K117
      have K124 := Lib.hid (K118.out.below hbx); clear K118
      have K125 := Lib.hid (K120.out.below hbx); clear K120
      have bw126 := ball bw119 hbx
      clear bw119
      clear hbx
      have K127 := Lib.hid hnl; clear hnl
      obtain ⟨x0, x1⟩ := K127.out.at
      refine (D1.out _ K125.out).mono ?_
      rintro e w128 ⟨rfl, hb129⟩
      have K130 := Lib.hid (K121.out.below hb129); clear K121
      have K131 := Lib.hid (K122.out.below hb129); clear K122
      have K132 := Lib.hid (K123.out.below hb129); clear K123
      have K133 := Lib.hid (K124.out.below hb129); clear K124
      have K134 := Lib.hid (K125.out.below hb129); clear K125
      have K135 := Lib.hid (K127.out.below hb129); clear K127
      have bw136 := ball bw126 hb129
      clear bw126
      clear hb129
      clear x0 x1
      have hneOT := Nat.ne_of_lt (FrO.lt K135.out)
      obtain ⟨zOT0, zOT1⟩ := (FrO.alloc K135.out (.cells #[.int .i64 ma, .int .i64 mb] 38)).at
      have hnl := FrO.new w128 ma mb rfl
      have hbx := (Below.refl w128.heap.size w128).alloc (Nat.le_refl _) (.cells #[.int .i64 ma, .int .i64 mb] 38)
      go_wp2_with fail
      have K137 := Lib.hid (K130.out.below hbx); clear K130
      have K138 := Lib.hid (K131.out.below hbx); clear K131
      have K139 := Lib.hid (K132.out.below hbx); clear K132
      have K140 := Lib.hid (K133.out.below hbx); clear K133
      have K141 := Lib.hid (K134.out.below hbx); clear K134
      have K142 := Lib.hid (K135.out.below hbx); clear K135
      have bw143 := ball bw136 hbx
      clear bw136
      clear hbx
      have K144 := Lib.hid hnl; clear hnl
      clear hneOT zOT0 zOT1
      obtain ⟨x0, x1⟩ := K142.out.at
      refine (D2.out _ K141.out).mono ?_
      rintro e w145 ⟨rfl, hb146⟩
      have K147 := Lib.hid (K137.out.below hb146); clear K137
      have K148 := Lib.hid (K138.out.below hb146); clear K138
      have K149 := Lib.hid (K139.out.below hb146); clear K139
      have K150 := Lib.hid (K140.out.below hb146); clear K140
      have K151 := Lib.hid (K141.out.below hb146); clear K141
      have K152 := Lib.hid (K142.out.below hb146); clear K142
      have K153 := Lib.hid (K144.out.below hb146); clear K144
      have bw154 := ball bw143 hb146
      clear bw143
      clear hb146
      clear x0 x1
      clear D1 D2
      have hnl := FrO.new w145 ma mb rfl
      have hbx := (Below.refl w145.heap.size w145).alloc (Nat.le_refl _) (.cells #[.int .i64 ma, .int .i64 mb] 38)
      go_upto_region 30 with fail
      have K155 := Lib.hid (K147.out.below hbx); clear K147
      have K156 := Lib.hid (K148.out.below hbx); clear K148
      have K157 := Lib.hid (K149.out.below hbx); clear K149
      have K158 := Lib.hid (K150.out.below hbx); clear K150
      have K159 := Lib.hid (K151.out.below hbx); clear K151
      have K160 := Lib.hid (K152.out.below hbx); clear K152
      have K161 := Lib.hid (K153.out.below hbx); clear K153
      have bw162 := ball bw154 hbx
      clear bw154
      clear hbx
      have K163 := Lib.hid hnl; clear hnl
      clear K155
      clear K159
      clear K160
      generalize (w145.alloc (.cells #[.int .i64 ma, .int .i64 mb] 38)) = wz at K156 K157 K158 K161 K163 bw162 ⊢
      obtain ⟨x0, x1⟩ := K161.out.at
      obtain ⟨y0, y1⟩ := K163.out.at
      go_wp2_with fail
      refine (qIntsN_c a5 a6 k5 k6 FL _ (by omega) K157.out K158.out).mono ?_
      rintro e w164 ⟨rfl, hb165⟩
      have K166 := Lib.hid (K156.out.below hb165); clear K156
      have K167 := Lib.hid (K157.out.below hb165); clear K157
      have K168 := Lib.hid (K158.out.below hb165); clear K158
      have K169 := Lib.hid (K161.out.below hb165); clear K161
      have K170 := Lib.hid (K163.out.below hb165); clear K163
      have bw171 := ball bw162 hb165
      clear bw162
      clear hb165
      clear x0 x1 y0 y1
      obtain ⟨x0, x1⟩ := K169.out.at
      obtain ⟨y0, y1⟩ := K170.out.at
      cases fk
      case false =>
        go_wp2_with fail
        go_ret
        exact ⟨rfl, bw171⟩
      case true =>
        have hfk := HFK.out
        have hfl := HFL.out
        rw [if_pos hfk] at hfl
        subst hfl
        have hok := hfk
        unfold fromOk at hok
        simp only [Bool.and_eq_true, decide_eq_true_eq] at hok
        obtain ⟨⟨⟨ok1, ok2⟩, ok3⟩, ok4⟩ := hok
        have hlb := finB'_t.1 ok1
        have hxb : ∀ v ∈ xl, -1000000 ≤ v ∧ v ≤ 1000000 := fun v hv => finB'_t.1 (List.all_eq_true.1 ok3 v hv)
        have HXB := Lib.hid hxb
        have hfr := fun v => roots_from ok4 hxb hlb v
        have c7 := fun v (hv : frB ⟨v, 1⟩ = true) w hr => iTimesOfRoot_c a5 k5 (fromP lead xl) ⟨v, 1⟩ w hr (by omega)
        have C7 := Lib.hid (fun v (hv : frB ⟨v, 1⟩ = true) (w : World) hr => by have h := c7 v hv w hr; rw [ok4, hv, Bool.and_self, if_pos rfl, hfr v] at h; exact h)
        obtain ⟨N, hN⟩ : ∃ n, xl.length = n := ⟨_, rfl⟩
        have hfN : (fromP lead xl).length = N + 1 := by rw [fromP_len, hN]
        obtain ⟨M, hM⟩ : ∃ m, N + 1 = m := ⟨_, rfl⟩
        rw [hM] at hfN
        have c72 := C7.out
        simp only [hfN] at c72
        unfold frV at c72
        simp only at c72
        have C72 := Lib.hid c72
        have hlast : (fromP lead xl).getD N 0 = lead := by rw [fromP_at (by omega), hN, Nat.sub_self, preS_zero]; omega
        have HLT := Lib.hid hlast
        have hN12 : N ≤ 12 := by omega
        have HN := Lib.hid hN; have HFN := Lib.hid hfN; have HMM := Lib.hid hM
        have f0 : IntKind.i64.wrap ((N : Int) + 1) = (M : Int) := by rw [i64_small (by omega) (by omega)]; omega
        rw [hN]
        (try rw [hfN])
        clear hN hfN hM c7 c72 C7 hfr ok1 ok2 ok3 ok4 hxb hlast hfk HFK HFL
        go_wp2_with fail
        clear x0 x1 y0 y1
        go_loopw [225] (fun i wr => ∃ j : Nat, j ≤ N ∧ i = .int .i64 j ∧ Below w164.heap.size w164 wr) (fun i _ => N - (intOf i).toNat)
        case atStart => exact ⟨0, Nat.zero_le _, rfl, Below.refl _ _⟩
        case round =>
          obtain ⟨wE, rfl⟩ : ∃ y : World, y = wr := ⟨_, rfl⟩
          obtain ⟨j, hj, rfl, hbw⟩ := hrel
          by_cases hlt : j < N
          case neg =>
            obtain rfl : j = N := by omega
            obtain ⟨bF, offF, rfl, hbF, e0⟩ := K168.out j (by have := HFN.out; have := HMM.out; omega)
            rw [HLT.out] at e0
            have t0 := bcell hbw hbF e0
            have y1 : (0 : Int) ≤ (j : Int) := by omega
            have y2 : (j : Int) < (M : Int) := by have := HMM.out; omega
            go_wp2_with fail
            go_ret
            exact ⟨rfl, ball bw171 hbw⟩
          case pos =>
            have hjp : j < xl.length := by have := HN.out; omega
            obtain ⟨bX, offX, rfl, hbX, e0⟩ := K166.out j hjp
            have hxm : xl.getD j 0 ∈ xl := by simp [List.getD, hjp]
            have hxb := HXB.out _ hxm
            obtain ⟨x, hx⟩ : ∃ x, xl.getD j 0 = x := ⟨_, rfl⟩
            rw [hx] at e0 hxb
            have t0 := bcell hbw hbX e0
            have y1 : (0 : Int) ≤ (j : Int) := by omega
            have y2 : (j : Int) < (N : Int) := by omega
            have g7 : IntKind.i64.wrap ((j : Int) + 1) = ((j + 1 : Nat) : Int) := by rw [i64_small (by omega) (by omega)]; omega
            obtain ⟨CT, hCT⟩ : ∃ c, ((xl.count x : Nat) : Int) = c := ⟨_, rfl⟩
            have ct := C72.out x (frB_one (by omega)) wE ((K167.out).below hbw)
            rw [hCT] at ct
            have CC := Lib.hid ct
            have HCT := Lib.hid hCT
            clear hx hxm ct hCT e0
            go_wp2_with fail
            refine CC.out.mono ?_
            rintro e w6 ⟨rfl, hb6⟩
            have hbw6 := ball hbw hb6
            clear t0 CC
            go_wp2_with fail
            go_loopw [40, 238] (fun c i wr => ∃ k : Nat, k ≤ N ∧ i = .int .i64 k ∧ c = .int .i64 (((xl.take k).count x : Nat) : Int) ∧ Below w164.heap.size w164 wr) (fun _ i _ => N - (intOf i).toNat)
            case atStart => exact ⟨0, Nat.zero_le _, rfl, rfl, hbw6⟩
            case round =>
              obtain ⟨wG, rfl⟩ : ∃ y : World, y = wr := ⟨_, rfl⟩
              obtain ⟨k, hk, rfl, rfl, hbg⟩ := hrel
              clear hbw6
              by_cases hlk : k < N
              case neg =>
                obtain rfl : k = N := by omega
                have htk : xl.take k = xl := by rw [← HN.out]; exact List.take_length
                rw [htk, HCT.out]
                clear htk
                have g8 : (CT == CT) = true := beq_self_eq_true CT
                have g9 : (CT != CT) = false := bne_self_eq_false CT
                go_wp2_with fail
                go_roundw
                case rel => exact ⟨j + 1, by omega, by go_num, hbg⟩
                case measure => (simp [intOf]; omega)
              case pos =>
                have hkp : k < xl.length := by have := HN.out; omega
                have e1 := (K166.out).at (j := k) hkp
                have t1 := bcell hbg hbX e1
                have hcs := count_take_succ (x := x) hkp
                have hcl := List.count_le_length (a := x) (l := xl.take k)
                rw [List.length_take] at hcl
                obtain ⟨y, hy⟩ : ∃ x, xl.getD k 0 = x := ⟨_, rfl⟩
                rw [hy] at t1 hcs
                obtain ⟨c, hc⟩ : ∃ c, (xl.take k).count x = c := ⟨_, rfl⟩
                rw [hc] at hcs hcl ⊢
                have z1 : (0 : Int) ≤ (k : Int) := by omega
                have z2 : (k : Int) < (N : Int) := by omega
                have g8 : IntKind.i64.wrap ((k : Int) + 1) = ((k + 1 : Nat) : Int) := by rw [i64_small (by omega) (by omega)]; omega
                have g9 : IntKind.i64.wrap ((c : Int) + 1) = ((c + 1 : Nat) : Int) := by rw [i64_small (by omega) (by omega)]; omega
                clear e1 hy hc
                by_cases hxy : x = y
                case pos =>
                  have g0 : (x == y) = true := beq_iff_eq.2 hxy
                  rw [if_pos hxy] at hcs
                  have HCS := Lib.hid hcs
                  clear hxy hcs
                  go_wp2_with fail
                  go_roundw
                  case rel => exact ⟨k + 1, by omega, by go_num, by rw [HCS.out]; first | rfl | simp, hbg⟩
                  case measure => (simp [intOf]; omega)
                case neg =>
                  have g0 : (x == y) = false := beq_eq_false_iff_ne.2 hxy
                  rw [if_neg hxy, Nat.add_zero] at hcs
                  have HCS := Lib.hid hcs
                  clear hxy hcs
                  go_wp2_with fail
                  go_roundw
                  case rel => exact ⟨k + 1, by omega, by go_num, by rw [HCS.out]; first | rfl | simp, hbg⟩
                  case measure => (simp [intOf]; omega)

end Go.Proofs.Ytekhmjhbdoigoaa
