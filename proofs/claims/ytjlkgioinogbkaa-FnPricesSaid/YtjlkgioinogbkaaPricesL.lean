/-
  The walk of 'laws.FnPrices': it returns true. Printed by gen_lawA.py. By an AI agent.
-/
import Derived.Test.YtjlkgioinogbkaaAtB
import Derived.Test.YtjlkgioinogbkaaAtC
import Derived.Deep.DeepCutAuto
namespace Go.Proofs.Ytjlkgioinogbkaa
open Go.RowKit

theorem LisR.uniA {B u : Bool} {X P : List Int} {n : Nat} {w w' : World} {e : Ending} (h : LisR B X w e w') (hP : onL B X = P) (hu : B = u) (hn : P.length = n) : ∃ ad cap, e = .returned (.tuple #[.slice ad n cap, .bool u]) ∧ RdI w' ad P ∧ Below w.heap.size w w' := by
  subst hP; subst hu; subst hn; exact h
theorem BesR.uniA {B u : Bool} {X P : List Int} {n : Nat} {c x : Int} {w w' : World} {e : Ending} (h : BesR B X c w e w') (hP : onL B X = P) (hu : B = u) (hx : (if B = true then c else 0) = x) (hn : P.length = n) : ∃ ad cap, e = .returned (.tuple #[.slice ad n cap, .int .i64 x, .bool u]) ∧ RdI w' ad P ∧ Below w.heap.size w w' := by
  subst hP; subst hu; subst hn; subst hx; exact h
theorem onL_len7 {B : Bool} {X : List Int} {n : Nat} (h : B = true → X.length = n) (hn : n ≤ 7) : (onL B X).length ≤ 7 := by
  cases B
  · exact Nat.zero_le _
  · have h1 : (onL true X).length = n := h rfl
    omega

set_option maxHeartbeats 64000000 in
set_option maxRecDepth 100000 in
theorem lawPrices_any (ad0 : Option Addr) (n0 cap0 : Nat) (ad1 : Option Addr) (n1 cap1 : Nat) (w : World) (hm0 : n0 ≤ 9223372036854775807) (hr0 : RdB w ad0 n0) (hm1 : n1 ≤ 9223372036854775807) (hr1 : RdB w ad1 n1) :
    Calls Try.prog 3 #[.slice ad0 n0 cap0, .slice ad1 n1 cap1] w fun e w' => e = .returned (.bool true) ∧ Below w.heap.size w w' := by
  have bw0 := Below.refl w.heap.size w
  have K1 := Lib.hid hr0; clear hr0
  have K2 := Lib.hid hr1; clear hr1
  obtain ⟨tb, htb⟩ : ∃ tb : Bool, bigB n0 n1 = tb := ⟨_, rfl⟩
  have CB := big_c ad0 n0 cap0 ad1 n1 cap1 w hm0
  rw [htb] at CB
  have CBB := Lib.hid CB; clear CB htb
  cases tb
  case true =>
    go_enter Try.func3, Try.ntmps3
    go_wp2_with fail
    refine CBB.out.mono ?_
    rintro e w' ⟨rfl, rfl⟩
    go_wp2_with fail
    go_ret
    exact ⟨rfl, bw0⟩
  case false =>
    go_enter Try.func3, Try.ntmps3
    go_wp2_with fail
    refine (CBB.out).mono ?_
    rintro e w' ⟨rfl, rfl⟩
    clear CBB
    go_wp2_with fail
    refine (drawRow_c ad0 n0 cap0 _ hm0 K1.out).mono ?_
    rintro e w3 ⟨adm, cm, M, rfl, hsm, hrm, hb4⟩
    have K5 := Lib.hid (K1.out.below hb4); clear K1
    have K6 := Lib.hid (K2.out.below hb4); clear K2
    have bw7 := ball bw0 hb4
    clear bw0
    clear hb4
    have K8 := Lib.hid hrm; clear hrm
    clear K5
    have HSM := Lib.hid (sm7_smM hsm)
    have hM7 := hsm.1
    clear hsm
    obtain ⟨P, hP⟩ : ∃ P, onL (rpB M) (rpL M) = P := ⟨_, rfl⟩
    obtain ⟨u1, hu1⟩ : ∃ u, rpB M = u := ⟨_, rfl⟩
    obtain ⟨nP, hnP⟩ : ∃ n, P.length = n := ⟨_, rfl⟩
    obtain ⟨Q, hQ⟩ : ∃ Q, onL (cpB M) (cpL M) = Q := ⟨_, rfl⟩
    obtain ⟨u2, hu2⟩ : ∃ u, cpB M = u := ⟨_, rfl⟩
    obtain ⟨nQ, hnQ⟩ : ∃ n, Q.length = n := ⟨_, rfl⟩
    obtain ⟨A, hA⟩ : ∃ A, onL (baB M) (bsL M) = A := ⟨_, rfl⟩
    obtain ⟨u3, hu3⟩ : ∃ u, baB M = u := ⟨_, rfl⟩
    obtain ⟨nA, hnA⟩ : ∃ n, A.length = n := ⟨_, rfl⟩
    obtain ⟨X3, hX3⟩ : ∃ x : Int, (if baB M = true then bsC M else 0) = x := ⟨_, rfl⟩
    obtain ⟨nM, hnM⟩ : ∃ n, M.length = n := ⟨_, rfl⟩
    have hP7 : nP ≤ 7 := by rw [← hnP, ← hP]; exact onL_len7 (fun _ => tab_length _ _) hM7
    have hQ7 : nQ ≤ 7 := by rw [← hnQ, ← hQ]; exact onL_len7 (fun _ => tab_length _ _) hM7
    have hA7 : nA ≤ 7 := by rw [← hnA, ← hA]; exact onL_len7 (fun h => by unfold baB at h; rw [Bool.and_eq_true] at h; exact bsL_len h.1) hM7
    have q1 := fun (w : World) (h : RdM w adm M) => (iRow_c adm cm M w h HSM.out).mono fun e w' h => LisR.uniA h hP hu1 hnP
    have q2 := fun (w : World) (h : RdM w adm M) => (sRow_c adm cm M w h HSM.out).mono fun e w' h => LisR.uniA h hP hu1 hnP
    have q3 := fun (w : World) (h : RdM w adm M) => (iColumn_c adm cm M w h HSM.out).mono fun e w' h => LisR.uniA h hQ hu2 hnQ
    have q4 := fun (w : World) (h : RdM w adm M) => (sColumn_c adm cm M w h HSM.out).mono fun e w' h => LisR.uniA h hQ hu2 hnQ
    have q5 := fun (w : World) (h : RdM w adm M) => (iBest_c adm cm M w h HSM.out).mono fun e w' h => BesR.uniA h hA hu3 hX3 hnA
    have q6 := fun (w : World) (h : RdM w adm M) => (sBest_c adm cm M w h HSM.out).mono fun e w' h => BesR.uniA h hA hu3 hX3 hnA
    have q7 : u1 = true → u2 = true → ∀ (w : World) (adu : Option Addr) (cu : Nat) (adv : Option Addr) (cv : Nat), RdM w adm M → RdI w adu P → RdI w adv Q → Calls Try.prog 13 #[.slice adm nM cm, .slice adu nP cu, .slice adv nQ cv] w fun e w' => e = .returned (.tuple #[.bool true, .bool true]) ∧ Below w.heap.size w w' := fun h1 h2 w adu cu adv cv g1 g2 g3 => by
      have k := iArePrices_c adm cm M adu cu P adv cv Q w g1 HSM.out g2 (by omega) g3 (by omega)
      obtain ⟨j1, j2, _⟩ := pr_good (M := M) (by rw [hu1, h1]) (by rw [hu2, h2])
      have eP : P = rpL M := by rw [← hP, hu1, h1]; rfl
      have eQ : Q = cpL M := by rw [← hQ, hu2, h2]; rfl
      rw [hnM, hnP, hnQ, eP, eQ, j1, j2] at k
      exact k
    have q8 : u1 = true → u2 = true → u3 = true → ∀ (w : World) (ada : Option Addr) (ca : Nat) (adu : Option Addr) (cu : Nat) (adv : Option Addr) (cv : Nat), RdM w adm M → RdI w ada A → RdI w adu P → RdI w adv Q → Calls Try.prog 14 #[.slice adm nM cm, .slice ada nA ca, .slice adu nP cu, .slice adv nQ cv] w fun e w' => e = .returned (.tuple #[.bool true, .bool true]) ∧ Below w.heap.size w w' := fun h1 h2 h3 w ada ca adu cu adv cv g1 g4 g2 g3 => by
      have k := iProvedBest_c adm cm M ada ca A adu cu P adv cv Q w g1 HSM.out g4 g2 (by omega) g3 (by omega)
      obtain ⟨_, _, j1, j2, _⟩ := pr_good (M := M) (by rw [hu1, h1]) (by rw [hu2, h2])
      have eP : P = rpL M := by rw [← hP, hu1, h1]; rfl
      have eQ : Q = cpL M := by rw [← hQ, hu2, h2]; rfl
      have eA : A = bsL M := by rw [← hA, hu3, h3]; rfl
      rw [hnM, hnP, hnQ, hnA, eP, eQ, eA, j1, j2] at k
      exact k
    have q9 : u1 = true → u2 = true → u3 = true → IntKind.i64.wrap (lsm P + lsm Q) = X3 := fun h1 h2 h3 => by
      obtain ⟨_, _, _, _, j⟩ := pr_good (M := M) (by rw [hu1, h1]) (by rw [hu2, h2])
      have hb : baB M = true := by rw [hu3, h3]
      have eP : P = rpL M := by rw [← hP, hu1, h1]; rfl
      have eQ : Q = cpL M := by rw [← hQ, hu2, h2]; rfl
      rw [eP, eQ, j, ← hX3, if_pos hb]
      unfold baB at hb
      rw [Bool.and_eq_true] at hb
      have := numB_t hb.2
      exact i64_small (by omega) (by omega)
    have q10 : u1 = true → ∀ (w : World) (ad : Option Addr) (cap : Nat), RdI w ad P → Calls Try.prog 15 #[.slice ad nP cap] w fun e w' => e = .returned (.int .i64 (lsm P)) ∧ w = w' := fun h1 w ad cap g => by
      have eP : P = rpL M := by rw [← hP, hu1, h1]; rfl
      have k := pSum_c ad cap P w g (by omega) (fun i hi => by
        have hb := (bsB_of_rp (M := M) (by rw [hu1, h1])).1
        rw [eP] at hi ⊢
        have := rpL_bd hb (i := i) (by unfold rpL at hi; rw [tab_length] at hi; exact hi)
        omega)
      rw [hnP] at k
      exact k
    have q11 : u1 = true → u2 = true → ∀ (w : World) (ad : Option Addr) (cap : Nat), RdI w ad Q → Calls Try.prog 15 #[.slice ad nQ cap] w fun e w' => e = .returned (.int .i64 (lsm Q)) ∧ w = w' := fun h1 h2 w ad cap g => by
      have eQ : Q = cpL M := by rw [← hQ, hu2, h2]; rfl
      have k := pSum_c ad cap Q w g (by omega) (fun i hi => by
        have hb := (bsB_of_rp (M := M) (by rw [hu1, h1])).1
        rw [eQ] at hi ⊢
        have := cpL_bd hb (i := i) (by unfold cpL at hi; rw [tab_length] at hi; exact hi)
        omega)
      rw [hnQ] at k
      exact k
    simp only [hnM] at q1 q2 q3 q4 q5 q6
    rw [hnM]
    have Q1 := Lib.hid q1; have Q2 := Lib.hid q2; have Q3 := Lib.hid q3; have Q4 := Lib.hid q4; have Q5 := Lib.hid q5; have Q6 := Lib.hid q6
    have Q7 := Lib.hid q7; have Q8 := Lib.hid q8; have Q9 := Lib.hid q9; have Q10 := Lib.hid q10; have Q11 := Lib.hid q11
    have HNP := Lib.hid hnP; have HNQ := Lib.hid hnQ; have HNA := Lib.hid hnA
    clear q1 q2 q3 q4 q5 q6 q7 q8 q9 q10 q11 hP hu1 hnP hQ hu2 hnQ hA hu3 hnA hX3 hnM hM7 HSM
    go_wp2_with fail
    refine (Q1.out _ K8.out).mono ?_
    rintro e w9 ⟨adp, cp, rfl, hrp, hb10⟩
    have K11 := Lib.hid (K6.out.below hb10); clear K6
    have K12 := Lib.hid (K8.out.below hb10); clear K8
    have bw13 := ball bw7 hb10
    clear bw7
    clear hb10
    have K14 := Lib.hid hrp; clear hrp
    go_wp2_with fail
    refine (Q2.out _ K12.out).mono ?_
    rintro e w15 ⟨adp2, cp2, rfl, hrp, hb16⟩
    have K17 := Lib.hid (K11.out.below hb16); clear K11
    have K18 := Lib.hid (K12.out.below hb16); clear K12
    have K19 := Lib.hid (K14.out.below hb16); clear K14
    have bw20 := ball bw13 hb16
    clear bw13
    clear hb16
    have K21 := Lib.hid hrp; clear hrp
    go_wp2_with fail
    refine (Q3.out _ K18.out).mono ?_
    rintro e w22 ⟨adq, cq, rfl, hrp, hb23⟩
    have K24 := Lib.hid (K17.out.below hb23); clear K17
    have K25 := Lib.hid (K18.out.below hb23); clear K18
    have K26 := Lib.hid (K19.out.below hb23); clear K19
    have K27 := Lib.hid (K21.out.below hb23); clear K21
    have bw28 := ball bw20 hb23
    clear bw20
    clear hb23
    have K29 := Lib.hid hrp; clear hrp
    go_wp2_with fail
    refine (Q4.out _ K25.out).mono ?_
    rintro e w30 ⟨adq2, cq2, rfl, hrp, hb31⟩
    have K32 := Lib.hid (K24.out.below hb31); clear K24
    have K33 := Lib.hid (K25.out.below hb31); clear K25
    have K34 := Lib.hid (K26.out.below hb31); clear K26
    have K35 := Lib.hid (K27.out.below hb31); clear K27
    have K36 := Lib.hid (K29.out.below hb31); clear K29
    have bw37 := ball bw28 hb31
    clear bw28
    clear hb31
    have K38 := Lib.hid hrp; clear hrp
    go_wp2_with fail
    refine (Q5.out _ K33.out).mono ?_
    rintro e w39 ⟨ada, ca, rfl, hrp, hb40⟩
    have K41 := Lib.hid (K32.out.below hb40); clear K32
    have K42 := Lib.hid (K33.out.below hb40); clear K33
    have K43 := Lib.hid (K34.out.below hb40); clear K34
    have K44 := Lib.hid (K35.out.below hb40); clear K35
    have K45 := Lib.hid (K36.out.below hb40); clear K36
    have K46 := Lib.hid (K38.out.below hb40); clear K38
    have bw47 := ball bw37 hb40
    clear bw37
    clear hb40
    have K48 := Lib.hid hrp; clear hrp
    go_wp2_with fail
    refine (Q6.out _ K42.out).mono ?_
    rintro e w49 ⟨ada2, ca2, rfl, hrp, hb50⟩
    have K51 := Lib.hid (K41.out.below hb50); clear K41
    have K52 := Lib.hid (K42.out.below hb50); clear K42
    have K53 := Lib.hid (K43.out.below hb50); clear K43
    have K54 := Lib.hid (K44.out.below hb50); clear K44
    have K55 := Lib.hid (K45.out.below hb50); clear K45
    have K56 := Lib.hid (K46.out.below hb50); clear K46
    have K57 := Lib.hid (K48.out.below hb50); clear K48
    have bw58 := ball bw47 hb50
    clear bw47
    clear hb50
    have K59 := Lib.hid hrp; clear hrp
    clear Q1 Q2 Q3 Q4 Q5 Q6
    have CS := Lib.hid (fun (w : World) h1 h2 => (show Calls _ _ #[.slice adp nP cp, .slice adp2 nP cp2] w _ by have := sameI_c adp cp adp2 cp2 P w (by rw [HNP.out]; omega) h1 h2; rw [HNP.out] at this; exact this))
    have CT := Lib.hid (fun (w : World) h1 h2 => (show Calls _ _ #[.slice adq nQ cq, .slice adq2 nQ cq2] w _ by have := sameI_c adq cq adq2 cq2 Q w (by rw [HNQ.out]; omega) h1 h2; rw [HNQ.out] at this; exact this))
    have CU := Lib.hid (fun (w : World) h1 h2 => (show Calls _ _ #[.slice ada nA ca, .slice ada2 nA ca2] w _ by have := sameI_c ada ca ada2 ca2 A w (by rw [HNA.out]; omega) h1 h2; rw [HNA.out] at this; exact this))
    go_wp2_with fail
    refine (CS.out _ K53.out K54.out).mono ?_
    rintro e w60 ⟨rfl, hb61⟩
    have K62 := Lib.hid (K51.out.below hb61); clear K51
    have K63 := Lib.hid (K52.out.below hb61); clear K52
    have K64 := Lib.hid (K53.out.below hb61); clear K53
    have K65 := Lib.hid (K54.out.below hb61); clear K54
    have K66 := Lib.hid (K55.out.below hb61); clear K55
    have K67 := Lib.hid (K56.out.below hb61); clear K56
    have K68 := Lib.hid (K57.out.below hb61); clear K57
    have K69 := Lib.hid (K59.out.below hb61); clear K59
    have bw70 := ball bw58 hb61
    clear bw58
    clear hb61
    go_wp2_with fail
    refine (CT.out _ K66.out K67.out).mono ?_
    rintro e w71 ⟨rfl, hb72⟩
    have K73 := Lib.hid (K62.out.below hb72); clear K62
    have K74 := Lib.hid (K63.out.below hb72); clear K63
    have K75 := Lib.hid (K64.out.below hb72); clear K64
    have K76 := Lib.hid (K65.out.below hb72); clear K65
    have K77 := Lib.hid (K66.out.below hb72); clear K66
    have K78 := Lib.hid (K67.out.below hb72); clear K67
    have K79 := Lib.hid (K68.out.below hb72); clear K68
    have K80 := Lib.hid (K69.out.below hb72); clear K69
    have bw81 := ball bw70 hb72
    clear bw70
    clear hb72
    go_wp2_with fail
    refine (CU.out _ K79.out K80.out).mono ?_
    rintro e w82 ⟨rfl, hb83⟩
    have K84 := Lib.hid (K73.out.below hb83); clear K73
    have K85 := Lib.hid (K74.out.below hb83); clear K74
    have K86 := Lib.hid (K75.out.below hb83); clear K75
    have K87 := Lib.hid (K76.out.below hb83); clear K76
    have K88 := Lib.hid (K77.out.below hb83); clear K77
    have K89 := Lib.hid (K78.out.below hb83); clear K78
    have K90 := Lib.hid (K79.out.below hb83); clear K79
    have K91 := Lib.hid (K80.out.below hb83); clear K80
    have bw92 := ball bw81 hb83
    clear bw81
    clear hb83
    clear CS CT CU HNP HNQ HNA
    obtain ⟨uu, huu⟩ : ∃ uu, (u1 && u2) = uu := ⟨_, rfl⟩
    have HUU := Lib.hid huu; clear huu
    go_upto_region 12 with fail
    go_cut [120] from 117 to 120 (fun s wc => s = .bool uu ∧ w82 = wc)
    case first =>
      cases u1 <;> cases u2
      all_goals (go_wp2_with fail; go_meet; exact ⟨congrArg Value.bool HUU.out, rfl⟩)
    case rest =>
      obtain ⟨rfl, rfl⟩ := hcut
      go_upto_if 120 with fail
      go_cut [] from 120 to 120 (fun wc => Below w82.heap.size w82 wc)
      case first =>
        have bwq := Below.refl w82.heap.size w82
        cases uu
        case false =>
          go_wp2_with fail
          go_meet
          exact bwq
        case true =>
          obtain ⟨rfl, rfl⟩ := Bool.and_eq_true_iff.1 HUU.out
          clear HUU
          have C7 := Lib.hid (Q7.out rfl rfl); have C8 := Lib.hid (Q8.out rfl rfl); have C9 := Lib.hid (Q9.out rfl rfl); have C10 := Lib.hid (Q10.out rfl); have C11 := Lib.hid (Q11.out rfl rfl)
          clear Q7 Q8 Q9 Q10 Q11
          go_wp2_with fail
          refine (C7.out _ _ cp _ cq K85.out K86.out K88.out).mono ?_
          rintro e w93 ⟨rfl, hb94⟩
          have K95 := Lib.hid (K84.out.below hb94); clear K84
          have K96 := Lib.hid (K85.out.below hb94); clear K85
          have K97 := Lib.hid (K86.out.below hb94); clear K86
          have K98 := Lib.hid (K87.out.below hb94); clear K87
          have K99 := Lib.hid (K88.out.below hb94); clear K88
          have K100 := Lib.hid (K89.out.below hb94); clear K89
          have K101 := Lib.hid (K90.out.below hb94); clear K90
          have K102 := Lib.hid (K91.out.below hb94); clear K91
          have bw103 := ball bwq hb94
          clear bwq
          clear hb94
          cases u3
          case false =>
            go_wp2_with fail
            go_meet
            exact bw103
          case true =>
            go_wp2_with fail
            refine (C8.out (by first | rfl | trivial) _ _ ca _ cp _ cq K96.out K101.out K97.out K99.out).mono ?_
            rintro e w104 ⟨rfl, hb105⟩
            have K106 := Lib.hid (K95.out.below hb105); clear K95
            have K107 := Lib.hid (K96.out.below hb105); clear K96
            have K108 := Lib.hid (K97.out.below hb105); clear K97
            have K109 := Lib.hid (K98.out.below hb105); clear K98
            have K110 := Lib.hid (K99.out.below hb105); clear K99
            have K111 := Lib.hid (K100.out.below hb105); clear K100
            have K112 := Lib.hid (K101.out.below hb105); clear K101
            have K113 := Lib.hid (K102.out.below hb105); clear K102
            have bw114 := ball bw103 hb105
            clear bw103
            clear hb105
            have e9 := C9.out (by first | rfl | trivial)
            generalize lsm P = sP at C10 e9
            generalize lsm Q = sQ at C11 e9
            have E9 := Lib.hid e9; have hx9 : (X3 != X3) = false := bne_self_eq_false _
            clear e9 C7 C8 C9
            go_wp2_with fail
            refine (C10.out _ _ cp2 K109.out).mono ?_
            rintro e w' ⟨rfl, rfl⟩
            go_wp2_with fail
            refine (C11.out _ _ cq2 K111.out).mono ?_
            rintro e w' ⟨rfl, rfl⟩
            have e9 := E9.out
            go_wp2_with fail
            go_meet
            exact bw114
      case rest =>
        obtain ⟨w115, rfl⟩ : ∃ y : World, y = wc := ⟨_, rfl⟩
        clear K85
        clear K86
        clear K87
        clear K88
        clear K89
        clear K90
        clear K91
        have K116 := Lib.hid (K84.out.below hcut); clear K84
        have bw117 := ball bw92 hcut
        clear bw92
        clear hcut
        clear Q7 Q8 Q9 Q10 Q11 HUU
        go_wp2_with fail
        refine (drawProved_c ad1 n1 cap1 _ hm1 K116.out).mono ?_
        rintro e w118 ⟨adx, cx, X, adz, cz, a, adr, cr, r, ads, cs, s, rfl, ⟨hsx, ⟨hac, hal⟩, hrl, hsl⟩, hrx, hra, hrr, hrs, hb119⟩
        have K120 := Lib.hid (K116.out.below hb119); clear K116
        have bw121 := ball bw117 hb119
        clear bw117
        clear hb119
        have K122 := Lib.hid hrx; clear hrx
        have K123 := Lib.hid hra; clear hra
        have K124 := Lib.hid hrr; clear hrr
        have K125 := Lib.hid hrs; clear hrs
        have HSX := Lib.hid (sm7_smM hsx)
        obtain ⟨nX, hnX⟩ : ∃ n, X.length = n := ⟨_, rfl⟩
        obtain ⟨na, hna⟩ : ∃ n, a.length = n := ⟨_, rfl⟩
        obtain ⟨nr, hnr⟩ : ∃ n, r.length = n := ⟨_, rfl⟩
        obtain ⟨ns, hns⟩ : ∃ n, s.length = n := ⟨_, rfl⟩
        obtain ⟨v1, hv1⟩ : ∃ u, pvB X a r s = u := ⟨_, rfl⟩
        obtain ⟨v2, hv2⟩ : ∃ u, pvX X a r s = u := ⟨_, rfl⟩
        obtain ⟨c8, hc8⟩ : ∃ u, (cgB X a && numB (costP (entM X) a)) = u := ⟨_, rfl⟩
        obtain ⟨xc, hxc⟩ : ∃ x : Int, (if cgB X a = true then toldZ (costP (entM X) a) else 0) = x := ⟨_, rfl⟩
        obtain ⟨b8, hb8⟩ : ∃ u, baB X = u := ⟨_, rfl⟩
        obtain ⟨xb, hxb⟩ : ∃ x : Int, (if baB X = true then bsC X else 0) = x := ⟨_, rfl⟩
        have q1 := fun (w : World) h1 h2 h3 h4 => iProvedBest_c adx cx X adz cz a adr cr r ads cs s w h1 HSX.out h2 h3 (by omega) h4 (by omega)
        have q2 := fun (w : World) h1 h2 h3 h4 => sProvedBest_c adx cx X adz cz a adr cr r ads cs s w h1 HSX.out h2 hac (by omega) h3 (by omega) h4 (by omega)
        have q3 := fun (w : World) h1 h2 => iCostA_c adx cx X adz cz a w h1 HSX.out h2
        have q4 := fun (w : World) (h : RdM w adx X) => (iBest_c adx cx X w h HSX.out).mono fun e w' h => BesR.uniA h rfl hb8 hxb rfl
        have q5 : v1 = true → c8 = true → b8 = true → xc = xb := fun g1 g2 g3 => by
          rw [g2, Bool.and_eq_true] at hc8
          rw [← hxc, ← hxb]
          exact pv_best (hv1.trans g1) (hb8.trans g3) hc8.2
        simp only [hnX, hna, hnr, hns, hv1, hv2, hc8, hxc, pairV] at q1 q2 q3 q4
        rw [hnX, hna, hnr, hns]
        have Q1 := Lib.hid q1; have Q2 := Lib.hid q2; have Q3 := Lib.hid q3; have Q4 := Lib.hid q4; have Q5 := Lib.hid q5
        clear q1 q2 q3 q4 q5 hnX hna hnr hns hv1 hv2 hc8 hxc hb8 hxb hsx hac hal hrl hsl HSX
        go_wp2_with fail
        refine (Q1.out _ K122.out K123.out K124.out K125.out).mono ?_
        rintro e w126 ⟨rfl, hb127⟩
        have K128 := Lib.hid (K120.out.below hb127); clear K120
        have K129 := Lib.hid (K122.out.below hb127); clear K122
        have K130 := Lib.hid (K123.out.below hb127); clear K123
        have K131 := Lib.hid (K124.out.below hb127); clear K124
        have K132 := Lib.hid (K125.out.below hb127); clear K125
        have bw133 := ball bw121 hb127
        clear bw121
        clear hb127
        go_wp2_with fail
        refine (Q2.out _ K129.out K130.out K131.out K132.out).mono ?_
        rintro e w134 ⟨rfl, hb135⟩
        have K136 := Lib.hid (K128.out.below hb135); clear K128
        have K137 := Lib.hid (K129.out.below hb135); clear K129
        have K138 := Lib.hid (K130.out.below hb135); clear K130
        have K139 := Lib.hid (K131.out.below hb135); clear K131
        have K140 := Lib.hid (K132.out.below hb135); clear K132
        have bw141 := ball bw133 hb135
        clear bw133
        clear hb135
        clear Q1 Q2
        obtain ⟨vv, hvv⟩ : ∃ vv, (v2 && v1) = vv := ⟨_, rfl⟩
        have HVV := Lib.hid hvv; clear hvv
        go_upto_region 25 with fail
        go_cut [192] from 189 to 192 (fun s wc => s = .bool vv ∧ w134 = wc)
        case first =>
          cases v2 <;> cases v1
          all_goals (go_wp2_with fail; go_meet; exact ⟨congrArg Value.bool HVV.out, rfl⟩)
        case rest =>
          obtain ⟨rfl, rfl⟩ := hcut
          go_upto_if 192 with fail
          go_cut [] from 192 to 192 (fun wc => Below w134.heap.size w134 wc)
          case first =>
            have bwr := Below.refl w134.heap.size w134
            cases vv
            case false =>
              go_wp2_with fail
              go_meet
              exact bwr
            case true =>
              obtain ⟨rfl, rfl⟩ := Bool.and_eq_true_iff.1 HVV.out
              clear HVV
              go_wp2_with fail
              refine (Q3.out _ K137.out K138.out).mono ?_
              rintro e w142 ⟨rfl, hb143⟩
              have K144 := Lib.hid (K136.out.below hb143); clear K136
              have K145 := Lib.hid (K137.out.below hb143); clear K137
              have K146 := Lib.hid (K138.out.below hb143); clear K138
              have K147 := Lib.hid (K139.out.below hb143); clear K139
              have K148 := Lib.hid (K140.out.below hb143); clear K140
              have bw149 := ball bwr hb143
              clear bwr
              clear hb143
              go_wp2_with fail
              refine (Q4.out _ K145.out).mono ?_
              rintro e w150 ⟨adj, cj, rfl, _, hb151⟩
              have K152 := Lib.hid (K144.out.below hb151); clear K144
              have K153 := Lib.hid (K145.out.below hb151); clear K145
              have K154 := Lib.hid (K146.out.below hb151); clear K146
              have K155 := Lib.hid (K147.out.below hb151); clear K147
              have K156 := Lib.hid (K148.out.below hb151); clear K148
              have bw157 := ball bw149 hb151
              clear bw149
              clear hb151
              cases c8
              case false =>
                go_wp2_with fail
                go_meet
                exact bw157
              case true =>
                cases b8
                case false =>
                  go_wp2_with fail
                  go_meet
                  exact bw157
                case true =>
                  obtain rfl := Q5.out (by first | rfl | trivial) (by first | rfl | trivial) (by first | rfl | trivial)
                  go_wp2_with fail
                  go_meet
                  exact bw157
          case rest =>
            obtain ⟨w158, rfl⟩ : ∃ y : World, y = wc := ⟨_, rfl⟩
            clear K137
            clear K138
            clear K139
            clear K140
            have K159 := Lib.hid (K136.out.below hcut); clear K136
            have bw160 := ball bw141 hcut
            clear bw141
            clear hcut
            clear Q3 Q4 Q5 HVV
            go_wp2_with fail
            refine (drawAre_c ad1 n1 cap1 _ hm1 K159.out).mono ?_
            rintro e w161 ⟨ady, cy, Y, adr2, cr2, r2, ads2, cs2, s2, rfl, ⟨hsy, hrl, hsl⟩, hry, hrr, hrs, hb162⟩
            have K163 := Lib.hid (K159.out.below hb162); clear K159
            have bw164 := ball bw160 hb162
            clear bw160
            clear hb162
            have K165 := Lib.hid hry; clear hry
            have K166 := Lib.hid hrr; clear hrr
            have K167 := Lib.hid hrs; clear hrs
            have HSY := Lib.hid (sm7_smM hsy)
            obtain ⟨nY, hnY⟩ : ∃ n, Y.length = n := ⟨_, rfl⟩
            obtain ⟨nr2, hnr⟩ : ∃ n, r2.length = n := ⟨_, rfl⟩
            obtain ⟨ns2, hns⟩ : ∃ n, s2.length = n := ⟨_, rfl⟩
            obtain ⟨t1, ht1⟩ : ∃ u, prcB Y r2 s2 = u := ⟨_, rfl⟩
            obtain ⟨t2, ht2⟩ : ∃ u, askP Y r2 s2 = u := ⟨_, rfl⟩
            have q1 := fun (w : World) h1 h3 h4 => iArePrices_c ady cy Y adr2 cr2 r2 ads2 cs2 s2 w h1 HSY.out h3 (by omega) h4 (by omega)
            have q2 := fun (w : World) h1 h3 h4 => sArePrices_c ady cy Y adr2 cr2 r2 ads2 cs2 s2 w h1 HSY.out h3 (by omega) h4 (by omega)
            simp only [hnY, hnr, hns, ht1, ht2] at q1 q2
            rw [hnY, hnr, hns]
            have Q1 := Lib.hid q1; have Q2 := Lib.hid q2
            clear q1 q2 hnY hnr hns ht1 ht2 hsy hrl hsl HSY
            go_wp2_with fail
            refine (Q1.out _ K165.out K166.out K167.out).mono ?_
            rintro e w168 ⟨rfl, hb169⟩
            have K170 := Lib.hid (K163.out.below hb169); clear K163
            have K171 := Lib.hid (K165.out.below hb169); clear K165
            have K172 := Lib.hid (K166.out.below hb169); clear K166
            have K173 := Lib.hid (K167.out.below hb169); clear K167
            have bw174 := ball bw164 hb169
            clear bw164
            clear hb169
            go_wp2_with fail
            refine (Q2.out _ K171.out K172.out K173.out).mono ?_
            rintro e w175 ⟨rfl, hb176⟩
            have K177 := Lib.hid (K170.out.below hb176); clear K170
            have K178 := Lib.hid (K171.out.below hb176); clear K171
            have K179 := Lib.hid (K172.out.below hb176); clear K172
            have K180 := Lib.hid (K173.out.below hb176); clear K173
            have bw181 := ball bw174 hb176
            clear bw174
            clear hb176
            clear Q1 Q2
            cases t1
            all_goals
              cases t2
              all_goals
                go_wp2_with fail
                go_ret
                exact ⟨rfl, bw181⟩
end Go.Proofs.Ytjlkgioinogbkaa
