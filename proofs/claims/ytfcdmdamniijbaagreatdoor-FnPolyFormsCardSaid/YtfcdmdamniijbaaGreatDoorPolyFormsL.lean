/-
  The walk of 'laws.FnPolyForms': it returns true. Printed by gen_lawPF.py. By an AI agent.
-/
import Derived.Test.YtfcdmdamniijbaaGreatDoorPfR
import Derived.Deep.DeepCutAuto
import Derived.Deep.QuietTactic
namespace Go.Proofs.YtfcdmdamniijbaaGreatDoor
open Go.RowKit

set_option maxHeartbeats 64000000 in
set_option maxRecDepth 100000 in
theorem lawPolyForms_any (ad0 : Option Addr) (n0 cap0 : Nat) (ad1 : Option Addr) (n1 cap1 : Nat) (w : World) (hm0 : n0 ≤ 9223372036854775807) (hr0 : RdB w ad0 n0) (hm1 : n1 ≤ 9223372036854775807) (hr1 : RdB w ad1 n1) (hls : LaidL w) :
    Calls Tryz.prog 3 #[.slice ad0 n0 cap0, .slice ad1 n1 cap1] w fun e w' => e = .returned (.bool true) ∧ Below w.heap.size w w' := by
  have hb := Below.refl w.heap.size w
  have CD := Lib.hid (fun w h => drawMovePoly_c ad0 n0 cap0 w hm0 h)
  have CV := Lib.hid (fun w h => drawSlopesAt_c ad1 n1 cap1 w hm1 h)
  have CW := Lib.hid (fun w h => drawParsePoly_c ad1 n1 cap1 w hm1 h)
  have HB0 := Lib.hid hr0; have K := Lib.hid hr1; have S := Lib.hid hls; clear hr0 hr1 hls
  have cb := fun w => big_c ad0 n0 cap0 ad1 n1 cap1 w hm0
  generalize bigB n0 n1 = tb at cb
  have CB := Lib.hid cb; clear cb
  cases tb
  case true =>
    go_enter Tryz.func3, Tryz.ntmps3
    go_wp2_with fail
    refine (CB.out _).mono ?_
    rintro e w1 ⟨rfl, rfl⟩
    go_wp2_with fail
    go_ret
    exact ⟨rfl, hb⟩
  case false =>
    go_enter Tryz.func3, Tryz.ntmps3
    go_wp2_with fail
    refine (CB.out _).mono ?_
    rintro e w1 ⟨rfl, rfl⟩
    clear CB
    go_wp2_with fail
    refine (CD.out _ HB0.out).mono ?_
    rintro e w1 ⟨ada, ca, a, by0, rfl, hca, hla, hra, hw⟩
    replace K := Lib.hid (K.out.below hw)
    replace S := Lib.hid (S.out.below hw)
    have A := Lib.hid hra; clear hra
    replace hb := ball hb hw
    clear hw CD HB0
    have c1 := fun w h => iMovePoly_c ada ca a by0 w h (by omega)
    have c2 := fun w h => sMovePoly_c ada ca a by0 w h (by omega)
    have hml := if_len (b := mvB a by0) (l := valsF a by0) (n := 41) (by rw [valsF_len]; exact hla)
    have hmv := (show mvB a by0 = true → polyV (if mvB a by0 = true then valsF a by0 else []) 0 = polyV a by0 from fun h => by rw [if_pos h]; exact mv_polyV h)
    generalize (if mvB a by0 = true then valsF a by0 else []) = M at c1 c2 hml hmv
    generalize mvB a by0 = u1 at c1 c2 hmv
    have C1 := Lib.hid c1; have C2 := Lib.hid c2; have HML := Lib.hid hml; have HMV := Lib.hid hmv; have HLA := Lib.hid hla; have HCA := Lib.hid hca
    clear c1 c2 hml hmv hla hca
    have ee1 : (u1 != u1) = false := bne_self_eq_false u1
    go_wp2_with fail
    refine (C1.out _ A.out).mono ?_
    rintro e w2 ⟨adm, cm, rfl, hp, hw⟩
    replace K := Lib.hid (K.out.below hw)
    replace S := Lib.hid (S.out.below hw)
    replace A := Lib.hid (A.out.below hw)
    have M1 := Lib.hid hp; clear hp
    replace hb := ball hb hw
    clear hw C1 
    go_wp2_with fail
    refine (C2.out _ A.out).mono ?_
    rintro e w3 ⟨adm2, cm2, rfl, hp, hw⟩
    replace K := Lib.hid (K.out.below hw)
    replace S := Lib.hid (S.out.below hw)
    replace A := Lib.hid (A.out.below hw)
    replace M1 := Lib.hid (M1.out.below hw)
    have M2 := Lib.hid hp; clear hp
    replace hb := ball hb hw
    clear hw C2 
    have CQ := Lib.hid (fun w h1 h2 => sameI_c adm cm adm2 cm2 M w (by have := HML.out; omega) h1 h2)
    go_wp2_with fail
    refine (CQ.out _ M1.out M2.out).mono ?_
    rintro e w4 ⟨rfl, hw⟩
    replace K := Lib.hid (K.out.below hw)
    replace S := Lib.hid (S.out.below hw)
    replace A := Lib.hid (A.out.below hw)
    replace M1 := Lib.hid (M1.out.below hw)
    replace hb := ball hb hw
    clear hw CQ M2
    go_wp2_with fail
    refine (CV.out _ K.out).mono ?_
    rintro e w5 ⟨adq, cq, q, x, rfl, -, hlq, hrq, hw⟩
    replace K := Lib.hid (K.out.below hw)
    replace S := Lib.hid (S.out.below hw)
    replace A := Lib.hid (A.out.below hw)
    replace M1 := Lib.hid (M1.out.below hw)
    have Q := Lib.hid hrq; clear hrq
    replace hb := ball hb hw
    clear hw CV 
    have c1 := fun w h => iSlopesAt_c adq cq q x w h (by omega)
    have c2 := fun w h => sSlopesAt_c adq cq q x w h (by omega)
    have c3 := fun w h => iLeastTerms_c adq cq q x w h (by omega)
    have c4 := fun w h => sLeastTerms_c adq cq q x w h (by omega)
    have hsg := slpG q x (by omega)
    unfold slV at c1 c2
    have hsl := hsg.len
    have hsp := hsg.pos
    obtain ⟨T, hT⟩ : ∃ T, (if lsB q x = true then lsL q x else []) = T := ⟨_, rfl⟩
    have htl : T.length ≤ 1048576 := by rw [← hT]; exact if_len hsl
    have htu : lsB q x = true → T = lsL q x := fun h => by rw [← hT, if_pos h]
    rw [hT] at c3 c4
    obtain ⟨L1, hL1⟩ : ∃ L1 : Int, (if lsB q x = true then (lsL q x).getD ((lsL q x).length - 1) 0 else 0) = L1 := ⟨_, rfl⟩
    obtain ⟨R1, hR1⟩ : ∃ R1 : Int, (if lsB q x = true then (lsL q x).getD 0 0 else 0) = R1 := ⟨_, rfl⟩
    have hfin : lsB q x = true → 0 < T.length ∧ T.getD (T.length - 1) 0 = L1 ∧ T.getD 0 0 = R1 := fun h => by
      rw [htu h]
      exact ⟨hsp h, by rw [← hL1, if_pos h], by rw [← hR1, if_pos h]⟩
    rw [hL1, hR1] at c1 c2
    clear hT hL1 hR1 htu hsp hsl hsg
    generalize lsB q x = u2 at c1 c2 c3 c4 hfin
    have C1 := Lib.hid c1; have C2 := Lib.hid c2; have C3 := Lib.hid c3; have C4 := Lib.hid c4; have HTL := Lib.hid htl; have HFIN := Lib.hid hfin
    clear c1 c2 c3 c4 htl hfin hlq
    have ee2 : (u2 != u2) = false := bne_self_eq_false u2
    have ee3 : (L1 != L1) = false := bne_self_eq_false L1
    have ee4 : (R1 != R1) = false := bne_self_eq_false R1
    go_wp2_with fail
    refine (C1.out _ Q.out).mono ?_
    rintro e w6 ⟨rfl, hw⟩
    replace K := Lib.hid (K.out.below hw)
    replace S := Lib.hid (S.out.below hw)
    replace A := Lib.hid (A.out.below hw)
    replace M1 := Lib.hid (M1.out.below hw)
    replace Q := Lib.hid (Q.out.below hw)
    replace hb := ball hb hw
    clear hw C1 
    go_wp2_with fail
    refine (C2.out _ Q.out).mono ?_
    rintro e w7 ⟨rfl, hw⟩
    replace K := Lib.hid (K.out.below hw)
    replace S := Lib.hid (S.out.below hw)
    replace A := Lib.hid (A.out.below hw)
    replace M1 := Lib.hid (M1.out.below hw)
    replace Q := Lib.hid (Q.out.below hw)
    replace hb := ball hb hw
    clear hw C2 
    go_wp2_with fail
    refine (C3.out _ Q.out).mono ?_
    rintro e w8 ⟨adt, ct, rfl, hp, hw⟩
    replace K := Lib.hid (K.out.below hw)
    replace S := Lib.hid (S.out.below hw)
    replace A := Lib.hid (A.out.below hw)
    replace M1 := Lib.hid (M1.out.below hw)
    replace Q := Lib.hid (Q.out.below hw)
    have T1 := Lib.hid hp; clear hp
    replace hb := ball hb hw
    clear hw C3 
    go_wp2_with fail
    refine (C4.out _ Q.out).mono ?_
    rintro e w9 ⟨adt2, ct2, rfl, hp, hw⟩
    replace K := Lib.hid (K.out.below hw)
    replace S := Lib.hid (S.out.below hw)
    replace A := Lib.hid (A.out.below hw)
    replace M1 := Lib.hid (M1.out.below hw)
    replace T1 := Lib.hid (T1.out.below hw)
    have T2 := Lib.hid hp; clear hp
    replace hb := ball hb hw
    clear hw C4 Q
    have CQ := Lib.hid (fun w h1 h2 => sameI_c adt ct adt2 ct2 T w HTL.out h1 h2)
    go_wp2_with fail
    refine (CQ.out _ T1.out T2.out).mono ?_
    rintro e w10 ⟨rfl, hw⟩
    replace K := Lib.hid (K.out.below hw)
    replace S := Lib.hid (S.out.below hw)
    replace A := Lib.hid (A.out.below hw)
    replace M1 := Lib.hid (M1.out.below hw)
    replace T2 := Lib.hid (T2.out.below hw)
    replace hb := ball hb hw
    clear hw CQ T1
    go_upto_region 15 with fail
    go_cut [163] from 141 to 163 (fun sv wc => sv = .bool false ∧ w10 = wc)
    case first =>
      cases u2
      case false =>
        go_wp2_with fail
        go_meet
        exact ⟨rfl, rfl⟩
      case true =>
        obtain ⟨h0, h1, h2⟩ := HFIN.out rfl
        have htl := HTL.out
        obtain ⟨b, off, rfl, hbk, k0⟩ := T2.out 0 h0
        have k1 := T2.out.at (j := T.length - 1) (by omega)
        rw [Nat.add_zero, h2] at k0
        rw [h1] at k1
        clear h1 h2
        have wn : IntKind.i64.wrap ((T.length : Int) - 1) = ((T.length - 1 : Nat) : Int) := by rw [i64_small (by omega) (by omega)]; omega
        have x1 : (0 : Int) ≤ ((T.length - 1 : Nat) : Int) := by omega
        have x2 : ((T.length - 1 : Nat) : Int) < (T.length : Int) := by omega
        have x3 : (0 : Int) < (T.length : Int) := by omega
        have x4 : ((T.length : Int) == 0) = false := beq_eq_false_iff_ne.2 (by omega)
        obtain ⟨m, hm⟩ : ∃ m, T.length - 1 = m := ⟨_, rfl⟩
        rw [hm] at k1 wn x1 x2
        clear hm
        go_wp2_with fail
        go_meet
        exact ⟨rfl, rfl⟩
    case rest =>
      obtain ⟨rfl, rfl⟩ := hcut
      clear T2 HFIN HTL ee2 ee3 ee4
      go_upto_if 164 with fail
      go_cut [] from 164 to 164 (fun wc => Below w10.heap.size w10 wc)
      case first =>
        clear K S CW hb
        have hb := Below.refl w10.heap.size w10
        cases u1
        case false =>
          go_wp2_with fail
          go_meet
          exact hb
        case true =>
          have hmv := HMV.out rfl
          have c1 := fun w h => iPolyValue_c adm cm M 0 w h (by have := HML.out; omega)
          have c2 := fun w h => iPolyValue_c ada ca a by0 w h (by have := HLA.out; omega)
          rw [hmv] at c1
          rw [polyV_ls] at c1 c2
          unfold pairV at c1 c2
          generalize (if lsB a by0 = true then minL (valsF a by0) else 0) = z at c1 c2
          generalize lsB a by0 = u at c1 c2
          have C1 := Lib.hid c1; have C2 := Lib.hid c2
          clear c1 c2 hmv HMV
          have eez : (z != z) = false := bne_self_eq_false z
          go_wp2_with fail
          refine (C1.out _ M1.out).mono ?_
          rintro e w31 ⟨rfl, hw⟩
          replace A := Lib.hid (A.out.below hw)
          replace hb := ball hb hw
          clear hw C1 M1
          go_wp2_with fail
          refine (C2.out _ A.out).mono ?_
          rintro e w32 ⟨rfl, hw⟩
          replace hb := ball hb hw
          clear hw C2 A
          cases u
          case false =>
            go_wp2_with fail
            go_meet
            exact hb
          case true =>
            go_wp2_with fail
            go_meet
            exact hb
      case rest =>
        obtain ⟨wR, rfl⟩ : ∃ x : World, x = wc := ⟨_, rfl⟩
        replace A := Lib.hid (A.out.below hcut)
        replace K := Lib.hid (K.out.below hcut)
        replace S := Lib.hid (S.out.below hcut)
        replace hb := ball hb hcut
        clear hcut
        clear M1 HMV HML ee1
        have c1 := fun w h => iMirrorPoly_c ada ca a w h (by have := HLA.out; omega) HCA.out
        have c2 := fun w h => sMirrorPoly_c ada ca a w h (by have := HLA.out; omega)
        have c3 := fun w h => iEndTerms_c ada ca a w h (by have := HLA.out; omega)
        have c4 := fun w h => sEndTerms_c ada ca a w h (by have := HLA.out; omega)
        have c5 := fun w h => iIsPoly_c ada ca a w h (by have := HLA.out; omega)
        have c6 := fun w h hL => iPolyText_c ada ca a w h (by have := HLA.out; omega) hL
        have c7 := fun w h => sPolyText_c ada ca a w h (by have := HLA.out; omega)
        unfold endsV at c3 c4
        have hrl := if_len (b := polyB a) (l := mirR a) (n := 41) (Nat.le_trans (mirR_le a) HLA.out)
        have hmg := (show polyB a = true → MirG a (if polyB a = true then mirR a else []) from fun h => by rw [if_pos h]; exact mirG h)
        have hL0 := (show polyB a = true → (if polyB a = true then (fin1 a : Int) else 0) = (fin1 a : Int) from fun h => if_pos h)
        have hpar := fun (h : polyB a = true) => ptO_par h
        have htl := ptO_len a
        generalize (if polyB a = true then mirR a else []) = R at c1 c2 hrl hmg
        generalize (if polyB a = true then (fin1 a : Int) else 0) = L0 at c3 c4 hL0
        generalize (if polyB a = true then (a.length : Int) - 1 else 0) = H0 at c3 c4
        generalize ptO a = T at c6 c7 hpar htl
        generalize hpa : polyB a = pa at c1 c2 c3 c4 c5 c6 c7 hmg hL0 hpar
        have c8 := fun w hL => iParsePoly_c T w (by omega) hL
        unfold strV at c6 c7
        generalize (⟨T.toArray⟩ : ByteArray) = TB at c6 c7 c8
        have C1 := Lib.hid c1; have C2 := Lib.hid c2; have C3 := Lib.hid c3; have C4 := Lib.hid c4; have C5 := Lib.hid c5; have C6 := Lib.hid c6; have C7 := Lib.hid c7; have C8 := Lib.hid c8
        have HRL := Lib.hid hrl; have HMG := Lib.hid hmg; have HL0 := Lib.hid hL0; have HPR := Lib.hid hpar
        clear c1 c2 c3 c4 c5 c6 c7 c8 hrl hmg hL0 hpar htl hpa
        have ee1 : (pa != pa) = false := bne_self_eq_false pa
        have ee2 : (L0 != L0) = false := bne_self_eq_false L0
        have ee3 : (H0 != H0) = false := bne_self_eq_false H0
        go_wp2_with fail
        refine (C1.out _ A.out).mono ?_
        rintro e w51 ⟨adr, cr, rfl, hp, hcr, hw⟩
        replace A := Lib.hid (A.out.below hw)
        replace K := Lib.hid (K.out.below hw)
        replace S := Lib.hid (S.out.below hw)
        have R1 := Lib.hid hp; clear hp
        replace hb := ball hb hw
        clear hw C1 
        have HCR := Lib.hid hcr; clear hcr
        go_wp2_with fail
        refine (C2.out _ A.out).mono ?_
        rintro e w52 ⟨adr2, cr2, rfl, hp, hw⟩
        replace A := Lib.hid (A.out.below hw)
        replace K := Lib.hid (K.out.below hw)
        replace S := Lib.hid (S.out.below hw)
        replace R1 := Lib.hid (R1.out.below hw)
        have R2 := Lib.hid hp; clear hp
        replace hb := ball hb hw
        clear hw C2 
        go_wp2_with fail
        refine (C3.out _ A.out).mono ?_
        rintro e w53 ⟨rfl, rfl⟩
        clear C3
        go_wp2_with fail
        refine (C4.out _ A.out).mono ?_
        rintro e w54 ⟨rfl, rfl⟩
        clear C4
        have CQ := Lib.hid (fun w h1 h2 => sameI_c adr cr adr2 cr2 R w (by have := HRL.out; omega) h1 h2)
        go_wp2_with fail
        refine (CQ.out _ R1.out R2.out).mono ?_
        rintro e w55 ⟨rfl, hw⟩
        replace A := Lib.hid (A.out.below hw)
        replace K := Lib.hid (K.out.below hw)
        replace S := Lib.hid (S.out.below hw)
        replace R1 := Lib.hid (R1.out.below hw)
        replace R2 := Lib.hid (R2.out.below hw)
        replace hb := ball hb hw
        clear hw CQ 
        go_wp2_with fail
        refine (C5.out _ A.out).mono ?_
        rintro e w56 ⟨rfl, rfl⟩
        clear C5
        clear ee1 ee2 ee3
        go_upto_if 242 with fail
        go_cut [] from 242 to 242 (fun wc => Below w55.heap.size w55 wc)
        case first =>
          clear K S CW hb C6 C7 C8 HPR
          have hb := Below.refl w55.heap.size w55
          cases pa
          case false =>
            go_wp2_with fail
            go_meet
            exact hb
          case true =>
            have hmg := HMG.out rfl
            have hl0 := HL0.out rfl
            have c1 := fun w h => iMirrorPoly_c adr cr R w h (by have := HRL.out; omega) HCR.out
            have c2 := fun w h => sMirrorPoly_c adr2 cr2 R w h (by have := HRL.out; omega)
            rw [hmg.pol, if_pos rfl] at c1 c2
            have hlen := hmg.len
            have hpos := hmg.pos
            have htop := hmg.top
            have hbk := (show L0 = 0 → mirR R = a from fun h => hmg.back (by omega))
            have hbl : (mirR R).length ≤ 41 := Nat.le_trans (mirR_le R) HRL.out
            rw [← hl0] at hlen
            have hf0 : 0 ≤ L0 := by omega
            generalize mirR R = B at c1 c2 hbk hbl
            have C1 := Lib.hid c1; have C2 := Lib.hid c2; have HBK := Lib.hid hbk; have HBL := Lib.hid hbl; have HTOP := Lib.hid htop; have HLEN := Lib.hid hlen
            clear c1 c2 hmg hl0 hbk hbl htop hlen HMG HL0
            go_wp2_with fail
            refine (C1.out _ R1.out).mono ?_
            rintro e w77 ⟨adk, ck, rfl, hp, -, hw⟩
            replace A := Lib.hid (A.out.below hw)
            replace R2 := Lib.hid (R2.out.below hw)
            have B1 := Lib.hid hp; clear hp
            replace hb := ball hb hw
            clear hw C1 R1
            go_wp2_with fail
            refine (C2.out _ R2.out).mono ?_
            rintro e w78 ⟨adk2, ck2, rfl, hp, hw⟩
            replace A := Lib.hid (A.out.below hw)
            replace R2 := Lib.hid (R2.out.below hw)
            replace B1 := Lib.hid (B1.out.below hw)
            have B2 := Lib.hid hp; clear hp
            replace hb := ball hb hw
            clear hw C2 
            have CQ := Lib.hid (fun w h1 h2 => sameI_c adk ck adk2 ck2 B w (by have := HBL.out; omega) h1 h2)
            have hlen := HLEN.out
            have hla := HLA.out
            have hrl := HRL.out
            have wl : IntKind.i64.wrap ((a.length : Int) - L0) = (R.length : Int) := by rw [i64_small (by omega) (by omega)]; omega
            have en : ((R.length : Int) != (R.length : Int)) = false := bne_self_eq_false _
            have x3 : (0 : Int) < (R.length : Int) := by omega
            clear hlen hrl hla
            by_cases e0 : L0 = 0
            case neg =>
              have g0 : (L0 == 0) = false := beq_eq_false_iff_ne.2 e0
              go_wp2_with fail
              refine (CQ.out _ B1.out B2.out).mono ?_
              rintro e w98 ⟨rfl, hw⟩
              replace hb := ball hb hw
              clear hw
              go_wp2_with fail
              go_meet
              exact hb
            case pos =>
              have hba := HBK.out e0
              have e0h := Lib.hid e0
              have g0 : (L0 == 0) = true := beq_iff_eq.2 e0
              have CP := Lib.hid (show ∀ w, RdI w adk2 B → RdI w ada a → Calls Tryz.prog 8 #[.slice adk2 B.length ck2, .slice ada a.length ca] w fun e w' => e = .returned (.bool true) ∧ Below w.heap.size w w' from fun w h1 h2 => by
                rw [hba] at h1 ⊢
                exact sameI_c adk2 ck2 ada ca a w (by have := HLA.out; omega) h1 h2)
              have htp := HTOP.out
              obtain ⟨b, off, rfl, hbb, k0⟩ := R2.out 0 hpos
              rw [Nat.add_zero] at k0
              generalize R.getD 0 0 = y at k0 htp
              have gy : (y != 1000000000) = true := bne_iff_ne.2 htp
              clear e0 hba htp
              go_wp2_with fail
              refine (CQ.out _ B1.out B2.out).mono ?_
              rintro e w98 ⟨rfl, hw⟩
              replace hb := ball hb hw
              replace A := Lib.hid (A.out.below hw)
              have B3 := Lib.hid (B2.out.below hw)
              have k0 := bcell hw hbb k0
              clear hw
              go_wp2_with fail
              refine (CP.out _ B3.out A.out).mono ?_
              rintro e w99 ⟨rfl, hw⟩
              replace hb := ball hb hw
              clear hw
              go_wp2_with fail
              go_meet
              exact hb
        case rest =>
          obtain ⟨wT, rfl⟩ : ∃ x : World, x = wc := ⟨_, rfl⟩
          replace A := Lib.hid (A.out.below hcut)
          replace K := Lib.hid (K.out.below hcut)
          replace S := Lib.hid (S.out.below hcut)
          replace hb := ball hb hcut
          clear hcut
          clear R1 R2 HMG HL0 HRL HCR
          have ee1 : (pa != pa) = false := bne_self_eq_false pa
          go_wp2_with fail
          refine (C6.out _ A.out S.out.s).mono ?_
          rintro e w97 ⟨rfl, hw⟩
          replace A := Lib.hid (A.out.below hw)
          replace K := Lib.hid (K.out.below hw)
          replace S := Lib.hid (S.out.below hw)
          replace hb := ball hb hw
          clear hw C6 
          go_wp2_with fail
          refine (C7.out _ A.out).mono ?_
          rintro e w98 ⟨rfl, hw⟩
          replace A := Lib.hid (A.out.below hw)
          replace K := Lib.hid (K.out.below hw)
          replace S := Lib.hid (S.out.below hw)
          replace hb := ball hb hw
          clear hw C7 
          go_wp2_with fail
          refine (CW.out _ K.out).mono ?_
          rintro e w99 ⟨u, rfl, hul, hw⟩
          replace A := Lib.hid (A.out.below hw)
          replace S := Lib.hid (S.out.below hw)
          replace hb := ball hb hw
          clear hw CW K
          have c1 := fun w hL => iParsePoly_c u w (by omega) hL
          have c2 := fun w => sParsePoly_c u w (by omega)
          have hml := if_len (b := ppB u) (l := valN 44 u) (n := 401) (Nat.le_trans (valN_le u) (by omega))
          generalize (if ppB u = true then valN 44 u else []) = M at c1 c2 hml
          generalize ppB u = pm at c1 c2
          generalize (⟨u.toArray⟩ : ByteArray) = ub at c1 c2 ⊢
          have C1 := Lib.hid c1; have C2 := Lib.hid c2; have HML := Lib.hid hml
          clear c1 c2 hml hul
          have ee2 : (pm != pm) = false := bne_self_eq_false pm
          go_wp2_with fail
          refine (C1.out _ S.out).mono ?_
          rintro e w100 ⟨adm, cm, rfl, hp, hw⟩
          replace A := Lib.hid (A.out.below hw)
          replace S := Lib.hid (S.out.below hw)
          have M1 := Lib.hid hp; clear hp
          replace hb := ball hb hw
          clear hw C1 
          go_wp2_with fail
          refine (C2.out _).mono ?_
          rintro e w101 ⟨adm2, cm2, rfl, hp, hw⟩
          replace A := Lib.hid (A.out.below hw)
          replace S := Lib.hid (S.out.below hw)
          replace M1 := Lib.hid (M1.out.below hw)
          have M2 := Lib.hid hp; clear hp
          replace hb := ball hb hw
          clear hw C2 
          have CR := Lib.hid (fun w h1 h2 => sameI_c adm cm adm2 cm2 M w (by have := HML.out; omega) h1 h2)
          go_wp2_with fail
          refine (CR.out _ M1.out M2.out).mono ?_
          rintro e w102 ⟨rfl, hw⟩
          replace A := Lib.hid (A.out.below hw)
          replace S := Lib.hid (S.out.below hw)
          replace hb := ball hb hw
          clear hw CR M1 M2
          clear ee2
          cases pa
          case false =>
            go_wp2_with fail
            go_ret
            exact ⟨rfl, hb⟩
          case true =>
            obtain ⟨q1, q2⟩ := HPR.out rfl
            have c8 := C8.out
            rw [q1, if_pos rfl, q2] at c8
            have D8 := Lib.hid c8
            clear c8 C8 q1 q2 HPR
            go_wp2_with fail
            refine (D8.out _ S.out).mono ?_
            rintro e w103 ⟨adl, cl, rfl, hp, hw⟩
            replace A := Lib.hid (A.out.below hw)
            have B2 := Lib.hid hp; clear hp
            replace hb := ball hb hw
            clear hw D8 S
            have CR := Lib.hid (fun w h1 h2 => sameI_c adl cl ada ca a w (by have := HLA.out; omega) h1 h2)
            go_wp2_with fail
            refine (CR.out _ B2.out A.out).mono ?_
            rintro e w104 ⟨rfl, hw⟩
            replace A := Lib.hid (A.out.below hw)
            replace hb := ball hb hw
            clear hw CR B2
            go_wp2_with fail
            go_ret
            exact ⟨rfl, hb⟩

end Go.Proofs.YtfcdmdamniijbaaGreatDoor
