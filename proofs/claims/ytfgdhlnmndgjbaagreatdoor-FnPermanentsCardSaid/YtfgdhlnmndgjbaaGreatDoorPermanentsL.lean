/-
  The walk of 'laws.FnPermanents': it returns true. Printed by gen_lawPe.py. By an AI agent.
-/
import Derived.Test.YtfgdhlnmndgjbaaGreatDoorPeK
import Derived.Deep.DeepCutAuto
import Derived.Deep.QuietTactic
namespace Go.Proofs.YtfgdhlnmndgjbaaGreatDoor
open Go.RowKit

set_option maxHeartbeats 64000000 in
set_option maxRecDepth 100000 in
theorem lawPermanents_any (ad0 : Option Addr) (n0 cap0 : Nat) (ad1 : Option Addr) (n1 cap1 : Nat) (w : World) (hm0 : n0 ≤ 9223372036854775807) (hr0 : RdB w ad0 n0) (hm1 : n1 ≤ 9223372036854775807) (hr1 : RdB w ad1 n1) (hls : LaidL w) :
    Calls Tryz.prog 3 #[.slice ad0 n0 cap0, .slice ad1 n1 cap1] w fun e w' => e = .returned (.bool true) ∧ Below w.heap.size w w' := by
  have hb := Below.refl w.heap.size w
  have CD := Lib.hid (fun w h => drawPermanentOf_c ad0 n0 cap0 w hm0 h)
  have CV := Lib.hid (fun w h => drawApplyMatrix_c ad1 n1 cap1 w hm1 h)
  have CU := Lib.hid (fun w h => drawShiftMatrix_c ad1 n1 cap1 w hm1 h)
  have CW := Lib.hid (fun w h => drawParseMatrix_c ad1 n1 cap1 w hm1 h)
  have HB0 := Lib.hid hr0; have K := Lib.hid hr1; have S := Lib.hid hls; clear hr0 hr1 hls
  obtain ⟨tb, htb⟩ : ∃ tb : Bool, decide (1048576 < wrap64 ((n0 : Int) + (n1 : Int))) = tb := ⟨_, rfl⟩
  cases tb
  case true =>
    go_enter Tryz.func3, Tryz.ntmps3
    go_wp2_with fail
    go_ret
    exact ⟨rfl, hb⟩
  case false =>
    go_enter Tryz.func3, Tryz.ntmps3
    go_wp2_with fail
    refine (CD.out _ HB0.out).mono ?_
    rintro e w1 ⟨ada, ca, M, rfl, hsm, hra, hw⟩
    replace K := Lib.hid (K.out.below hw)
    replace S := Lib.hid (S.out.below hw)
    have A := Lib.hid hra; clear hra
    replace hb := ball hb hw
    clear hw CD HB0
    clear htb
    have c1 := fun w h => iPermanentOf_c ada ca M w h hsm
    have c2 := fun w h => sPermanentOf_c ada ca M w h hsm
    have c3 := fun w h => iTraceOf_c ada ca M w h hsm
    have c4 := fun w h => sTraceOf_c ada ca M w h hsm
    have c5 := fun w h hL => iMatrixText_c ada ca M w h hsm hL
    have c6 := fun w h => sMatrixText_c ada ca M w h hsm
    have c7 := fun w h => iIsMatrix_c ada ca M w h hsm
    have c8 := fun (hq : sqB M = true) w h => iTransposeMatrix_c ada ca M w h hsm (sq_parts hq).1
    have c9 := fun (hq : sqB M = true) adx cx w h => (show Calls Tryz.prog 5 #[.slice adx (trnM M).length cx] w fun e w' => e = .returned (pmV M) ∧ Below w.heap.size w w' from by rw [← (pm_turn hq).1]; exact iPermanentOf_c adx cx (trnM M) w h (pm_turn hq).2)
    have c10 := fun w h => iShiftMatrix_c ada ca M 1 w h hsm
    have c11 := fun adx cx w h => iPermanentOf_c adx cx (shL M 1) w h (shL_sm 1 hsm)
    have c12 := fun w hL => iParseMatrix_c (mtO M) w (by have := mtO_len M; omega) hL
    have hmt := fun (h : matB M = true) => mtO_par h
    have hok := fun (h : pmO M = true) => pm_ok h
    have hus : pmO M = true → sqB M = true := fun h => (pm_ok h).1
    have hqm : sqB M = true → 1 ≤ M.length ∧ M.length ≤ 6 := fun h => (sq_facts h).1
    have hP0 : pmO M = true → (if pmO M = true then (prmM M.length (entM M)).1 else 0) = (prmM M.length (entM M)).1 ∧ (if pmO M = true then ((prmM M.length (entM M)).2 : Int) else 0) = ((prmM M.length (entM M)).2 : Int) := fun h => ⟨if_pos h, if_pos h⟩
    have hsh := fun (h : sqB M = true) (h2 : shB M 1 = true) => (pm_shift h h2).1
    have hP1 : pmO (shL M 1) = true → (if pmO (shL M 1) = true then (prmM (shL M 1).length (entM (shL M 1))).1 else 0) = (prmM (shL M 1).length (entM (shL M 1))).1 ∧ (if pmO (shL M 1) = true then ((prmM (shL M 1).length (entM (shL M 1))).2 : Int) else 0) = ((prmM (shL M 1).length (entM (shL M 1))).2 : Int) := fun h => ⟨if_pos h, if_pos h⟩
    unfold pmV at c1 c2 c9 c11
    unfold trV pairV at c3 c4
    unfold MtxO at c10 c12
    have hif10 : shB M 1 = true → (if shB M 1 = true then shL M 1 else []) = shL M 1 := fun h => if_pos h
    have hif12 : pmB (mtO M) = true → (if pmB (mtO M) = true then pmL (mtO M) else []) = pmL (mtO M) := fun h => if_pos h
    generalize (if pmO M = true then (prmM M.length (entM M)).1 else 0) = P0 at c1 c2 c9 hP0
    generalize (if pmO M = true then ((prmM M.length (entM M)).2 : Int) else 0) = K0 at c1 c2 c9 hP0
    generalize (if pmO (shL M 1) = true then (prmM (shL M 1).length (entM (shL M 1))).1 else 0) = P1 at c11 hP1
    generalize (if pmO (shL M 1) = true then ((prmM (shL M 1).length (entM (shL M 1))).2 : Int) else 0) = K1 at c11 hP1
    generalize prmM (shL M 1).length (entM (shL M 1)) = Q1 at hsh hP1
    generalize prmM M.length (entM M) = Q0 at hok hP0 hsh
    generalize pmO (shL M 1) = u4 at c11 hP1
    generalize pmO M = u1 at c1 c2 c9 hok hus hP0
    generalize (if sqB M = true then trF (entM M) M.length else 0) = TR at c3 c4
    generalize (if shB M 1 = true then shL M 1 else []) = SZ at c10 hif10
    generalize shB M 1 = u3 at c10 hsh hif10
    generalize shL M 1 = SL at c11 hif10
    generalize (if pmB (mtO M) = true then pmL (mtO M) else []) = BZ at c12 hif12
    have hbk : matB M = true → pmB (mtO M) = true ∧ BZ = M := fun h => ⟨(hmt h).1, (hif12 (hmt h).1).trans (hmt h).2⟩
    clear hmt hif12
    generalize sqB M = u2 at c3 c4 c8 c9 hus hok hqm hsh
    generalize pmB (mtO M) = pb at c12 hbk
    generalize matB M = u5 at c5 c6 c7 hbk
    generalize mtO M = TL at c5 c6 c12
    unfold strV at c5 c6
    generalize (⟨TL.toArray⟩ : ByteArray) = TB at c5 c6 c12
    generalize trnM M = TM at c8 c9
    have hall : u1 = true → u2 = true ∧ 1 ≤ K0 := fun h => ⟨hus h, by have := (hok h).2.1; rw [(hP0 h).2]; omega⟩
    have hshf : u1 = true → u3 = true → u4 = true → P1 = prodZ P0 (M.length : Int) ∧ K1 = K0 := fun h1 h3 h4 => by
      have e := hsh (hus h1) h3
      have hn := hqm (hus h1)
      rw [(hP1 h4).1, (hP1 h4).2, (hP0 h1).1, (hP0 h1).2, e, ← shZ_prod (by omega), Int.mul_one]
      exact ⟨rfl, rfl⟩
    have hpb : u1 = true → (-1000000 ≤ P0 ∧ P0 ≤ 1000000000) ∧ M.length ≤ 6 := fun h => by
      rw [(hP0 h).1]
      exact ⟨numB_bd (hok h).2.2, (hqm (hus h)).2⟩
    have C1 := Lib.hid c1; have C2 := Lib.hid c2; have C3 := Lib.hid c3; have C4 := Lib.hid c4; have C5 := Lib.hid c5; have C6 := Lib.hid c6; have C7 := Lib.hid c7; have C8 := Lib.hid c8; have C9 := Lib.hid c9; have C10 := Lib.hid c10; have C11 := Lib.hid c11; have C12 := Lib.hid c12
    have HALL := Lib.hid hall; have HSF := Lib.hid hshf; have HPB := Lib.hid hpb; have HBK := Lib.hid hbk; have HIF := Lib.hid hif10; have HSM := Lib.hid hsm
    clear c1 c2 c3 c4 c5 c6 c7 c8 c9 c10 c11 c12 hall hshf hpb hbk hif10 hsm hok hus hqm hP0 hsh hP1
    have ee1 : (u1 != u1) = false := bne_self_eq_false u1
    have ee2 : (P0 != P0) = false := bne_self_eq_false P0
    have ee3 : (K0 != K0) = false := bne_self_eq_false K0
    have ee4 : (u2 != u2) = false := bne_self_eq_false u2
    have ee5 : (TR != TR) = false := bne_self_eq_false TR
    have ee6 : (u5 != u5) = false := bne_self_eq_false u5
    go_wp2_with fail
    refine (C1.out _ A.out).mono ?_
    rintro e w2 ⟨rfl, hw⟩
    replace K := Lib.hid (K.out.below hw)
    replace S := Lib.hid (S.out.below hw)
    replace A := Lib.hid (A.out.below hw)
    replace hb := ball hb hw
    clear hw C1 
    go_wp2_with fail
    refine (C2.out _ A.out).mono ?_
    rintro e w3 ⟨rfl, hw⟩
    replace K := Lib.hid (K.out.below hw)
    replace S := Lib.hid (S.out.below hw)
    replace A := Lib.hid (A.out.below hw)
    replace hb := ball hb hw
    clear hw C2 
    go_wp2_with fail
    refine (C3.out _ A.out).mono ?_
    rintro e w4 ⟨rfl, hw⟩
    replace K := Lib.hid (K.out.below hw)
    replace S := Lib.hid (S.out.below hw)
    replace A := Lib.hid (A.out.below hw)
    replace hb := ball hb hw
    clear hw C3 
    go_wp2_with fail
    refine (C4.out _ A.out).mono ?_
    rintro e w5 ⟨rfl, hw⟩
    replace K := Lib.hid (K.out.below hw)
    replace S := Lib.hid (S.out.below hw)
    replace A := Lib.hid (A.out.below hw)
    replace hb := ball hb hw
    clear hw C4 
    go_wp2_with fail
    refine (C5.out _ A.out S.out.s).mono ?_
    rintro e w6 ⟨rfl, hw⟩
    replace K := Lib.hid (K.out.below hw)
    replace S := Lib.hid (S.out.below hw)
    replace A := Lib.hid (A.out.below hw)
    replace hb := ball hb hw
    clear hw C5 
    go_wp2_with fail
    refine (C6.out _ A.out).mono ?_
    rintro e w7 ⟨rfl, hw⟩
    replace K := Lib.hid (K.out.below hw)
    replace S := Lib.hid (S.out.below hw)
    replace A := Lib.hid (A.out.below hw)
    replace hb := ball hb hw
    clear hw C6 
    go_upto_region 10 with fail
    go_cut [137] from 92 to 137 (fun sv wc => sv = .bool false ∧ Below w7.heap.size w7 wc)
    case first =>
      clear hb
      cases u1
      case false =>
        go_wp2_with fail
        refine (C7.out _ A.out).mono ?_
        rintro e wx ⟨rfl, hw⟩
        go_wp2_with fail
        go_meet
        exact ⟨rfl, hw⟩
      case true =>
        obtain ⟨rfl, _⟩ := HALL.out rfl
        go_wp2_with fail
        refine (C7.out _ A.out).mono ?_
        rintro e wx ⟨rfl, hw⟩
        go_wp2_with fail
        go_meet
        exact ⟨rfl, hw⟩
    case rest =>
      obtain ⟨wR, rfl⟩ : ∃ x : World, x = wc := ⟨_, rfl⟩
      obtain ⟨rfl, hcut⟩ := hcut
      replace K := Lib.hid (K.out.below hcut)
      replace S := Lib.hid (S.out.below hcut)
      replace A := Lib.hid (A.out.below hcut)
      replace hb := ball hb hcut
      clear hcut
      clear C7 ee1 ee4 ee5 ee6
      go_upto_if 138 with fail
      go_cut [] from 138 to 138 (fun wc => Below wR.heap.size wR wc)
      case first =>
        clear K S CU CV CW C12 hb
        have hb := Below.refl wR.heap.size wR
        cases u1
        case false =>
          go_wp2_with fail
          go_meet
          exact hb
        case true =>
          obtain ⟨hu2, hk0⟩ := HALL.out rfl
          subst hu2
          have D8 := Lib.hid (C8.out rfl)
          have D9 := Lib.hid (C9.out rfl)
          have hpb := HPB.out rfl
          have HSF2 := Lib.hid (HSF.out rfl)
          have CQ := Lib.hid (fun w => qPlus_c P0 (M.length : Int) w (by omega))
          have gk : decide (K0 < 1) = false := decide_eq_false (by omega)
          have gk2 : ¬ (K0 < 1) := by omega
          clear C8 C9 HALL HSF HPB hk0 hpb
          go_wp2_with fail
          refine (D8.out _ A.out).mono ?_
          rintro e w38 ⟨adt, ct, rfl, hp, hw⟩
          replace A := Lib.hid (A.out.below hw)
          have T1 := Lib.hid hp; clear hp
          replace hb := ball hb hw
          clear hw D8 
          go_wp2_with fail
          refine (D9.out adt ct _ T1.out).mono ?_
          rintro e w39 ⟨rfl, hw⟩
          replace A := Lib.hid (A.out.below hw)
          replace hb := ball hb hw
          clear hw D9 T1
          go_wp2_with fail
          refine (C10.out _ A.out).mono ?_
          rintro e w40 ⟨ads, cs, rfl, hp, hw⟩
          replace A := Lib.hid (A.out.below hw)
          have S1 := Lib.hid hp; clear hp
          replace hb := ball hb hw
          clear hw C10 
          cases u3
          case false =>
            go_wp2_with fail
            go_meet
            exact hb
          case true =>
            have hz := HIF.out rfl
            subst hz
            have HSF3 := Lib.hid (HSF2.out rfl)
            clear HSF2 HIF
            go_wp2_with fail
            refine (C11.out ads cs _ S1.out).mono ?_
            rintro e w41 ⟨rfl, hw⟩
            replace A := Lib.hid (A.out.below hw)
            replace hb := ball hb hw
            clear hw C11 S1
            cases u4
            case false =>
              clear CQ HSF3
              go_wp2_with fail
              go_meet
              exact hb
            case true =>
              obtain ⟨hp1, hk1⟩ := HSF3.out rfl
              clear HSF3
              generalize prodZ P0 (M.length : Int) = PZ at hp1 CQ
              subst hp1
              subst hk1
              have eep : (P1 != P1) = false := bne_self_eq_false P1
              go_wp2_with fail
              refine (CQ.out _).mono ?_
              rintro e wx ⟨rfl, rfl⟩
              go_wp2_with fail
              go_meet
              exact hb
      case rest =>
        obtain ⟨wT, rfl⟩ : ∃ x : World, x = wc := ⟨_, rfl⟩
        replace K := Lib.hid (K.out.below hcut)
        replace S := Lib.hid (S.out.below hcut)
        replace A := Lib.hid (A.out.below hcut)
        replace hb := ball hb hcut
        clear hcut
        clear C8 C9 C10 C11 HALL HSF HPB HIF ee2 ee3
        go_upto_if 197 with fail
        go_cut [] from 197 to 197 (fun wc => Below wT.heap.size wT wc)
        case first =>
          clear K CU CV CW hb
          have hb := Below.refl wT.heap.size wT
          cases u5
          case false =>
            go_wp2_with fail
            go_meet
            exact hb
          case true =>
            obtain ⟨hb1, hb2⟩ := HBK.out rfl
            subst hb1; subst hb2
            have CR := Lib.hid (fun ad' c' w h1 h2 => qLists_c ad' c' ada ca BZ w (by have := HSM.out.1; omega) (fun i hi => by have := HSM.out.2 i hi; omega) h1 h2)
            go_wp2_with fail
            refine (C12.out _ S.out).mono ?_
            rintro e wx ⟨adb, cb, rfl, hp, hw⟩
            replace A := Lib.hid (A.out.below hw)
            have B1 := Lib.hid hp; clear hp
            replace hb := ball hb hw
            clear hw C12
            go_wp2_with fail
            refine (CR.out adb cb _ B1.out A.out).mono ?_
            rintro e wy ⟨rfl, hw⟩
            replace hb := ball hb hw
            clear hw
            go_wp2_with fail
            go_meet
            exact hb
        case rest =>
          obtain ⟨wV, rfl⟩ : ∃ x : World, x = wc := ⟨_, rfl⟩
          clear A
          replace K := Lib.hid (K.out.below hcut)
          replace S := Lib.hid (S.out.below hcut)
          replace hb := ball hb hcut
          clear hcut
          clear C12 HBK
          go_wp2_with fail
          refine (CV.out _ K.out).mono ?_
          rintro e w98 ⟨adx, cx, X, adv, cv, V, rfl, hsx, hrx, hlv, hrv, hw⟩
          replace K := Lib.hid (K.out.below hw)
          replace S := Lib.hid (S.out.below hw)
          have X1 := Lib.hid hrx; clear hrx
          have V1 := Lib.hid hrv; clear hrv
          replace hb := ball hb hw
          clear hw CV 
          have c1 := fun w h h2 => iApplyMatrix_c adx cx X adv cv V w h hsx h2 (by omega)
          have c2 := fun w h h2 => sApplyMatrix_c adx cx X adv cv V w h hsx h2 (by omega)
          have hal := if_lenL (b := apB X V) (l := apL X V) (n := 100000) (apL_len V hsx)
          unfold IntO at c1 c2
          generalize (if apB X V = true then apL X V else []) = Z at c1 c2 hal
          generalize apB X V = u6 at c1 c2
          have C1 := Lib.hid c1; have C2 := Lib.hid c2; have HAL := Lib.hid hal
          clear c1 c2 hal hsx hlv
          have ee6 : (u6 != u6) = false := bne_self_eq_false u6
          go_wp2_with fail
          refine (C1.out _ X1.out V1.out).mono ?_
          rintro e w99 ⟨adz, cz, rfl, hp, hw⟩
          replace K := Lib.hid (K.out.below hw)
          replace S := Lib.hid (S.out.below hw)
          replace X1 := Lib.hid (X1.out.below hw)
          replace V1 := Lib.hid (V1.out.below hw)
          have Z1 := Lib.hid hp; clear hp
          replace hb := ball hb hw
          clear hw C1 
          go_wp2_with fail
          refine (C2.out _ X1.out V1.out).mono ?_
          rintro e w100 ⟨adz2, cz2, rfl, hp, hw⟩
          replace K := Lib.hid (K.out.below hw)
          replace S := Lib.hid (S.out.below hw)
          replace Z1 := Lib.hid (Z1.out.below hw)
          have Z2 := Lib.hid hp; clear hp
          replace hb := ball hb hw
          clear hw C2 X1 V1
          go_wp2_with fail
          refine (CU.out _ K.out).mono ?_
          rintro e w101 ⟨ady, cy, Y, by1, rfl, hsy, hry, hw⟩
          replace K := Lib.hid (K.out.below hw)
          replace S := Lib.hid (S.out.below hw)
          replace Z1 := Lib.hid (Z1.out.below hw)
          replace Z2 := Lib.hid (Z2.out.below hw)
          have Y1 := Lib.hid hry; clear hry
          replace hb := ball hb hw
          clear hw CU 
          have c1 := fun w h => iShiftMatrix_c ady cy Y by1 w h hsy
          have c2 := fun w h => sShiftMatrix_c ady cy Y by1 w h hsy
          have hsz := if_sm (b := shB Y by1) (shL_sm by1 hsy)
          have hbk : shB Y by1 = true → (if shB Y by1 = true then shL Y by1 else []) = shL Y by1 ∧ shB (shL Y by1) (-by1) = true ∧ shL (shL Y by1) (-by1) = Y ∧ (-1000000 ≤ by1 ∧ by1 ≤ 1000000) := fun h => ⟨if_pos h, sh_back h⟩
          unfold MtxO at c1 c2
          generalize (if shB Y by1 = true then shL Y by1 else []) = YZ at c1 c2 hsz hbk
          generalize shB Y by1 = u7 at c1 c2 hbk
          have hbk2 : u7 = true → (-1000000 ≤ by1 ∧ by1 ≤ 1000000) ∧ ∀ (adc : Option Addr) (cc : Nat) (w : World), RdM w adc YZ → Calls Tryz.prog 13 #[.slice adc YZ.length cc, .int .i64 (-by1)] w fun e w' => ∃ ad c, e = .returned (.tuple #[.slice ad Y.length c, .bool true]) ∧ RdM w' ad Y ∧ Below w.heap.size w w' := fun h => by
            obtain ⟨q1, q2, q3, q4⟩ := hbk h
            refine ⟨q4, fun adc cc w hw => ?_⟩
            have := iShiftMatrix_c adc cc YZ (-by1) w hw hsz
            rw [q1] at this ⊢
            unfold MtxO at this
            rw [q2, if_pos rfl, q3] at this
            exact this
          have C1 := Lib.hid c1; have C2 := Lib.hid c2; have HSZ := Lib.hid hsz; have HSY := Lib.hid hsy; have HB2 := Lib.hid hbk2
          clear c1 c2 hsz hbk hbk2 hsy
          have ee7 : (u7 != u7) = false := bne_self_eq_false u7
          go_wp2_with fail
          refine (C1.out _ Y1.out).mono ?_
          rintro e w102 ⟨adc, cc, rfl, hp, hw⟩
          replace K := Lib.hid (K.out.below hw)
          replace S := Lib.hid (S.out.below hw)
          replace Z1 := Lib.hid (Z1.out.below hw)
          replace Z2 := Lib.hid (Z2.out.below hw)
          replace Y1 := Lib.hid (Y1.out.below hw)
          have W1 := Lib.hid hp; clear hp
          replace hb := ball hb hw
          clear hw C1 
          go_wp2_with fail
          refine (C2.out _ Y1.out).mono ?_
          rintro e w103 ⟨adc2, cc2, rfl, hp, hw⟩
          replace K := Lib.hid (K.out.below hw)
          replace S := Lib.hid (S.out.below hw)
          replace Z1 := Lib.hid (Z1.out.below hw)
          replace Z2 := Lib.hid (Z2.out.below hw)
          replace Y1 := Lib.hid (Y1.out.below hw)
          replace W1 := Lib.hid (W1.out.below hw)
          have W2 := Lib.hid hp; clear hp
          replace hb := ball hb hw
          clear hw C2 
          go_wp2_with fail
          refine (CW.out _ K.out).mono ?_
          rintro e w104 ⟨u, rfl, hul, hw⟩
          replace S := Lib.hid (S.out.below hw)
          replace Z1 := Lib.hid (Z1.out.below hw)
          replace Z2 := Lib.hid (Z2.out.below hw)
          replace Y1 := Lib.hid (Y1.out.below hw)
          replace W1 := Lib.hid (W1.out.below hw)
          replace W2 := Lib.hid (W2.out.below hw)
          replace hb := ball hb hw
          clear hw CW K
          have c1 := fun w hL => iParseMatrix_c u w (by omega) hL
          have c2 := fun w => sParseMatrix_c u w (by omega)
          have hsq := if_sm (b := pmB u) (pmL_sm u (by omega))
          unfold MtxO at c1 c2
          generalize (if pmB u = true then pmL u else []) = UZ at c1 c2 hsq
          generalize pmB u = u8 at c1 c2
          generalize (⟨u.toArray⟩ : ByteArray) = ub at c1 c2 ⊢
          have C1 := Lib.hid c1; have C2 := Lib.hid c2; have HSQ := Lib.hid hsq
          clear c1 c2 hsq hul
          have ee8 : (u8 != u8) = false := bne_self_eq_false u8
          go_wp2_with fail
          refine (C1.out _ S.out).mono ?_
          rintro e w105 ⟨adm, cm, rfl, hp, hw⟩
          replace Z1 := Lib.hid (Z1.out.below hw)
          replace Z2 := Lib.hid (Z2.out.below hw)
          replace Y1 := Lib.hid (Y1.out.below hw)
          replace W1 := Lib.hid (W1.out.below hw)
          replace W2 := Lib.hid (W2.out.below hw)
          have M1 := Lib.hid hp; clear hp
          replace hb := ball hb hw
          clear hw C1 S
          go_wp2_with fail
          refine (C2.out _).mono ?_
          rintro e w106 ⟨adm2, cm2, rfl, hp, hw⟩
          replace Z1 := Lib.hid (Z1.out.below hw)
          replace Z2 := Lib.hid (Z2.out.below hw)
          replace Y1 := Lib.hid (Y1.out.below hw)
          replace W1 := Lib.hid (W1.out.below hw)
          replace W2 := Lib.hid (W2.out.below hw)
          replace M1 := Lib.hid (M1.out.below hw)
          have M2 := Lib.hid hp; clear hp
          replace hb := ball hb hw
          clear hw C2 
          have CQ := Lib.hid (fun w h1 h2 => qInts_c adz cz adz2 cz2 Z w (by have := HAL.out; omega) h1 h2)
          have CR := Lib.hid (fun w h1 h2 => qLists_c adc cc adc2 cc2 YZ w (by have := HSZ.out.1; omega) (fun i hi => by have := HSZ.out.2 i hi; omega) h1 h2)
          have CT := Lib.hid (fun w h1 h2 => qLists_c adm cm adm2 cm2 UZ w (by have := HSQ.out.1; omega) (fun i hi => by have := HSQ.out.2 i hi; omega) h1 h2)
          go_wp2_with fail
          refine (CQ.out _ Z1.out Z2.out).mono ?_
          rintro e w107 ⟨rfl, hw⟩
          replace Y1 := Lib.hid (Y1.out.below hw)
          replace W1 := Lib.hid (W1.out.below hw)
          replace W2 := Lib.hid (W2.out.below hw)
          replace M1 := Lib.hid (M1.out.below hw)
          replace M2 := Lib.hid (M2.out.below hw)
          replace hb := ball hb hw
          clear hw CQ Z1 Z2
          go_wp2_with fail
          refine (CR.out _ W1.out W2.out).mono ?_
          rintro e w108 ⟨rfl, hw⟩
          replace Y1 := Lib.hid (Y1.out.below hw)
          replace W1 := Lib.hid (W1.out.below hw)
          replace M1 := Lib.hid (M1.out.below hw)
          replace M2 := Lib.hid (M2.out.below hw)
          replace hb := ball hb hw
          clear hw CR W2
          go_wp2_with fail
          refine (CT.out _ M1.out M2.out).mono ?_
          rintro e w109 ⟨rfl, hw⟩
          replace Y1 := Lib.hid (Y1.out.below hw)
          replace W1 := Lib.hid (W1.out.below hw)
          replace hb := ball hb hw
          clear hw CT M1 M2
          clear ee6 ee7 ee8
          cases u7
          case false =>
            go_wp2_with fail
            go_ret
            exact ⟨rfl, hb⟩
          case true =>
            obtain ⟨hby, hsb⟩ := HB2.out rfl
            have CB := Lib.hid hsb
            have wn : IntKind.i64.wrap (-by1) = -by1 := i64_small (by omega) (by omega)
            clear hsb HB2
            have CX := Lib.hid (fun ad' c' w h1 h2 => qLists_c ad' c' ady cy Y w (by have := HSY.out.1; omega) (fun i hi => by have := HSY.out.2 i hi; omega) h1 h2)
            go_wp2_with fail
            refine (CB.out adc cc _ W1.out).mono ?_
            rintro e w110 ⟨adk, ck, rfl, hp, hw⟩
            replace Y1 := Lib.hid (Y1.out.below hw)
            have B1 := Lib.hid hp; clear hp
            replace hb := ball hb hw
            clear hw CB W1
            go_wp2_with fail
            refine (CX.out adk ck _ B1.out Y1.out).mono ?_
            rintro e w111 ⟨rfl, hw⟩
            replace hb := ball hb hw
            clear hw CX B1 Y1
            go_wp2_with fail
            go_ret
            exact ⟨rfl, hb⟩

end Go.Proofs.YtfgdhlnmndgjbaaGreatDoor
