/-
  The walk of 'laws.FnPlanes': it returns true. Printed by gen_lawP.py. By an AI agent.
-/
import Derived.Test.YtbafgmicpopnoaaGreatDoorPlO
import Derived.Test.YtbafgmicpopnoaaGreatDoorPlN
import Derived.Deep.DeepCutAuto
import Derived.Deep.QuietTactic
namespace Go.Proofs.YtbafgmicpopnoaaGreatDoor
open Go.RowKit

theorem dgZ_bd {l : List Tm} (h : planeB l = true) : 0 ≤ dgZ l ∧ dgZ l ≤ 6 := dgK_bd (plane_term h) _ (Nat.le_refl _)
theorem pvZ_bd {l : List Tm} {x y : Int} (h : pvB l x y = true) : -1000000 ≤ pvZ l x y ∧ pvZ l x y ≤ 1000000 := by
  rw [(pvB_t h).2.2.2.2]; exact fin_b (pvB_t h).2.2.2.1
/-- All that the law asks of values. -/
structure ValG (a b P Q : List Tm) (u1 u2 va vb : Bool) (za zb : Int) (x y : Int) : Prop where
  b1 : va = true → -1000000 ≤ za ∧ za ≤ 1000000
  b2 : vb = true → -1000000 ≤ zb ∧ zb ≤ 1000000
  p : u1 = true → planeB a = true ∧ planeB b = true ∧ planeB P = true ∧ dgZ P = dgZ a + dgZ b
  v1 : u1 = true → va = true → vb = true → pvB P x y = numB (za + zb)
  v2 : u1 = true → va = true → vb = true → pvB P x y = true → pvZ P x y = za + zb
  s : u2 = true → va = true → vb = true → pvB Q x y = true ∧ ¬ (za < pvZ Q x y) ∧ ¬ (zb < pvZ Q x y) ∧ (pvZ Q x y = za ∨ pvZ Q x y = zb)
theorem valG {a b : List Tm} (x y : Int) : ValG a b (if prdOk a b = true then gth (prdL a b) else []) (if sumOk a b = true then gth (a ++ b) else []) (prdOk a b) (sumOk a b) (pvB a x y) (pvB b x y) (pvZ a x y) (pvZ b x y) x y := by
  refine ⟨pvZ_bd, pvZ_bd, fun h => ?_, fun h => ?_, fun h => ?_, fun h => ?_⟩
  · rw [if_pos h]; have g := prdG 0 0 h; exact ⟨g.pa, g.pb, g.pp, g.dg⟩
  · rw [if_pos h]; exact (prdG x y h).v1
  · rw [if_pos h]; exact (prdG x y h).v2
  · rw [if_pos h]; intro h1 h2; have g := sumG h h1 h2; exact ⟨g.v1, g.v2.1, g.v2.2, g.v3⟩
theorem swpO_back {a : List Tm} (h : planeB a = true) : (if planeB a = true then swpT a else []) = swpT a ∧ planeB (swpT a) = true ∧ swpT (swpT a) = a := ⟨if_pos h, swp_plane h, swp_two (plane_strict h)⟩

set_option maxHeartbeats 64000000 in
set_option maxRecDepth 100000 in
theorem lawPlanes_any (ad0 : Option Addr) (n0 cap0 : Nat) (ad1 : Option Addr) (n1 cap1 : Nat) (w : World) (hm0 : n0 ≤ 9223372036854775807) (hr0 : RdB w ad0 n0) (hm1 : n1 ≤ 9223372036854775807) (hr1 : RdB w ad1 n1) (hls : LaidL w) :
    Calls Tryz.prog 3 #[.slice ad0 n0 cap0, .slice ad1 n1 cap1] w fun e w' => e = .returned (.bool true) ∧ Below w.heap.size w w' := by
  have hb := Below.refl w.heap.size w
  have CD := Lib.hid (fun w h => drawPlaneProduct_c ad0 n0 cap0 w hm0 h)
  have CV := Lib.hid (fun w h => drawPlaneValue_c ad1 n1 cap1 w hm1 h)
  have CW := Lib.hid (fun w h => drawParsePlane_c ad1 n1 cap1 w hm1 h)
  have HB0 := Lib.hid hr0; have K := Lib.hid hr1; have S := Lib.hid hls; clear hr0 hr1 hls
  have cb := fun w => big_c ad0 n0 cap0 ad1 n1 cap1 w hm0
  generalize bigB n0 n1 = tb at cb
  have CB := Lib.hid cb; clear cb
  cases tb
  case true =>
    go_enter Tryz.func3, Tryz.ntmps3
    go_wp2_with fail
    refine (CB.out _).mono ?_
    rintro e w1 ⟨rfl, rfl⟩
    go_wp2_with fail
    go_ret
    exact ⟨rfl, hb⟩
  case false =>
    go_enter Tryz.func3, Tryz.ntmps3
    go_wp2_with fail
    refine (CB.out _).mono ?_
    rintro e w1 ⟨rfl, rfl⟩
    clear CB
    go_wp2_with fail
    refine (CD.out _ HB0.out).mono ?_
    rintro e w1 ⟨ada, ca, a, adb, cb, b, rfl, ⟨hla, hlb⟩, hra, hrb, hw⟩
    replace K := Lib.hid (K.out.below hw)
    replace S := Lib.hid (S.out.below hw)
    have A := Lib.hid hra; clear hra
    have B := Lib.hid hrb; clear hrb
    replace hb := ball hb hw
    clear hw CD HB0
    have c1 := fun w h1 h2 => iPlaneProduct_c ada adb ca cb a b w h1 h2 (by omega) (by omega)
    have c2 := fun w h1 h2 => sPlaneProduct_c ada adb ca cb a b w h1 h2 (by omega) (by omega)
    have c3 := fun w h1 h2 => iPlaneSum_c ada adb ca cb a b w h1 h2 (by omega) (by omega)
    have c4 := fun w h1 h2 => sPlaneSum_c ada adb ca cb a b w h1 h2 (by omega) (by omega)
    have hpl := prdR_len a b
    have hql := sumR_len a b
    have hvg := fun x y => valG (a := a) (b := b) x y
    generalize (if prdOk a b = true then gth (prdL a b) else []) = P at c1 c2 hpl hvg
    generalize (if sumOk a b = true then gth (a ++ b) else []) = Q at c3 c4 hql hvg
    generalize prdOk a b = u1 at c1 c2 hvg
    generalize sumOk a b = u2 at c3 c4 hvg
    have C1 := Lib.hid c1; have C2 := Lib.hid c2; have C3 := Lib.hid c3; have C4 := Lib.hid c4
    have HPL := Lib.hid hpl; have HQL := Lib.hid hql; have HVG := Lib.hid hvg; have HLA := Lib.hid hla; have HLB := Lib.hid hlb
    clear c1 c2 c3 c4 hpl hql hvg hla hlb
    have ee1 : (u1 != u1) = false := bne_self_eq_false u1
    have ee2 : (u2 != u2) = false := bne_self_eq_false u2
    go_wp2_with fail
    refine (C1.out _ A.out B.out).mono ?_
    rintro e w2 ⟨adp, cp, rfl, hp, hw⟩
    replace K := Lib.hid (K.out.below hw)
    replace S := Lib.hid (S.out.below hw)
    replace A := Lib.hid (A.out.below hw)
    replace B := Lib.hid (B.out.below hw)
    have P1 := Lib.hid hp; clear hp
    replace hb := ball hb hw
    clear hw C1 
    go_wp2_with fail
    refine (C2.out _ A.out B.out).mono ?_
    rintro e w3 ⟨adp2, cp2, rfl, hp, hw⟩
    replace K := Lib.hid (K.out.below hw)
    replace S := Lib.hid (S.out.below hw)
    replace A := Lib.hid (A.out.below hw)
    replace B := Lib.hid (B.out.below hw)
    replace P1 := Lib.hid (P1.out.below hw)
    have P2 := Lib.hid hp; clear hp
    replace hb := ball hb hw
    clear hw C2 
    go_wp2_with fail
    refine (C3.out _ A.out B.out).mono ?_
    rintro e w4 ⟨adq, cq, rfl, hp, hw⟩
    replace K := Lib.hid (K.out.below hw)
    replace S := Lib.hid (S.out.below hw)
    replace A := Lib.hid (A.out.below hw)
    replace B := Lib.hid (B.out.below hw)
    replace P1 := Lib.hid (P1.out.below hw)
    replace P2 := Lib.hid (P2.out.below hw)
    have Q1 := Lib.hid hp; clear hp
    replace hb := ball hb hw
    clear hw C3 
    go_wp2_with fail
    refine (C4.out _ A.out B.out).mono ?_
    rintro e w5 ⟨adq2, cq2, rfl, hp, hw⟩
    replace K := Lib.hid (K.out.below hw)
    replace S := Lib.hid (S.out.below hw)
    replace A := Lib.hid (A.out.below hw)
    replace B := Lib.hid (B.out.below hw)
    replace P1 := Lib.hid (P1.out.below hw)
    replace P2 := Lib.hid (P2.out.below hw)
    replace Q1 := Lib.hid (Q1.out.below hw)
    have Q2 := Lib.hid hp; clear hp
    replace hb := ball hb hw
    clear hw C4 
    have CQ := Lib.hid (fun w h1 h2 => pSameT_c adp adp2 cp cp2 P w h1 h2 (by have := HPL.out; omega))
    have CR := Lib.hid (fun w h1 h2 => pSameT_c adq adq2 cq cq2 Q w h1 h2 (by have := HQL.out; omega))
    go_wp2_with fail
    refine (CQ.out _ P1.out P2.out).mono ?_
    rintro e w6 ⟨rfl, hw⟩
    replace K := Lib.hid (K.out.below hw)
    replace S := Lib.hid (S.out.below hw)
    replace A := Lib.hid (A.out.below hw)
    replace B := Lib.hid (B.out.below hw)
    replace P1 := Lib.hid (P1.out.below hw)
    replace Q1 := Lib.hid (Q1.out.below hw)
    replace Q2 := Lib.hid (Q2.out.below hw)
    replace hb := ball hb hw
    clear hw CQ P2
    go_wp2_with fail
    refine (CR.out _ Q1.out Q2.out).mono ?_
    rintro e w7 ⟨rfl, hw⟩
    replace K := Lib.hid (K.out.below hw)
    replace S := Lib.hid (S.out.below hw)
    replace A := Lib.hid (A.out.below hw)
    replace B := Lib.hid (B.out.below hw)
    replace P1 := Lib.hid (P1.out.below hw)
    replace Q1 := Lib.hid (Q1.out.below hw)
    replace hb := ball hb hw
    clear hw CR Q2
    go_wp2_with fail
    refine (CV.out _ K.out).mono ?_
    rintro e w8 ⟨adz, cz, lz, x, y, rfl, -, hw⟩
    replace K := Lib.hid (K.out.below hw)
    replace S := Lib.hid (S.out.below hw)
    replace A := Lib.hid (A.out.below hw)
    replace B := Lib.hid (B.out.below hw)
    replace P1 := Lib.hid (P1.out.below hw)
    replace Q1 := Lib.hid (Q1.out.below hw)
    replace hb := ball hb hw
    clear hw CV 
    have c1 := fun w h => iPlaneValue_c ada ca a x y w h (by have := HLA.out; omega)
    have c2 := fun w h => sPlaneValue_c ada ca a x y w h (by have := HLA.out; omega)
    have c3 := fun w h => iPlaneValue_c adb cb b x y w h (by have := HLB.out; omega)
    have c4 := fun w h => sPlaneValue_c adb cb b x y w h (by have := HLB.out; omega)
    have hvg := HVG.out x y
    have DP := fun w h => iPlaneValue_c adp cp P x y w h (by have := HPL.out; omega)
    have DQ := fun w h => iPlaneValue_c adq cq Q x y w h (by have := HQL.out; omega)
    generalize pvB a x y = va at c1 c2 hvg
    generalize pvZ a x y = za at c1 c2 hvg
    generalize pvB b x y = vb at c3 c4 hvg
    generalize pvZ b x y = zb at c3 c4 hvg
    unfold pairV at c1 c2 c3 c4
    have C1 := Lib.hid c1; have C2 := Lib.hid c2; have C3 := Lib.hid c3; have C4 := Lib.hid c4
    have HV := Lib.hid hvg; have DP := Lib.hid DP; have DQ := Lib.hid DQ
    clear c1 c2 c3 c4 hvg HVG
    have ee3 : (va != va) = false := bne_self_eq_false va
    have ee4 : (vb != vb) = false := bne_self_eq_false vb
    have ee5 : (za != za) = false := bne_self_eq_false za
    have ee6 : (zb != zb) = false := bne_self_eq_false zb
    go_wp2_with fail
    refine (C1.out _ A.out).mono ?_
    rintro e w9 ⟨rfl, hw⟩
    replace K := Lib.hid (K.out.below hw)
    replace S := Lib.hid (S.out.below hw)
    replace A := Lib.hid (A.out.below hw)
    replace B := Lib.hid (B.out.below hw)
    replace P1 := Lib.hid (P1.out.below hw)
    replace Q1 := Lib.hid (Q1.out.below hw)
    replace hb := ball hb hw
    clear hw C1 
    go_wp2_with fail
    refine (C2.out _ A.out).mono ?_
    rintro e w10 ⟨rfl, hw⟩
    replace K := Lib.hid (K.out.below hw)
    replace S := Lib.hid (S.out.below hw)
    replace A := Lib.hid (A.out.below hw)
    replace B := Lib.hid (B.out.below hw)
    replace P1 := Lib.hid (P1.out.below hw)
    replace Q1 := Lib.hid (Q1.out.below hw)
    replace hb := ball hb hw
    clear hw C2 
    go_wp2_with fail
    refine (C3.out _ B.out).mono ?_
    rintro e w11 ⟨rfl, hw⟩
    replace K := Lib.hid (K.out.below hw)
    replace S := Lib.hid (S.out.below hw)
    replace A := Lib.hid (A.out.below hw)
    replace B := Lib.hid (B.out.below hw)
    replace P1 := Lib.hid (P1.out.below hw)
    replace Q1 := Lib.hid (Q1.out.below hw)
    replace hb := ball hb hw
    clear hw C3 
    go_wp2_with fail
    refine (C4.out _ B.out).mono ?_
    rintro e w12 ⟨rfl, hw⟩
    replace K := Lib.hid (K.out.below hw)
    replace S := Lib.hid (S.out.below hw)
    replace A := Lib.hid (A.out.below hw)
    replace B := Lib.hid (B.out.below hw)
    replace P1 := Lib.hid (P1.out.below hw)
    replace Q1 := Lib.hid (Q1.out.below hw)
    replace hb := ball hb hw
    clear hw C4 
    clear ee1 ee2 ee3 ee4 ee5 ee6
    go_upto_if 157 with fail
    go_cut [] from 157 to 157 (fun wc => Below w12.heap.size w12 wc)
    case first =>
      clear Q1 K S CW hb
      have hb := Below.refl w12.heap.size w12
      cases u1
      case false =>
        go_wp2_with fail
        go_meet
        exact hb
      case true =>
        obtain ⟨pa, pb, pp, hdg⟩ := HV.out.p rfl
        have c1 := fun w h => iTotalDegree_c adp cp P w h (by have := HPL.out; omega)
        have c2 := fun w h => iTotalDegree_c ada ca a w h (by have := HLA.out; omega)
        have c3 := fun w h => iTotalDegree_c adb cb b w h (by have := HLB.out; omega)
        have c4 := fun w h => iIsPlane_c adp cp P w h (by have := HPL.out; omega)
        rw [pp, if_pos rfl, hdg] at c1
        rw [pa, if_pos rfl] at c2
        rw [pb, if_pos rfl] at c3
        rw [pp] at c4
        have hd1 := dgZ_bd pa
        have hd2 := dgZ_bd pb
        have HV1 := Lib.hid (HV.out.v1 rfl); have HV2 := Lib.hid (HV.out.v2 rfl); have HVB := Lib.hid (And.intro HV.out.b1 HV.out.b2)
        clear pa pb pp hdg HV
        generalize dgZ a = da at c1 c2 hd1
        generalize dgZ b = db at c1 c3 hd2
        unfold pairV at c1 c2 c3
        have C1 := Lib.hid c1; have C2 := Lib.hid c2; have C3 := Lib.hid c3; have C4 := Lib.hid c4
        clear c1 c2 c3 c4
        have wd : IntKind.i64.wrap (da + db) = da + db := i64_small (by omega) (by omega)
        have ee : (da + db != da + db) = false := bne_self_eq_false _
        clear hd1 hd2
        go_wp2_with fail
        refine (C1.out _ P1.out).mono ?_
        rintro e w13 ⟨rfl, hw⟩
        replace A := Lib.hid (A.out.below hw)
        replace B := Lib.hid (B.out.below hw)
        replace P1 := Lib.hid (P1.out.below hw)
        replace hb := ball hb hw
        clear hw C1 
        go_wp2_with fail
        refine (C2.out _ A.out).mono ?_
        rintro e w14 ⟨rfl, hw⟩
        replace B := Lib.hid (B.out.below hw)
        replace P1 := Lib.hid (P1.out.below hw)
        replace hb := ball hb hw
        clear hw C2 A
        go_wp2_with fail
        refine (C3.out _ B.out).mono ?_
        rintro e w15 ⟨rfl, hw⟩
        replace P1 := Lib.hid (P1.out.below hw)
        replace hb := ball hb hw
        clear hw C3 B
        go_wp2_with fail
        refine (C4.out _ P1.out).mono ?_
        rintro e w16 ⟨rfl, hw⟩
        replace P1 := Lib.hid (P1.out.below hw)
        replace hb := ball hb hw
        clear hw C4 
        clear wd ee
        cases va
        case false =>
          go_wp2_with fail
          go_meet
          exact hb
        case true =>
          cases vb
          case false =>
            go_wp2_with fail
            go_meet
            exact hb
          case true =>
            have h1 := HVB.out.1 rfl
            have h2 := HVB.out.2 rfl
            have wd : IntKind.i64.wrap (za + zb) = za + zb := i64_small (by omega) (by omega)
            have v1 := HV1.out rfl rfl
            have v2 := HV2.out rfl rfl
            have dp := DP.out
            rw [v1] at dp v2
            have dn := fun w => iIsNum_c (za + zb) w
            unfold pairV at dp
            generalize pvZ P x y = zp at dp v2
            generalize numB (za + zb) = tn at dp v2 dn
            have DP2 := Lib.hid dp; have DN := Lib.hid dn
            clear dp dn v1 h1 h2 HV1 HV2 HVB DP
            go_wp2_with fail
            refine (DP2.out _ P1.out).mono ?_
            rintro e w17 ⟨rfl, hw⟩
            replace hb := ball hb hw
            clear hw DP2 P1
            go_wp2_with fail
            refine (DN.out _).mono ?_
            rintro e w99 ⟨rfl, rfl⟩
            clear DN
            have eet : (tn != tn) = false := bne_self_eq_false tn
            cases tn
            case false =>
              clear v2
              go_wp2_with fail
              go_meet
              exact hb
            case true =>
              have v2 := v2 rfl
              subst v2
              have eez : (za + zb != za + zb) = false := bne_self_eq_false _
              go_wp2_with fail
              go_meet
              exact hb
    case rest =>
      obtain ⟨wR, rfl⟩ : ∃ x : World, x = wc := ⟨_, rfl⟩
      replace A := Lib.hid (A.out.below hcut); replace K := Lib.hid (K.out.below hcut); replace S := Lib.hid (S.out.below hcut); replace Q1 := Lib.hid (Q1.out.below hcut)
      replace hb := ball hb hcut
      clear hcut B P1 DP
      go_upto_region 27 with fail
      obtain ⟨uu, huu⟩ : ∃ uu, (u2 && (va && vb)) = uu := ⟨_, rfl⟩
      have HUU := Lib.hid huu; clear huu
      go_cut [228] from 222 to 228 (fun s wc => s = .bool uu ∧ wR = wc)
      case first =>
        cases u2
        case false =>
          go_wp2_with fail
          go_meet
          exact ⟨by rw [← HUU.out]; rfl, rfl⟩
        case true =>
          cases va
          case false =>
            go_wp2_with fail
            go_meet
            exact ⟨by rw [← HUU.out]; rfl, rfl⟩
          case true =>
            go_wp2_with fail
            go_meet
            exact ⟨by rw [← HUU.out]; rfl, rfl⟩
      case rest =>
        obtain ⟨rfl, rfl⟩ := hcut
        go_upto_if 228 with fail
        go_cut [] from 228 to 228 (fun wc => Below wR.heap.size wR wc)
        case first =>
          have hb := Below.refl wR.heap.size wR
          cases uu
          case false =>
            go_wp2_with fail
            go_meet
            exact hb
          case true =>
              have hu := HUU.out
              simp only [Bool.and_eq_true] at hu
              obtain ⟨hu1, hu2, hu3⟩ := hu
              subst hu1; subst hu2; subst hu3
              obtain ⟨h1, h2, h3, h4⟩ := HV.out.s rfl rfl rfl
              have dq := DQ.out
              rw [h1] at dq
              unfold pairV at dq
              generalize pvZ Q x y = zq at dq h2 h3 h4
              have DQ2 := Lib.hid dq
              clear dq h1 HV DQ
              have g1 : decide (za < zq) = false := decide_eq_false h2
              have g2 : decide (zb < zq) = false := decide_eq_false h3
              obtain ⟨q1, hq1⟩ : ∃ q, (zq != za) = q := ⟨_, rfl⟩
              obtain ⟨q2, hq2⟩ : ∃ q, (zq != zb) = q := ⟨_, rfl⟩
              have hqq : q1 = false ∨ (q1 = true ∧ q2 = false) := by
                rw [← hq1, ← hq2]
                by_cases e : zq = za
                · exact Or.inl (by rw [e]; exact bne_self_eq_false za)
                · exact Or.inr ⟨bne_iff_ne.2 e, by rcases h4 with e2 | e2; exact absurd e2 e; rw [e2]; exact bne_self_eq_false zb⟩
              clear h2 h3 h4
              go_wp2_with fail
              refine (DQ2.out _ Q1.out).mono ?_
              rintro e wS ⟨rfl, hw⟩
              replace hb := ball hb hw
              clear hw DQ2
              rcases hqq with e | ⟨e, e2⟩
              · subst e
                go_wp2_with fail
                go_meet
                exact hb
              · subst e; subst e2
                go_wp2_with fail
                go_meet
                exact hb
        case rest =>
          obtain ⟨wT, rfl⟩ : ∃ x : World, x = wc := ⟨_, rfl⟩
          replace A := Lib.hid (A.out.below hcut); replace K := Lib.hid (K.out.below hcut); replace S := Lib.hid (S.out.below hcut)
          replace hb := ball hb hcut
          clear hcut Q1 DQ HV HPL HQL
          have c1 := fun w h => iSwapPlane_c ada ca a w h (by have := HLA.out; omega)
          have c2 := fun w h => sSwapPlane_c ada ca a w h (by have := HLA.out; omega)
          have c3 := fun w h hL => iPlaneText_c ada ca a w h (by have := HLA.out; omega) hL
          have c4 := fun w h => sPlaneText_c ada ca a w h (by have := HLA.out; omega)
          have c5 := fun w h => iIsPlane_c ada ca a w h (by have := HLA.out; omega)
          have hback := fun (h : planeB a = true) => swpO_back h
          have hpar := fun (h : planeB a = true) => ptx_par h
          have htl := ptx_len a
          have hrl := swpR_len a
          generalize (if planeB a = true then swpT a else []) = R at c1 c2 hback hrl
          generalize ptxO a = T at c3 c4 hpar htl
          generalize planeB a = pa at c1 c2 c3 c4 c5 hback hpar
          have c6 := fun w hL => iParsePlane_c T w (by omega) hL
          unfold strV at c3 c4
          generalize (⟨T.toArray⟩ : ByteArray) = TB at c3 c4 c6
          have C1 := Lib.hid c1; have C2 := Lib.hid c2; have C3 := Lib.hid c3; have C4 := Lib.hid c4; have C5 := Lib.hid c5; have C6 := Lib.hid c6
          have HBK := Lib.hid hback; have HPR := Lib.hid hpar; have HRL := Lib.hid hrl
          clear c1 c2 c3 c4 c5 c6 hback hpar htl hrl
          have ee1 : (pa != pa) = false := bne_self_eq_false pa
          go_wp2_with fail
          refine (C1.out _ A.out).mono ?_
          rintro e w53 ⟨adr, cr, rfl, hp, hw⟩
          replace A := Lib.hid (A.out.below hw)
          replace K := Lib.hid (K.out.below hw)
          replace S := Lib.hid (S.out.below hw)
          have R1 := Lib.hid hp; clear hp
          replace hb := ball hb hw
          clear hw C1 
          go_wp2_with fail
          refine (C2.out _ A.out).mono ?_
          rintro e w54 ⟨adr2, cr2, rfl, hp, hw⟩
          replace A := Lib.hid (A.out.below hw)
          replace K := Lib.hid (K.out.below hw)
          replace S := Lib.hid (S.out.below hw)
          replace R1 := Lib.hid (R1.out.below hw)
          have R2 := Lib.hid hp; clear hp
          replace hb := ball hb hw
          clear hw C2 
          go_wp2_with fail
          refine (C3.out _ A.out S.out.s).mono ?_
          rintro e w55 ⟨rfl, hw⟩
          replace A := Lib.hid (A.out.below hw)
          replace K := Lib.hid (K.out.below hw)
          replace S := Lib.hid (S.out.below hw)
          replace R1 := Lib.hid (R1.out.below hw)
          replace R2 := Lib.hid (R2.out.below hw)
          replace hb := ball hb hw
          clear hw C3 
          go_wp2_with fail
          refine (C4.out _ A.out).mono ?_
          rintro e w56 ⟨rfl, hw⟩
          replace A := Lib.hid (A.out.below hw)
          replace K := Lib.hid (K.out.below hw)
          replace S := Lib.hid (S.out.below hw)
          replace R1 := Lib.hid (R1.out.below hw)
          replace R2 := Lib.hid (R2.out.below hw)
          replace hb := ball hb hw
          clear hw C4 
          go_wp2_with fail
          refine (CW.out _ K.out).mono ?_
          rintro e w57 ⟨u, rfl, hul, hw⟩
          replace A := Lib.hid (A.out.below hw)
          replace S := Lib.hid (S.out.below hw)
          replace R1 := Lib.hid (R1.out.below hw)
          replace R2 := Lib.hid (R2.out.below hw)
          replace hb := ball hb hw
          clear hw CW K
          have c1 := fun w hL => iParsePlane_c u w (by omega) hL
          have c2 := fun w => sParsePlane_c u w (by omega)
          have hml := plnL_len u
          generalize (if plnB u = true then plnL u else []) = M at c1 c2 hml
          generalize plnB u = pm at c1 c2
          generalize (⟨u.toArray⟩ : ByteArray) = ub at c1 c2 ⊢
          have C1 := Lib.hid c1; have C2 := Lib.hid c2; have HML := Lib.hid hml
          clear c1 c2 hml hul
          have ee2 : (pm != pm) = false := bne_self_eq_false pm
          go_wp2_with fail
          refine (C1.out _ S.out).mono ?_
          rintro e w58 ⟨adm, cm, rfl, hp, hw⟩
          replace A := Lib.hid (A.out.below hw)
          replace S := Lib.hid (S.out.below hw)
          replace R1 := Lib.hid (R1.out.below hw)
          replace R2 := Lib.hid (R2.out.below hw)
          have M1 := Lib.hid hp; clear hp
          replace hb := ball hb hw
          clear hw C1 
          go_wp2_with fail
          refine (C2.out _).mono ?_
          rintro e w59 ⟨adm2, cm2, rfl, hp, hw⟩
          replace A := Lib.hid (A.out.below hw)
          replace S := Lib.hid (S.out.below hw)
          replace R1 := Lib.hid (R1.out.below hw)
          replace R2 := Lib.hid (R2.out.below hw)
          replace M1 := Lib.hid (M1.out.below hw)
          have M2 := Lib.hid hp; clear hp
          replace hb := ball hb hw
          clear hw C2 
          have CQ := Lib.hid (fun w h1 h2 => pSameT_c adr adr2 cr cr2 R w h1 h2 (by have := HRL.out; omega))
          have CR := Lib.hid (fun w h1 h2 => pSameT_c adm adm2 cm cm2 M w h1 h2 (by have := HML.out; omega))
          go_wp2_with fail
          refine (CQ.out _ R1.out R2.out).mono ?_
          rintro e w60 ⟨rfl, hw⟩
          replace A := Lib.hid (A.out.below hw)
          replace S := Lib.hid (S.out.below hw)
          replace R1 := Lib.hid (R1.out.below hw)
          replace M1 := Lib.hid (M1.out.below hw)
          replace M2 := Lib.hid (M2.out.below hw)
          replace hb := ball hb hw
          clear hw CQ R2
          go_wp2_with fail
          refine (CR.out _ M1.out M2.out).mono ?_
          rintro e w61 ⟨rfl, hw⟩
          replace A := Lib.hid (A.out.below hw)
          replace S := Lib.hid (S.out.below hw)
          replace R1 := Lib.hid (R1.out.below hw)
          replace hb := ball hb hw
          clear hw CR M1 M2
          go_wp2_with fail
          refine (C5.out _ A.out).mono ?_
          rintro e w62 ⟨rfl, hw⟩
          replace A := Lib.hid (A.out.below hw)
          replace S := Lib.hid (S.out.below hw)
          replace R1 := Lib.hid (R1.out.below hw)
          replace hb := ball hb hw
          clear hw C5 
          clear ee2
          cases pa
          case false =>
            go_wp2_with fail
            go_ret
            exact ⟨rfl, hb⟩
          case true =>
            obtain ⟨hR, hp2, h2⟩ := HBK.out rfl
            obtain ⟨q1, q2⟩ := HPR.out rfl
            have c1 := fun w h => iSwapPlane_c adr cr R w h (by have := HRL.out; omega)
            rw [hR, hp2, if_pos rfl, h2] at c1
            rw [← hR] at c1
            have c6 := C6.out
            rw [q1, if_pos rfl, q2] at c6
            have C1 := Lib.hid c1; have D6 := Lib.hid c6
            clear c1 c6 C6 hR hp2 h2 q1 q2 HBK HPR HRL
            go_wp2_with fail
            refine (C1.out _ R1.out).mono ?_
            rintro e w63 ⟨adk, ck, rfl, hp, hw⟩
            replace A := Lib.hid (A.out.below hw)
            replace S := Lib.hid (S.out.below hw)
            have B1 := Lib.hid hp; clear hp
            replace hb := ball hb hw
            clear hw C1 R1
            go_wp2_with fail
            refine (D6.out _ S.out).mono ?_
            rintro e w64 ⟨adl, cl, rfl, hp, hw⟩
            replace A := Lib.hid (A.out.below hw)
            replace B1 := Lib.hid (B1.out.below hw)
            have B2 := Lib.hid hp; clear hp
            replace hb := ball hb hw
            clear hw D6 S
            have CQ := Lib.hid (fun w h1 h2 => pSameT_c adk ada ck ca a w h1 h2 (by have := HLA.out; omega))
            have CR := Lib.hid (fun w h1 h2 => pSameT_c adl ada cl ca a w h1 h2 (by have := HLA.out; omega))
            go_wp2_with fail
            refine (CQ.out _ B1.out A.out).mono ?_
            rintro e w65 ⟨rfl, hw⟩
            replace A := Lib.hid (A.out.below hw)
            replace B2 := Lib.hid (B2.out.below hw)
            replace hb := ball hb hw
            clear hw CQ B1
            go_wp2_with fail
            refine (CR.out _ B2.out A.out).mono ?_
            rintro e w66 ⟨rfl, hw⟩
            replace A := Lib.hid (A.out.below hw)
            replace hb := ball hb hw
            clear hw CR B2
            go_wp2_with fail
            go_ret
            exact ⟨rfl, hb⟩

end Go.Proofs.YtbafgmicpopnoaaGreatDoor
