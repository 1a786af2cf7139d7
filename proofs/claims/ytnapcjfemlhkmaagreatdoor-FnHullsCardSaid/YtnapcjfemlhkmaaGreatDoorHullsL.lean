/-
  The walk of 'laws.FnHulls': it returns true. Printed by gen_lawH.py. By an AI agent.
-/
import Derived.Test.YtnapcjfemlhkmaaGreatDoorHuL
import Derived.Test.YtnapcjfemlhkmaaGreatDoorHuC
import Derived.Deep.DeepCutAuto
import Derived.Deep.QuietTactic
namespace Go.Proofs.YtnapcjfemlhkmaaGreatDoor
open Go.RowKit

set_option maxHeartbeats 64000000 in
set_option maxRecDepth 100000 in
theorem lawHulls_any (ad0 : Option Addr) (n0 cap0 : Nat) (ad1 : Option Addr) (n1 cap1 : Nat) (w : World) (hm0 : n0 ≤ 9223372036854775807) (hr0 : RdB w ad0 n0) (hm1 : n1 ≤ 9223372036854775807) (hr1 : RdB w ad1 n1) (hls : LaidL w) :
    Calls Tryz.prog 3 #[.slice ad0 n0 cap0, .slice ad1 n1 cap1] w fun e w' => e = .returned (.bool true) ∧ Below w.heap.size w w' := by
  have bw0 := Below.refl w.heap.size w
  have HB0 := Lib.hid hr0; have HB1 := Lib.hid hr1; have HLS := Lib.hid hls; clear hr0 hr1 hls
  obtain ⟨tb, htb⟩ : ∃ tb : Bool, decide (1048576 < wrap64 ((n0 : Int) + (n1 : Int))) = tb := ⟨_, rfl⟩
  cases tb
  case true =>
    go_enter Tryz.func3, Tryz.ntmps3
    go_wp2_with fail
    go_ret
    exact ⟨rfl, bw0⟩
  case false =>
    go_enter Tryz.func3, Tryz.ntmps3
    go_wp2_with fail
    refine (drawHullOf_c ad0 n0 cap0 _ hm0 HB0.out).mono ?_
    rintro e w1 ⟨adl, cl, l, rfl, hll, hrl, hw1⟩
    have L1 := Lib.hid hrl; have K1 := Lib.hid (HB1.out.below hw1); have S1 := Lib.hid (HLS.out.below hw1)
    clear hrl htb HB0 HB1 HLS bw0
    obtain ⟨u, hu⟩ : ∃ u, ptsB l = u := ⟨_, rfl⟩
    have c1 := fun w h => iHullOf_c adl cl l w h (by omega)
    have c2 := fun w h => sHullOf_c adl cl l w h (by omega)
    have hG := fun (h : ptsB l = true) => hulG h
    have hxl := hulO_len l
    rw [hu] at c1 c2 hG
    clear hu
    generalize hulO l = X at c1 c2 hG hxl
    have C1 := Lib.hid c1; have C2 := Lib.hid c2; have HG := Lib.hid hG; have HXL := Lib.hid (show X.length ≤ 80 by omega)
    have HLL := Lib.hid hll
    clear c1 c2 hG hxl hll
    go_wp2_with fail
    refine (C1.out _ L1.out).mono ?_
    rintro e w2 ⟨adx, cx, rfl, hx, hw2⟩
    have L2 := Lib.hid (L1.out.below hw2); have K2 := Lib.hid (K1.out.below hw2); have S2 := Lib.hid (S1.out.below hw2); have X2 := Lib.hid hx
    have hb2 := ball hw1 hw2
    clear L1 K1 S1 hw1 hw2 C1 hx
    go_wp2_with fail
    refine (C2.out _ L2.out).mono ?_
    rintro e w3 ⟨ady, cy, rfl, hy, hw3⟩
    have L3 := Lib.hid (L2.out.below hw3); have K3 := Lib.hid (K2.out.below hw3); have S3 := Lib.hid (S2.out.below hw3); have X3 := Lib.hid (X2.out.below hw3); have Y3 := Lib.hid hy
    have hb3 := ball hb2 hw3
    clear L2 K2 S2 X2 hb2 hw3 C2 hy
    have ee : (u != u) = false := bne_self_eq_false u
    have CQ := Lib.hid (qP_c adx ady cx cy X w3 X3.out Y3.out (by have := HXL.out; omega))
    go_wp2_with fail
    refine CQ.out.mono ?_
    rintro e w4 ⟨rfl, hw4⟩
    have L4 := Lib.hid (L3.out.below hw4); have K4 := Lib.hid (K3.out.below hw4); have S4 := Lib.hid (S3.out.below hw4); have X4 := Lib.hid (X3.out.below hw4); have Y4 := Lib.hid (Y3.out.below hw4)
    have hb4 := ball hb3 hw4
    clear L3 K3 S3 X3 Y3 hb3 hw4 CQ
    go_upto_if 68 with fail
    go_cut [] from 68 to 68 (fun wc => Below w4.heap.size w4 wc)
    case first =>
      have bwq := Below.refl w4.heap.size w4
      cases u
      case false =>
        go_wp2_with fail
        go_meet
        exact bwq
      case true =>
        clear hb4 K4 bwq
        obtain ⟨ED, T, g⟩ := HG.out rfl
        have GG := Lib.hid g; clear g HG
        have d1 := fun w h => iIsPol_c adx cx X w h (by have := HXL.out; omega)
        rw [GG.out.pol] at d1
        have D1 := Lib.hid d1; clear d1
        go_wp2_with fail
        refine (D1.out _ X4.out).mono ?_
        rintro e w5 ⟨rfl, hw5⟩
        have L5 := Lib.hid (L4.out.below hw5); have S5 := Lib.hid (S4.out.below hw5); have X5 := Lib.hid (X4.out.below hw5); have Y5 := Lib.hid (Y4.out.below hw5)
        have H5 := Lib.hid hw5
        clear L4 S4 X4 Y4 D1 hw5
        have DH := Lib.hid (fun (x y : Int) w h => iHasPoint_c adx cx X x y w h (by have := HXL.out; omega))
        have DP := Lib.hid (fun (x y : Int) w => iIsPoint_c x y w)
        go_wp2_with fail
        go_loopw [74] (fun i wr => ∃ k : Nat, k ≤ l.length ∧ i = .int .i64 k ∧ Below w5.heap.size w5 wr) (fun i _ => l.length - (intOf i).toNat)
        case atStart => exact ⟨0, Nat.zero_le _, rfl, Below.refl _ _⟩
        case round =>
          obtain ⟨wE, rfl⟩ : ∃ x : World, x = wr := ⟨_, rfl⟩
          obtain ⟨k, hk, rfl, hbel⟩ := hrel
          by_cases hlt : k < l.length
          case pos =>
            obtain ⟨b, off, rfl, hb, c0, c1⟩ := L5.out k hlt
            have d0 := bcell hbel hb c0
            have d1 := bcell hbel hb c1
            clear c0 c1
            obtain ⟨hv, hk2⟩ := GG.out.has _ (getD_memP hlt)
            have hp := GG.out.pt _ (getD_memP hlt)
            generalize l.getD k default = p at d0 d1 hv hk2 hp
            obtain ⟨px, py⟩ := p
            simp only at d0 d1
            have XE := Lib.hid ((X5.out.below hbel).below (bal_alloc (o := .cells #[.int .i64 px, .int .i64 py] 30) (Below.refl _ _)))
            have dh := fun w h => DH.out px py w h
            have dp := fun w => DP.out px py w
            rw [hv, hk2] at dh
            rw [hp] at dp
            have DH2 := Lib.hid dh; have DP2 := Lib.hid dp
            clear hv hk2 hp dh dp
            obtain ⟨q, hq⟩ : ∃ q, wE.heap.size = q := ⟨_, rfl⟩
            have oB := PtO.new wE px py hq.symm
            have hbA := hbel.alloc hbel.size (.cells #[.int .i64 px, .int .i64 py] 30)
            have hq5 : w5.heap.size ≤ q := by rw [← hq]; exact hbel.size
            go_wp2_with fail
            refine (DH2.out _ XE.out).mono ?_
            rintro e w6 ⟨rfl, hw6⟩
            have oC := oB.below hw6
            obtain ⟨z0, z1⟩ := oC.at
            have hb6 := ball hbA hw6
            clear oB hbA hw6
            go_wp2_with fail
            refine (DP2.out _).mono ?_
            rintro e w7 ⟨rfl, hw7⟩
            have hb7 := ball hb6 hw7
            clear z0 z1
            have hll2 := HLL.out
            have wk : IntKind.i64.wrap ((k : Int) + 1) = (k : Int) + 1 := i64_small (by omega) (by omega)
            go_wp2_with fail
            go_roundw
            case rel => exact ⟨k + 1, by omega, by go_num, hb7⟩
            case measure => simp [intOf]; omega
          case neg =>
            obtain rfl : k = l.length := by omega
            have X6 := Lib.hid (X5.out.below hbel); have Y6 := Lib.hid (Y5.out.below hbel); have S6 := Lib.hid (S5.out.below hbel)
            have H6 := Lib.hid (ball H5.out hbel)
            clear X5 Y5 S5 H5 L5 hbel hk hlt DH DP
            have e1 := fun w h => iEdgesOf_c adx cx X w h (by have := HXL.out; omega)
            have e2 := fun w h => sEdgesOf_c ady cy X w h (by have := HXL.out; omega)
            have e3 := fun w h hL => iPolygonText_c adx cx X w h (by have := HXL.out; omega) hL
            have e4 := fun w h => sPolygonText_c ady cy X w h (by have := HXL.out; omega)
            rw [GG.out.pol, GG.out.edg] at e1 e2
            rw [GG.out.pol, GG.out.txt] at e3 e4
            have hel := GG.out.len
            have e5 := fun w hL => iParsePol_c T w GG.out.tl hL
            rw [if_pos GG.out.par.1, GG.out.par.1, GG.out.par.2] at e5
            unfold strV at e3 e4
            obtain ⟨TB, hTB⟩ : ∃ TB : ByteArray, (⟨T.toArray⟩ : ByteArray) = TB := ⟨_, rfl⟩
            rw [hTB] at e3 e4 e5
            have E1 := Lib.hid e1; have E2 := Lib.hid e2; have E3 := Lib.hid e3; have E4 := Lib.hid e4; have E5 := Lib.hid e5
            clear e1 e2 e3 e4 e5 hTB
            go_wp2_with fail
            refine (E1.out _ X6.out).mono ?_
            rintro e w7 ⟨ade, ce, rfl, he, hw7⟩
            have X7 := Lib.hid (X6.out.below hw7); have Y7 := Lib.hid (Y6.out.below hw7); have S7 := Lib.hid (S6.out.below hw7); have E7 := Lib.hid he
            have H7 := Lib.hid (ball H6.out hw7)
            clear X6 Y6 S6 H6 hw7 he E1
            go_wp2_with fail
            refine (E2.out _ Y7.out).mono ?_
            rintro e w8 ⟨adf, cf, rfl, hf, hw8⟩
            have X8 := Lib.hid (X7.out.below hw8); have Y8 := Lib.hid (Y7.out.below hw8); have S8 := Lib.hid (S7.out.below hw8); have E8 := Lib.hid (E7.out.below hw8); have F8 := Lib.hid hf
            have H8 := Lib.hid (ball H7.out hw8)
            clear X7 Y7 S7 H7 E7 hw8 hf E2
            go_wp2_with fail
            refine (E3.out _ X8.out S8.out.s).mono ?_
            rintro e w9 ⟨rfl, hw9⟩
            have X9 := Lib.hid (X8.out.below hw9); have Y9 := Lib.hid (Y8.out.below hw9); have S9 := Lib.hid (S8.out.below hw9); have E9 := Lib.hid (E8.out.below hw9); have F9 := Lib.hid (F8.out.below hw9)
            have H9 := Lib.hid (ball H8.out hw9)
            clear X8 Y8 S8 H8 E8 F8 hw9 E3
            go_wp2_with fail
            refine (E4.out _ Y9.out).mono ?_
            rintro e w10 ⟨rfl, hw10⟩
            have X10 := Lib.hid (X9.out.below hw10); have S10 := Lib.hid (S9.out.below hw10); have E10 := Lib.hid (E9.out.below hw10); have F10 := Lib.hid (F9.out.below hw10)
            have H10 := Lib.hid (ball H9.out hw10)
            clear X9 Y9 S9 H9 E9 F9 hw10 E4
            have CQ := Lib.hid (qP_c ade adf ce cf ED w10 E10.out F10.out (by omega))
            go_wp2_with fail
            refine CQ.out.mono ?_
            rintro e w11 ⟨rfl, hw11⟩
            have X11 := Lib.hid (X10.out.below hw11); have S11 := Lib.hid (S10.out.below hw11); have F11 := Lib.hid (F10.out.below hw11)
            have H11 := Lib.hid (ball H10.out hw11)
            clear X10 S10 H10 E10 F10 hw11 CQ
            obtain ⟨SX, hSX⟩ : ∃ SX : Nat → Int, (fun k => sumX (ED.take k)) = SX := ⟨_, rfl⟩
            obtain ⟨SY, hSY⟩ : ∃ SY : Nat → Int, (fun k => sumY (ED.take k)) = SY := ⟨_, rfl⟩
            have hsx : ∀ k, sumX (ED.take k) = SX k := fun k => by rw [← hSX]
            have hsy : ∀ k, sumY (ED.take k) = SY k := fun k => by rw [← hSY]
            have hbd := GG.out.bd
            have hst := fun k (hk : k < ED.length) => sumX_take hk
            have hs0 := GG.out.s0
            have e0 : sumX (ED.take ED.length) = sumX ED ∧ sumY (ED.take ED.length) = sumY ED := by rw [List.take_length]; exact ⟨rfl, rfl⟩
            have e00 : sumX (ED.take 0) = 0 ∧ sumY (ED.take 0) = 0 := ⟨rfl, rfl⟩
            simp only [hsx, hsy] at hbd hst e0 e00
            rw [hs0.1, hs0.2] at e0
            have HBD := Lib.hid hbd; have HST := Lib.hid hst; have HE0 := Lib.hid e0; have HE00 := Lib.hid e00
            clear hbd hst e0 e00 hs0 hsx hsy hSX hSY GG
            go_wp2_with fail
            go_loopw [22, 23, 143] (fun s t i wr => ∃ k : Nat, k ≤ ED.length ∧ i = .int .i64 k ∧ s = .int .i64 (SX k) ∧ t = .int .i64 (SY k) ∧ Below w11.heap.size w11 wr) (fun _ _ i _ => ED.length - (intOf i).toNat)
            case atStart => exact ⟨0, Nat.zero_le _, rfl, by rw [HE00.out.1], by rw [HE00.out.2], Below.refl _ _⟩
            case round =>
              obtain ⟨wE, rfl⟩ : ∃ x : World, x = wr := ⟨_, rfl⟩
              obtain ⟨k, hk, rfl, rfl, rfl, hbel⟩ := hrel
              by_cases hlt : k < ED.length
              case pos =>
                obtain ⟨b, off, rfl, hb, c0, c1⟩ := F11.out k hlt
                have d0 := bcell hbel hb c0
                have d1 := bcell hbel hb c1
                clear c0 c1
                obtain ⟨hs1, hs2⟩ := HST.out k hlt
                have hbd2 := HBD.out (k + 1) (by omega)
                generalize ED.getD k default = p at d0 d1 hs1 hs2
                obtain ⟨px, py⟩ := p
                simp only at d0 d1 hs1 hs2
                have v1 : IntKind.i64.wrap (SX k + px) = SX k + px := i64_small (by omega) (by omega)
                have v2 : IntKind.i64.wrap (SY k + py) = SY k + py := i64_small (by omega) (by omega)
                have HS := Lib.hid (And.intro hs1 hs2)
                clear hs1 hs2 hbd2
                have hbA := hbel.alloc hbel.size (.cells #[.int .i64 px, .int .i64 py] 30)
                go_wp2_with fail
                go_roundw
                case rel => exact ⟨k + 1, by omega, by go_num, by rw [HS.out.1], by rw [HS.out.2], hbA⟩
                case measure => simp [intOf]; omega
              case neg =>
                obtain rfl : k = ED.length := by omega
                have hz1 := HE0.out.1
                have hz2 := HE0.out.2
                rw [hz1, hz2]
                clear hz1 hz2
                have X12 := Lib.hid (X11.out.below hbel); have S12 := Lib.hid (S11.out.below hbel)
                have H12 := Lib.hid (ball H11.out hbel)
                clear X11 S11 H11 hbel HBD HST HE0 HE00
                go_wp2_with fail
                refine (E5.out _ S12.out).mono ?_
                rintro e w13 ⟨adk, ck, rfl, hbk, hw13⟩
                have X13 := Lib.hid (X12.out.below hw13)
                have H13 := Lib.hid (ball H12.out hw13)
                have CQ := Lib.hid (qP_c adk adx ck cx X w13 hbk X13.out (by have := HXL.out; omega))
                clear hbk hw13 X12 S12 H12
                go_wp2_with fail
                refine CQ.out.mono ?_
                rintro e w14 ⟨rfl, hw14⟩
                have hb14 := ball H13.out hw14
                clear CQ H13 hw14
                go_wp2_with fail
                go_meet
                exact hb14

    case rest =>
      obtain ⟨w11, rfl⟩ : ∃ x : World, x = wc := ⟨_, rfl⟩
      have K11 := Lib.hid (K4.out.below hcut); have S11 := Lib.hid (S4.out.below hcut)
      have hb11 := ball hb4 hcut
      clear K4 S4 hb4 hcut L4 X4 Y4 HG HXL HLL
      go_wp2_with fail
      refine (drawIsPolygon_c ad1 n1 cap1 _ hm1 K11.out).mono ?_
      rintro e w12 ⟨adg, cg, G, rfl, hgl, hrg, hw12⟩
      have G12 := Lib.hid hrg; have K12 := Lib.hid (K11.out.below hw12); have S12 := Lib.hid (S11.out.below hw12)
      have hb12 := ball hb11 hw12
      clear hrg K11 S11 hb11 hw12
      go_wp2_with fail
      refine (drawIsPoint_c ad1 n1 cap1 _ hm1 K12.out).mono ?_
      rintro e w13 ⟨px, py, rfl, hw13⟩
      have hwA : Below w12.heap.size w12 (w13.alloc (.cells #[.int .i64 px, .int .i64 py] 30)) := bal_alloc hw13
      have G13 := Lib.hid (G12.out.below hwA); have K13 := Lib.hid (K12.out.below hwA); have S13 := Lib.hid (S12.out.below hwA)
      have hb13 := ball hb12 hwA
      obtain ⟨q, hq⟩ : ∃ q, w13.heap.size = q := ⟨_, rfl⟩
      have P13 := Lib.hid (PtO.new w13 px py hq.symm)
      clear G12 K12 S12 hb12 hwA
      go_wp2_with fail
      generalize w13.alloc (.cells #[.int .i64 px, .int .i64 py] 30) = w14 at G13 K13 S13 hb13 P13 ⊢
      try rw [hq]
      clear hq hw13
      refine (drawParsePol_c ad1 n1 cap1 _ hm1 K13.out).mono ?_
      rintro e w15 ⟨s, rfl, hsl, hw15⟩
      have G15 := Lib.hid (G13.out.below hw15); have K15 := Lib.hid (K13.out.below hw15); have S15 := Lib.hid (S13.out.below hw15); have P15 := Lib.hid (P13.out.below hw15)
      have hb15 := ball hb13 hw15
      clear G13 K13 S13 P13 hb13 hw15
      have c1 := fun w hL => iParsePol_c s w (by omega) hL
      have c2 := fun w => sParse_same s w (by omega)
      have hpl := par_len s
      obtain ⟨pb, hpb⟩ : ∃ b, parB s = b := ⟨_, rfl⟩
      obtain ⟨R, hR⟩ : ∃ R, (if parB s = true then parL s else []) = R := ⟨_, rfl⟩
      rw [hR, hpb] at c1 c2
      rw [hR] at hpl
      clear hR hpb
      generalize (⟨s.toArray⟩ : ByteArray) = sb at c1 c2 ⊢
      have C1 := Lib.hid c1; have C2 := Lib.hid c2; have HPL := Lib.hid hpl
      clear c1 c2 hpl hsl
      go_wp2_with fail
      refine (C1.out _ S15.out).mono ?_
      rintro e w16 ⟨adr, cr, rfl, hr16, hw16⟩
      have G16 := Lib.hid (G15.out.below hw16); have K16 := Lib.hid (K15.out.below hw16); have P16 := Lib.hid (P15.out.below hw16); have R16 := Lib.hid hr16
      have hb16 := ball hb15 hw16
      clear G15 K15 S15 P15 hb15 hw16 hr16 C1
      go_wp2_with fail
      refine (C2.out _).mono ?_
      rintro e w17 ⟨adt, ct, rfl, hr17, hw17⟩
      have G17 := Lib.hid (G16.out.below hw17); have K17 := Lib.hid (K16.out.below hw17); have P17 := Lib.hid (P16.out.below hw17); have R17 := Lib.hid (R16.out.below hw17); have T17 := Lib.hid hr17
      have hb17 := ball hb16 hw17
      clear G16 K16 P16 R16 hb16 hw17 hr17 C2
      go_wp2_with fail
      refine (drawHasPoint_c ad1 n1 cap1 _ hm1 K17.out).mono ?_
      rintro e w18 ⟨adu, cu, U, ax, ay, rfl, hul, hru, hw18⟩
      have hwA : Below w17.heap.size w17 (w18.alloc (.cells #[.int .i64 ax, .int .i64 ay] 30)) := bal_alloc hw18
      have hA2 : Below w18.heap.size w18 (w18.alloc (.cells #[.int .i64 ax, .int .i64 ay] 30)) := bal_alloc (Below.refl _ _)
      have G19 := Lib.hid (G17.out.below hwA); have P19 := Lib.hid (P17.out.below hwA); have R19 := Lib.hid (R17.out.below hwA); have T19 := Lib.hid (T17.out.below hwA)
      have U19 := Lib.hid (hru.below hA2)
      have hb19 := ball hb17 hwA
      obtain ⟨qa, hqa⟩ : ∃ qa, w18.heap.size = qa := ⟨_, rfl⟩
      have A19 := Lib.hid (PtO.new w18 ax ay hqa.symm)
      have c3 := fun w h => iHasPoint_c adu cu U ax ay w h (by omega)
      have c4 := fun w h => sHasPoint_c adu cu U ax ay w h (by omega)
      generalize hasV U ⟨ax, ay⟩ = hv at c3 c4
      generalize hasK U ⟨ax, ay⟩ = hk at c3 c4
      have C3 := Lib.hid c3; have C4 := Lib.hid c4
      clear c3 c4 K17 G17 P17 R17 T17 hb17 hwA hA2 hru hul
      go_wp2_with fail
      generalize w18.alloc (.cells #[.int .i64 ax, .int .i64 ay] 30) = w19 at G19 P19 R19 T19 U19 A19 hb19 ⊢
      try rw [hqa]
      clear hqa hw18
      obtain ⟨z0, z1⟩ := A19.out.at
      refine (C3.out _ U19.out).mono ?_
      rintro e w20 ⟨rfl, hw20⟩
      have G20 := Lib.hid (G19.out.below hw20); have P20 := Lib.hid (P19.out.below hw20); have R20 := Lib.hid (R19.out.below hw20); have T20 := Lib.hid (T19.out.below hw20); have U20 := Lib.hid (U19.out.below hw20); have A20 := Lib.hid (A19.out.below hw20)
      have hb20 := ball hb19 hw20
      clear G19 P19 R19 T19 U19 A19 hb19 hw20 z0 z1 C3
      obtain ⟨z0, z1⟩ := A20.out.at
      go_wp2_with fail
      refine (C4.out _ U20.out).mono ?_
      rintro e w21 ⟨rfl, hw21⟩
      have G21 := Lib.hid (G20.out.below hw21); have P21 := Lib.hid (P20.out.below hw21); have R21 := Lib.hid (R20.out.below hw21); have T21 := Lib.hid (T20.out.below hw21)
      have hb21 := ball hb20 hw21
      clear G20 P20 R20 T20 U20 A20 hb20 hw21 z0 z1 C4
      have f1 := fun w h => iIsPol_c adg cg G w h (by omega)
      have f2 := fun w h => sIsPol_c adg cg G w h (by omega)
      have f3 := fun w => iIsPoint_c px py w
      have f4 := fun w => sIsPoint_c px py w
      have f5 := fun w h1 h2 => qP_c adr adt cr ct R w h1 h2 (by have := HPL.out; omega)
      generalize polyB G = pg at f1 f2
      generalize ptB ⟨px, py⟩ = pp at f3 f4
      have i1 : (pg == pg) = true := beq_self_eq_true pg
      have i2 : (pp == pp) = true := beq_self_eq_true pp
      have i3 : (pb == pb) = true := beq_self_eq_true pb
      have i4 : (hk == hk) = true := beq_self_eq_true hk
      have i5 : (hv == hv) = true := beq_self_eq_true hv
      have F1 := Lib.hid f1; have F2 := Lib.hid f2; have F3 := Lib.hid f3; have F4 := Lib.hid f4; have F5 := Lib.hid f5
      clear f1 f2 f3 f4 f5 hgl
      obtain ⟨z0, z1⟩ := P21.out.at
      have hql := P21.out.lt
      have G22 := Lib.hid (G21.out.below (Below.refl _ _).drew); have R22 := Lib.hid (R21.out.below (Below.refl _ _).drew); have T22 := Lib.hid (T21.out.below (Below.refl _ _).drew)
      have hb22 := hb21.drew
      clear G21 R21 T21 P21
      go_wp2_with fail
      go_region_held3 (fun w' => w'.cell? ⟨q, 0, none⟩ = some (.int .i64 px) ∧ w'.cell? ⟨q, 1, none⟩ = some (.int .i64 py)) (exact ⟨by assumption, by assumption⟩)
        (first
          | (go_at_call 8; (with_reducible refine (F1.out _ G22.out).mono ?_); rintro e W1 ⟨rfl, hw1⟩; have r0 := bcell hw1 hql z0; have r1 := bcell hw1 hql z1; have n1 := Nat.lt_of_lt_of_le hql hw1.size; have G23 := Lib.hid (G22.out.below hw1); have R23 := Lib.hid (R22.out.below hw1); have T23 := Lib.hid (T22.out.below hw1); have B1 := Lib.hid (ball hb22 hw1))
          | (go_at_call 22; (with_reducible refine (F2.out _ G23.out).mono ?_); rintro e W2 ⟨rfl, hw2⟩; have r2 := bcell hw2 n1 r0; have r3 := bcell hw2 n1 r1; have n2 := Nat.lt_of_lt_of_le n1 hw2.size; have R24 := Lib.hid (R23.out.below hw2); have T24 := Lib.hid (T23.out.below hw2); have B2 := Lib.hid (ball B1.out hw2))
          | (go_at_call 10; (with_reducible refine (F3.out _).mono ?_); rintro e W3 ⟨rfl, hw3⟩; have r4 := bcell hw3 n2 r2; have r5 := bcell hw3 n2 r3; have n3 := Nat.lt_of_lt_of_le n2 hw3.size; have R25 := Lib.hid (R24.out.below hw3); have T25 := Lib.hid (T24.out.below hw3); have B3 := Lib.hid (ball B2.out hw3))
          | (go_at_call 23; (with_reducible refine (F4.out _).mono ?_); rintro e W4 ⟨rfl, hw4⟩; have r6 := bcell hw4 n3 r4; have r7 := bcell hw4 n3 r5; have n4 := Nat.lt_of_lt_of_le n3 hw4.size; have R26 := Lib.hid (R25.out.below hw4); have T26 := Lib.hid (T25.out.below hw4); have B4 := Lib.hid (ball B3.out hw4))
          | (go_at_call 7; (with_reducible refine (F5.out _ R26.out T26.out).mono ?_); rintro e W5 ⟨rfl, hw5⟩; have r8 := bcell hw5 n4 r6; have r9 := bcell hw5 n4 r7; have B5 := Lib.hid (ball B4.out hw5)))
      go_wp2_with fail
      go_ret
      exact ⟨rfl, B5.out⟩
end Go.Proofs.YtnapcjfemlhkmaaGreatDoor
