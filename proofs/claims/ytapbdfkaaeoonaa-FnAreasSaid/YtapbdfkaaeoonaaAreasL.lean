/-
  The walk of 'laws.FnAreas': it returns true. By an AI agent.
-/
import Derived.Test.YtapbdfkaaeoonaaArD
import Derived.Test.YtapbdfkaaeoonaaArI
import Derived.Deep.DeepCutAuto
import Derived.Deep.QuietTactic
namespace Go.Proofs.Ytapbdfkaaeoonaa
open Go.RowKit

theorem smL_len (a b : List Pt) : (smL a b).length ≤ 6400 := by
  unfold smL
  split
  · rename_i h
    obtain ⟨ha, hb, _⟩ := smB_parts h
    exact (sumH_sh (polyB_pts ha) (polyB_pts hb)).2
  · simp
theorem qP_c (ad ad2 : Option Addr) (cap cap2 : Nat) (X : List Pt) (w : World) (h1 : RdP w ad X) (h2 : RdP w ad2 X) (hl : X.length ≤ 100000) :
    Calls Try.prog 9 #[.slice ad X.length cap, .slice ad2 X.length cap2] w fun e w' => e = .returned (.bool true) ∧ Below w.heap.size w w' := by
  have := qPoints_c ad ad2 cap cap2 X X w h1 h2 hl hl
  rwa [decide_eq_true rfl] at this
structure MixG (a b X : List Pt) (M A B : Int) : Prop where
  back : mixV b a = .tuple #[.int .i64 M, .bool true]
  da : daV a = .tuple #[.int .i64 A, .bool true]
  db : daV b = .tuple #[.int .i64 B, .bool true]
  ds : daV X = .tuple #[.int .i64 (A + B + 2 * M), .bool true]
  pos : 0 ≤ M
  ba : -10000000000000000 ≤ A ∧ A ≤ 10000000000000000
  bb : -10000000000000000 ≤ B ∧ B ≤ 10000000000000000
  bs : -10000000000000000 ≤ A + B + 2 * M ∧ A + B + 2 * M ≤ 10000000000000000
theorem mixG {a b X : List Pt} {M : Int} (h : smB a b = true) (hM : (if smB a b = true then mixZ a b else 0) = M) (hX : smL a b = X) : ∃ A B, MixG a b X M A B := by
  obtain ⟨ha, hb, hs⟩ := smB_parts h
  rw [if_pos h] at hM
  unfold smL at hX
  rw [if_pos h] at hX
  obtain ⟨h1, h2⟩ := mix_law h
  obtain ⟨h3, h4⟩ := mixV_comm a b h
  obtain ⟨_, a2, ash⟩ := ptsB_t (polyB_pts ha)
  obtain ⟨_, b2, bsh⟩ := ptsB_t (polyB_pts hb)
  obtain ⟨ssh, sl⟩ := sumH_sh (polyB_pts ha) (polyB_pts hb)
  have k1 := areaP_b ash (by omega)
  have k2 := areaP_b bsh (by omega)
  have k3 := areaP_b ssh (by omega)
  rw [h1] at k3
  subst hM; subst hX
  refine ⟨areaP a, areaP b, ?_, ?_, ?_, ?_, h2, k1, k2, k3⟩
  · unfold mixV; rw [h3, h4, if_pos rfl]
  · unfold daV; rw [ha, if_pos rfl]
  · unfold daV; rw [hb, if_pos rfl]
  · unfold daV; rw [sumH_poly, hs, if_pos rfl, h1]
theorem area_if {l : List Pt} {D I B : Int} (hp : polyB l = true) (hD : (if polyB l = true then areaP l else 0) = D) (hI : (if polyB l = true then innP l else 0) = I) (hB : (if polyB l = true then bndP l else 0) = B) : (2 < l.length → D = 2 * I + B - 2) ∧ (-1000000000000000000 ≤ I ∧ I ≤ 1000000000000000000) ∧ -1000000000000000000 ≤ B ∧ B ≤ 1000000000000000000 := by
  rw [if_pos hp] at hD hI hB
  obtain ⟨h1, h2, hs⟩ := ptsB_t (polyB_pts hp)
  have k1 := areaP_b hs (by omega)
  have k2 := bndP_b hs (by omega) (by omega)
  subst hD; subst hI; subst hB
  refine ⟨fun h => area_bnd l (by omega), ?_, by omega⟩
  by_cases h3 : 3 ≤ l.length
  · have := area_bnd l h3; omega
  · unfold innP; rw [if_pos (by omega)]; omega

set_option maxHeartbeats 64000000 in
set_option maxRecDepth 100000 in
theorem lawAreas_any (ad0 : Option Addr) (n0 cap0 : Nat) (ad1 : Option Addr) (n1 cap1 : Nat) (w : World) (hm0 : n0 ≤ 9223372036854775807) (hr0 : RdB w ad0 n0) (hm1 : n1 ≤ 9223372036854775807) (hr1 : RdB w ad1 n1) :
    Calls Try.prog 3 #[.slice ad0 n0 cap0, .slice ad1 n1 cap1] w fun e w' => e = .returned (.bool true) ∧ Below w.heap.size w w' := by
  have bw0 := Below.refl w.heap.size w
  have HB0 := Lib.hid hr0; have HB1 := Lib.hid hr1; clear hr0 hr1
  obtain ⟨tb, htb⟩ : ∃ tb : Bool, decide (1048576 < wrap64 ((n0 : Int) + (n1 : Int))) = tb := ⟨_, rfl⟩
  cases tb
  case true =>
    go_enter Try.func3, Try.ntmps3
    go_wp2_with fail
    go_ret
    exact ⟨rfl, bw0⟩
  case false =>
    go_enter Try.func3, Try.ntmps3
    go_wp2_with fail
    refine (drawMixed_c ad0 n0 cap0 _ hm0 HB0.out).mono ?_
    rintro e w1 ⟨ada, ca, a, adb, cb, b, rfl, hal, hbl, hra, hrb, hw1⟩
    have RA := Lib.hid hra; have RB := Lib.hid hrb; have K1 := Lib.hid (HB1.out.below hw1)
    clear hra hrb htb HB0 HB1 bw0
    obtain ⟨u, hu⟩ : ∃ u, smB a b = u := ⟨_, rfl⟩
    obtain ⟨M, hM⟩ : ∃ M, (if smB a b = true then mixZ a b else 0) = M := ⟨_, rfl⟩
    obtain ⟨X, hX⟩ : ∃ X, smL a b = X := ⟨_, rfl⟩
    have hv : mixV a b = .tuple #[.int .i64 M, .bool u] := by unfold mixV; rw [hM, hu]
    have c1 := fun w h1 h2 => iMixed_c ada adb ca cb a b w h1 h2 (by omega) (by omega)
    have c2 := fun w h1 h2 => sMixed_c ada adb ca cb a b w h1 h2 (by omega) (by omega)
    have c3 := fun w h1 h2 => iSumOf_c ada adb ca cb a b w h1 h2 (by omega) (by omega)
    have c4 := fun w h1 h2 => sSumOf_c ada adb ca cb a b w h1 h2 (by omega) (by omega)
    have hxl := smL_len a b
    rw [hv] at c1 c2
    rw [hX, hu] at c3 c4
    rw [hX] at hxl
    have HG := Lib.hid (fun (h : u = true) => mixG (a := a) (b := b) (by rw [hu]; exact h) hM hX)
    have HXL := Lib.hid hxl
    have C1 := Lib.hid c1; have C2 := Lib.hid c2; have C3 := Lib.hid c3; have C4 := Lib.hid c4
    have HAL := Lib.hid hal; have HBL := Lib.hid hbl
    clear c1 c2 c3 c4 hu hM hX hv hxl hal hbl
    go_wp2_with fail
    refine (C1.out _ RA.out RB.out).mono ?_
    rintro e w2 ⟨rfl, hw2⟩
    have RA2 := Lib.hid (RA.out.below hw2); have RB2 := Lib.hid (RB.out.below hw2); have K2 := Lib.hid (K1.out.below hw2)
    have hb2 := ball hw1 hw2
    clear RA RB K1 hw1 hw2 C1
    go_wp2_with fail
    refine (C2.out _ RA2.out RB2.out).mono ?_
    rintro e w3 ⟨rfl, hw3⟩
    have RA3 := Lib.hid (RA2.out.below hw3); have RB3 := Lib.hid (RB2.out.below hw3); have K3 := Lib.hid (K2.out.below hw3)
    have hb3 := ball hb2 hw3
    clear RA2 RB2 K2 hb2 hw3 C2
    go_wp2_with fail
    refine (C3.out _ RA3.out RB3.out).mono ?_
    rintro e w4 ⟨adx, cx, rfl, hx, hw4⟩
    have RA4 := Lib.hid (RA3.out.below hw4); have RB4 := Lib.hid (RB3.out.below hw4); have K4 := Lib.hid (K3.out.below hw4)
    have X4 := Lib.hid hx
    have hb4 := ball hb3 hw4
    clear RA3 RB3 K3 hb3 hw4 C3 hx
    go_wp2_with fail
    refine (C4.out _ RA4.out RB4.out).mono ?_
    rintro e w5 ⟨ady, cy, rfl, hy, hw5⟩
    have RA5 := Lib.hid (RA4.out.below hw5); have RB5 := Lib.hid (RB4.out.below hw5); have K5 := Lib.hid (K4.out.below hw5)
    have X5 := Lib.hid (X4.out.below hw5); have Y5 := Lib.hid hy
    have hb5 := ball hb4 hw5
    clear RA4 RB4 K4 hb4 hw5 C4 hy X4
    have ee : (u != u) = false := bne_self_eq_false u
    have CQ := Lib.hid (qP_c adx ady cx cy X w5 X5.out Y5.out (by have := HXL.out; omega))
    go_wp2_with fail
    refine CQ.out.mono ?_
    rintro e w6 ⟨rfl, hw6⟩
    have RA6 := Lib.hid (RA5.out.below hw6); have RB6 := Lib.hid (RB5.out.below hw6); have K6 := Lib.hid (K5.out.below hw6)
    have X6 := Lib.hid (X5.out.below hw6)
    have hb6 := ball hb5 hw6
    clear RA5 RB5 K5 hb5 hw6 X5 Y5 CQ
    go_upto_if 105 with fail
    go_cut [] from 105 to 105 (fun wc => Below w6.heap.size w6 wc)
    case first =>
      have bwq := Below.refl w6.heap.size w6
      cases u
      case false =>
        go_wp2_with fail
        go_meet
        exact bwq
      case true =>
        obtain ⟨A, B, g⟩ := HG.out rfl
        have d1 := fun w h1 h2 => iMixed_c adb ada cb ca b a w h1 h2 (by have := HBL.out; omega) (by have := HAL.out; omega)
        have d2 := fun w h => iDoubleArea_c adx cx X w h (by have := HXL.out; omega)
        have d3 := fun w h => sDoubleArea_c ada ca a w h (by have := HAL.out; omega)
        have d4 := fun w h => sDoubleArea_c adb cb b w h (by have := HBL.out; omega)
        rw [g.back] at d1
        rw [g.ds] at d2
        rw [g.da] at d3
        rw [g.db] at d4
        have hpos := g.pos; have ba := g.ba; have bb := g.bb; have bs := g.bs
        have v1 : IntKind.i64.wrap (A + B) = A + B := i64_small (by omega) (by omega)
        have v2 : IntKind.i64.wrap (2 * M) = 2 * M := i64_small (by omega) (by omega)
        have v3 : IntKind.i64.wrap (A + B + 2 * M) = A + B + 2 * M := i64_small (by omega) (by omega)
        have v4 : ¬ M < 0 := by omega
        have v5 : decide (M < 0) = false := decide_eq_false v4
        have D1 := Lib.hid d1; have D2 := Lib.hid d2; have D3 := Lib.hid d3; have D4 := Lib.hid d4
        clear d1 d2 d3 d4 g HG ba bb bs
        go_wp2_with fail
        refine (D1.out _ RB6.out RA6.out).mono ?_
        rintro e w7 ⟨rfl, hw7⟩
        have RA7 := Lib.hid (RA6.out.below hw7); have RB7 := Lib.hid (RB6.out.below hw7); have X7 := Lib.hid (X6.out.below hw7)
        have b7 := hw7
        go_wp2_with fail
        refine (D2.out _ X7.out).mono ?_
        rintro e w8 ⟨rfl, hw8⟩
        have RA8 := Lib.hid (RA7.out.below hw8); have RB8 := Lib.hid (RB7.out.below hw8)
        have b8 := ball b7 hw8
        go_wp2_with fail
        refine (D3.out _ RA8.out).mono ?_
        rintro e w9 ⟨rfl, hw9⟩
        have RB9 := Lib.hid (RB8.out.below hw9)
        have b9 := ball b8 hw9
        go_wp2_with fail
        refine (D4.out _ RB9.out).mono ?_
        rintro e w10 ⟨rfl, hw10⟩
        have b10 := ball b9 hw10
        go_wp2_with fail
        go_meet
        exact b10
    case rest =>
      obtain ⟨w11, rfl⟩ : ∃ x : World, x = wc := ⟨_, rfl⟩
      have K11 := Lib.hid (K6.out.below hcut)
      have hb11 := ball hb6 hcut
      clear K6 hb6 hcut RA6 RB6 X6 HG HXL HAL HBL
      go_wp2_with fail
      refine (drawDoubleArea_c ad1 n1 cap1 _ hm1 K11.out).mono ?_
      rintro e w12 ⟨adl, cl, l, rfl, hll, hrl, hw12⟩
      have L12 := Lib.hid hrl; have K12 := Lib.hid (K11.out.below hw12)
      have hb12 := ball hb11 hw12
      clear hrl K11 hb11 hw12
      obtain ⟨P, hP⟩ : ∃ P, polyB l = P := ⟨_, rfl⟩
      obtain ⟨D, hD⟩ : ∃ D, (if polyB l = true then areaP l else 0) = D := ⟨_, rfl⟩
      obtain ⟨I, hI⟩ : ∃ I, (if polyB l = true then innP l else 0) = I := ⟨_, rfl⟩
      obtain ⟨B, hB⟩ : ∃ B, (if polyB l = true then bndP l else 0) = B := ⟨_, rfl⟩
      have e1 : daV l = .tuple #[.int .i64 D, .bool P] := by unfold daV; rw [hD, hP]
      have e2 : bpV l = .tuple #[.int .i64 B, .bool P] := by unfold bpV; rw [hB, hP]
      have e3 : ipV l = .tuple #[.int .i64 I, .bool P] := by unfold ipV; rw [hI, hP]
      have c1 := fun w h => iDoubleArea_c adl cl l w h (by omega)
      have c2 := fun w h => sDoubleArea_c adl cl l w h (by omega)
      have c3 := fun w h => iBoundaryPoints_c adl cl l w h (by omega)
      have c4 := fun w h => sBoundaryPoints_c adl cl l w h (by omega)
      have c5 := fun w h => iInnerPoints_c adl cl l w h (by omega)
      have c6 := fun w h => sInnerPoints_c adl cl l w h (by omega)
      have c7 := fun w h => iIsPolygon_c adl cl l w h (by omega)
      rw [e1] at c1 c2
      rw [e2] at c3 c4
      rw [e3] at c5 c6
      rw [hP] at c7
      have HA := Lib.hid (fun (h : P = true) => area_if (by rw [hP]; exact h) hD hI hB)
      have C1 := Lib.hid c1; have C2 := Lib.hid c2; have C3 := Lib.hid c3; have C4 := Lib.hid c4; have C5 := Lib.hid c5; have C6 := Lib.hid c6; have C7 := Lib.hid c7
      clear c1 c2 c3 c4 c5 c6 c7 e1 e2 e3 hP hD hI hB
      have ee2 : (P != P) = false := bne_self_eq_false P
      go_wp2_with fail
      refine (C1.out _ L12.out).mono ?_
      rintro e w13 ⟨rfl, hw13⟩
      have L13 := Lib.hid (L12.out.below hw13); have K13 := Lib.hid (K12.out.below hw13)
      have hb13 := ball hb12 hw13
      clear L12 K12 hb12 hw13
      go_wp2_with fail
      refine (C2.out _ L13.out).mono ?_
      rintro e w14 ⟨rfl, hw14⟩
      have L14 := Lib.hid (L13.out.below hw14); have K14 := Lib.hid (K13.out.below hw14)
      have hb14 := ball hb13 hw14
      clear L13 K13 hb13 hw14
      go_wp2_with fail
      refine (C3.out _ L14.out).mono ?_
      rintro e w15 ⟨rfl, hw15⟩
      have L15 := Lib.hid (L14.out.below hw15); have K15 := Lib.hid (K14.out.below hw15)
      have hb15 := ball hb14 hw15
      clear L14 K14 hb14 hw15
      go_wp2_with fail
      refine (C4.out _ L15.out).mono ?_
      rintro e w16 ⟨rfl, hw16⟩
      have L16 := Lib.hid (L15.out.below hw16); have K16 := Lib.hid (K15.out.below hw16)
      have hb16 := ball hb15 hw16
      clear L15 K15 hb15 hw16
      go_wp2_with fail
      refine (C5.out _ L16.out).mono ?_
      rintro e w17 ⟨rfl, hw17⟩
      have L17 := Lib.hid (L16.out.below hw17); have K17 := Lib.hid (K16.out.below hw17)
      have hb17 := ball hb16 hw17
      clear L16 K16 hb16 hw17
      go_wp2_with fail
      refine (C6.out _ L17.out).mono ?_
      rintro e w18 ⟨rfl, hw18⟩
      have L18 := Lib.hid (L17.out.below hw18); have K18 := Lib.hid (K17.out.below hw18)
      have hb18 := ball hb17 hw18
      clear L17 K17 hb17 hw18
      go_wp2_with fail
      refine (C7.out _ L18.out).mono ?_
      rintro e w19 ⟨rfl, hw19⟩
      have L19 := Lib.hid (L18.out.below hw19); have K19 := Lib.hid (K18.out.below hw19)
      have hb19 := ball hb18 hw19
      clear L18 K18 hb18 hw19
      go_upto_region 26 with fail
      go_cut [250] from 236 to 250 (fun s wc => s = .bool false ∧ Below w19.heap.size w19 wc)
      case first =>
        cases P
        case false =>
          go_wp2_with fail
          go_meet
          exact ⟨rfl, Below.refl _ _⟩
        case true =>
          obtain ⟨h1, h2, h3⟩ := HA.out rfl
          by_cases h4 : 2 < l.length
          case neg =>
            have g1 : decide ((2 : Int) < (l.length : Int)) = false := decide_eq_false (by omega)
            go_wp2_with fail
            go_meet
            exact ⟨rfl, Below.refl _ _⟩
          case pos =>
            have g1 : decide ((2 : Int) < (l.length : Int)) = true := decide_eq_true (by omega)
            have h5 := h1 h4
            subst h5
            have v1 : IntKind.i64.wrap (2 * I) = 2 * I := i64_small (by omega) (by omega)
            have v2 : IntKind.i64.wrap (2 * I + B) = 2 * I + B := i64_small (by omega) (by omega)
            have v3 : IntKind.i64.wrap (2 * I + B - 2) = 2 * I + B - 2 := i64_small (by omega) (by omega)
            clear h1 h2 h3 h4
            go_wp2_with fail
            go_meet
            exact ⟨rfl, Below.refl _ _⟩
      case rest =>
        obtain ⟨rfl, hcut⟩ := hcut
        obtain ⟨w20, rfl⟩ : ∃ x : World, x = wc := ⟨_, rfl⟩
        have K20 := Lib.hid (K19.out.below hcut)
        have hb20 := ball hb19 hcut
        clear hcut K19 hb19 HA C1 C2 C3 C4 C5 C6 C7
        go_wp2_with fail
        refine (drawWidth_c ad1 n1 cap1 _ hm1 K20.out).mono ?_
        rintro e w21 ⟨adu, cu, U, ex, ey, rfl, hul, hru, hw21⟩
        have hb21 := ball hb20 hw21
        have pW := Own.newA w21 #[.int .i64 ex, .int .i64 ey] 35 (cs := [.int .i64 ex, .int .i64 ey]) rfl
        have bW := (Below.refl w21.heap.size w21).alloc (Nat.le_refl _) (.cells #[.int .i64 ex, .int .i64 ey] 35)
        have U21 := Lib.hid (hru.below bW)
        have hb22 := ball hb21 bW
        clear hru hw21 hb20 hb21 K20
        obtain ⟨Q, hQ⟩ : ∃ Q, wdB U ⟨ex, ey⟩ = Q := ⟨_, rfl⟩
        obtain ⟨Z, hZ⟩ : ∃ Z, (if wdB U ⟨ex, ey⟩ = true then wdZ U ⟨ex, ey⟩ else 0) = Z := ⟨_, rfl⟩
        have e1 : wdV U ⟨ex, ey⟩ = .tuple #[.int .i64 Z, .bool Q] := by unfold wdV; rw [hZ, hQ]
        have c1 := fun w h => iWidth_c adu cu U ex ey w h (by omega)
        have c2 := fun w h => sWidth_c adu cu U ex ey w h (by omega)
        rw [e1] at c1 c2
        have hZ2 := Lib.hid (fun (h : Q = true) => show polyB U = true ∧ ptB ⟨ex, ey⟩ = true ∧ Z = wdZ U ⟨ex, ey⟩ by
          rw [← hQ] at h
          rw [if_pos h] at hZ
          unfold wdB at h
          rw [Bool.and_eq_true_iff] at h
          exact ⟨h.1, h.2, hZ.symm⟩)
        have C1 := Lib.hid c1; have C2 := Lib.hid c2
        clear c1 c2 e1 hQ hZ
        go_upto_region 29 with fail
        obtain ⟨N, hN⟩ : ∃ N, w21.heap.size = N := ⟨_, rfl⟩
        generalize hWW : w21.alloc (.cells #[.int .i64 ex, .int .i64 ey] 35) = W at pW U21 hb22 ⊢
        rw [hN] at pW ⊢
        clear hWW bW hN
        have p0 := Own.cell? pW (i := 0) rfl
        have p1 := Own.cell? pW (i := 1) rfl
        go_wp2_with fail
        refine (C1.out _ U21.out).mono ?_
        rintro e w23 ⟨rfl, hw23⟩
        have U23 := Lib.hid (U21.out.below hw23)
        have p23 := Own.belowAll pW hw23
        have hb23 := ball hb22 hw23
        clear p0 p1 pW U21 hb22 hw23
        have p0 := Own.cell? p23 (i := 0) rfl
        have p1 := Own.cell? p23 (i := 1) rfl
        go_wp2_with fail
        refine (C2.out _ U23.out).mono ?_
        rintro e w24 ⟨rfl, hw24⟩
        have U24 := Lib.hid (U23.out.below hw24)
        have p24 := Own.belowAll p23 hw24
        have hb24 := ball hb23 hw24
        clear p0 p1 p23 U23 hb23 hw24
        cases Q
        case false =>
          go_wp2_with fail
          go_ret
          exact ⟨rfl, hb24⟩
        case true =>
          obtain ⟨hpu, hpe, rfl⟩ := hZ2.out rfl
          have hz0 := wd_nonneg ⟨ex, ey⟩ hpu
          have hzb : wdZ U ⟨ex, ey⟩ ≤ 40000 := by
            have hf : ∀ p, p ∈ U → -20000 ≤ hgtD ⟨ex, ey⟩ p ∧ hgtD ⟨ex, ey⟩ p ≤ 20000 := fun p hp => (hgt_b hpe (ptB_bd (ptsB_mem (polyB_pts hpu) hp))).2.2
            have n0 := (ptsB_t (polyB_pts hpu)).1
            obtain ⟨i1, hi1, f1⟩ := mxS_at (fun j => hgtD ⟨ex, ey⟩ (U.getD j default)) U.length n0
            obtain ⟨i2, hi2, f2⟩ := mnS_at (fun j => hgtD ⟨ex, ey⟩ (U.getD j default)) U.length n0
            have := hf _ (getD_memW hi1)
            have := hf _ (getD_memW hi2)
            unfold wdZ
            omega
          obtain ⟨u2, hu2⟩ : ∃ u2, smB U U = u2 := ⟨_, rfl⟩
          obtain ⟨X2, hX2⟩ : ∃ X2, smL U U = X2 := ⟨_, rfl⟩
          have hxl := smL_len U U
          have c3 := fun w h1 h2 => iSumOf_c adu adu cu cu U U w h1 h2 (by omega) (by omega)
          rw [hX2, hu2] at c3
          rw [hX2] at hxl
          have hwd := Lib.hid (fun (h : u2 = true) => show wdV X2 ⟨ex, ey⟩ = .tuple #[.int .i64 (2 * wdZ U ⟨ex, ey⟩), .bool true] by
            rw [← hu2] at h
            unfold smL at hX2
            rw [if_pos h] at hX2
            subst hX2
            have hb : wdB (sumH U U) ⟨ex, ey⟩ = true := by unfold wdB; rw [sumH_poly, (smB_parts h).2.2, hpe]; rfl
            unfold wdV
            rw [hb, if_pos rfl, wd_twice _ h])
          generalize wdZ U ⟨ex, ey⟩ = Z at hz0 hzb hwd ⊢
          have v4 : ¬ Z < 0 := by omega
          have v5 : decide (Z < 0) = false := decide_eq_false v4
          have v6 : IntKind.i64.wrap (2 * Z) = 2 * Z := i64_small (by omega) (by omega)
          have C3 := Lib.hid c3
          clear c3 hu2 hX2 hz0 hzb C1 C2 hZ2
          go_wp2_with fail
          refine (C3.out _ U24.out U24.out).mono ?_
          rintro e w25 ⟨ad3, c3, rfl, hr3, hw25⟩
          have p25 := Own.belowAll p24 hw25
          have R3 := Lib.hid hr3
          have hb25 := ball hb24 hw25
          clear hr3 hw25 p24 hb24
          cases u2
          case false =>
            go_wp2_with fail
            go_ret
            exact ⟨rfl, hb25⟩
          case true =>
            have c4 := iWidth_c ad3 c3 X2 ex ey w25 R3.out (by omega)
            rw [hwd.out rfl] at c4
            have C4 := Lib.hid c4
            have p0 := Own.cell? p25 (i := 0) rfl
            have p1 := Own.cell? p25 (i := 1) rfl
            clear c4
            go_wp2_with fail
            refine C4.out.mono ?_
            rintro e w26 ⟨rfl, hw26⟩
            have hb26 := ball hb25 hw26
            go_wp2_with fail
            go_ret
            exact ⟨rfl, hb26⟩
end Go.Proofs.Ytapbdfkaaeoonaa
