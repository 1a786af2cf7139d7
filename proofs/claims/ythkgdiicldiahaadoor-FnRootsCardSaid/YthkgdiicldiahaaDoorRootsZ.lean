/-
  The walk of 'laws.FnRoots': it returns true. Printed by gen_lawT.py.
-/
import Derived.Test.YthkgdiicldiahaaDoorRtQ
import Derived.Test.YthkgdiicldiahaaDoorRtV
import Derived.Test.YthkgdiicldiahaaDoorRtE
import Derived.Deep.DeepCutAuto
import Derived.Deep.QuietTactic
namespace Go.Proofs.YthkgdiicldiahaaDoor
open Go.RowKit

set_option maxHeartbeats 64000000 in
set_option maxRecDepth 100000 in
theorem lawRoots_any (ad0 : Option Addr) (n0 cap0 : Nat) (ad1 : Option Addr) (n1 cap1 : Nat) (w : World) (hm0 : n0 ≤ 9223372036854775807) (hr0 : RdB w ad0 n0) (hm1 : n1 ≤ 9223372036854775807) (hr1 : RdB w ad1 n1) (hls : LaidT w) :
    Calls Tryd.prog 3 #[.slice ad0 n0 cap0, .slice ad1 n1 cap1] w fun e w' => e = .returned (.bool true) ∧ Below w.heap.size w w' := by
  have bw0 := Below.refl w.heap.size w
  have K1 := Lib.hid hr0; clear hr0
  have K2 := Lib.hid hr1; clear hr1
  have K3 := Lib.hid hls; clear hls
  obtain ⟨tb, htb⟩ : ∃ tb : Bool, decide (1048576 < wrap64 ((n0 : Int) + (n1 : Int))) = tb := ⟨_, rfl⟩
  cases tb
  case true =>
    go_enter Tryd.func3, Tryd.ntmps3
    go_wp2_with fail
    go_ret
    exact ⟨rfl, bw0⟩
  case false =>
    go_enter Tryd.func3, Tryd.ntmps3
    go_wp2_with fail
    refine (drawRootsOf_c ad0 n0 cap0 _ hm0 K1.out).mono ?_
    rintro e w4 ⟨vp, p, rfl, hlp, hrow, hb5⟩
    have K6 := Lib.hid (K1.out.below hb5); clear K1
    have K7 := Lib.hid (K2.out.below hb5); clear K2
    have K8 := Lib.hid (K3.out.below hb5); clear K3
    have bw9 := ball bw0 hb5
    clear bw0
    clear hb5
    obtain ⟨adp, capp, rfl, hrp⟩ := hrow.shape
    clear hrow
    have K10 := Lib.hid hrp; clear hrp
    have c1 := fun w hr => iRootsOf_c adp capp p w hr (by omega)
    have c2 := fun w hr => sRootsOf_c adp capp p w hr (by omega)
    have c3 := fun w hr => iCornersOf_c adp capp p w hr (by omega)
    have c4 := fun w hr => sCornersOf_c adp capp p w hr (by omega)
    have c5 := fun w hr hL => iRootsText_c adp capp p w hr (by omega) hL
    have c6 := fun w hr => sRootsText_c adp capp p w hr (by omega)
    have c7 := fun f w hr => iTimesOfRoot_c adp capp p f w hr (by omega)
    have h12 : (if polyB p = true then rootsP p else []).length ≤ 12 := by
      split
      · exact (root_facts (by assumption)).1
      · simp
    have h13 : (if polyB p = true then natL (corP p) else []).length ≤ 13 := by
      split
      · rw [natL_len]; exact (cor_facts (by assumption)).2.1
      · simp
    obtain ⟨RL, hRL⟩ : ∃ RL, (if polyB p = true then rootsP p else []) = RL := ⟨_, rfl⟩
    obtain ⟨CL, hCL⟩ : ∃ CL, (if polyB p = true then natL (corP p) else []) = CL := ⟨_, rfl⟩
    rw [hRL] at h12
    rw [hCL] at h13
    simp only [hRL] at c1 c2
    simp only [hCL] at c3 c4
    generalize (⟨(if polyB p = true then textP (rootsP p) else []).toArray⟩ : ByteArray) = T at c5 c6
    obtain ⟨u, hu⟩ : ∃ u, polyB p = u := ⟨_, rfl⟩
    simp only [hu] at c1 c2 c3 c4 c5 c6 c7
    have HU := Lib.hid hu; have HRL := Lib.hid hRL; have HCL := Lib.hid hCL; clear hu hRL hCL
    
    have C1 := Lib.hid c1; clear c1
    have C2 := Lib.hid c2; clear c2
    have C3 := Lib.hid c3; clear c3
    have C4 := Lib.hid c4; clear c4
    have C5 := Lib.hid c5; clear c5
    have C6 := Lib.hid c6; clear c6
    have C7 := Lib.hid c7; clear c7
    go_wp2_with fail
    refine (C1.out _ K10.out).mono ?_
    rintro e w11 ⟨v1, rfl, hrow, hb12⟩
    have K13 := Lib.hid (K6.out.below hb12); clear K6
    have K14 := Lib.hid (K7.out.below hb12); clear K7
    have K15 := Lib.hid (K8.out.below hb12); clear K8
    have K16 := Lib.hid (K10.out.below hb12); clear K10
    have bw17 := ball bw9 hb12
    clear bw9
    clear hb12
    obtain ⟨a1, k1, rfl, -, -⟩ := hrow.shape
    have hrd := hrow.rd
    clear hrow
    have K18 := Lib.hid hrd; clear hrd
    go_wp2_with fail
    refine (C2.out _ K16.out).mono ?_
    rintro e w19 ⟨v2, rfl, hrow, hb20⟩
    have K21 := Lib.hid (K13.out.below hb20); clear K13
    have K22 := Lib.hid (K14.out.below hb20); clear K14
    have K23 := Lib.hid (K15.out.below hb20); clear K15
    have K24 := Lib.hid (K16.out.below hb20); clear K16
    have K25 := Lib.hid (K18.out.below hb20); clear K18
    have bw26 := ball bw17 hb20
    clear bw17
    clear hb20
    obtain ⟨a2, k2, rfl, -, -⟩ := hrow.shape
    have hrd := hrow.rd
    clear hrow
    have K27 := Lib.hid hrd; clear hrd
    go_wp2_with fail
    refine (C3.out _ K24.out).mono ?_
    rintro e w28 ⟨v3, rfl, hrow, hb29⟩
    have K30 := Lib.hid (K21.out.below hb29); clear K21
    have K31 := Lib.hid (K22.out.below hb29); clear K22
    have K32 := Lib.hid (K23.out.below hb29); clear K23
    have K33 := Lib.hid (K24.out.below hb29); clear K24
    have K34 := Lib.hid (K25.out.below hb29); clear K25
    have K35 := Lib.hid (K27.out.below hb29); clear K27
    have bw36 := ball bw26 hb29
    clear bw26
    clear hb29
    obtain ⟨a3, k3, rfl, hrd⟩ := hrow.shape
    clear hrow
    have K37 := Lib.hid hrd; clear hrd
    go_wp2_with fail
    refine (C4.out _ K33.out).mono ?_
    rintro e w38 ⟨v4, rfl, hrow, hb39⟩
    have K40 := Lib.hid (K30.out.below hb39); clear K30
    have K41 := Lib.hid (K31.out.below hb39); clear K31
    have K42 := Lib.hid (K32.out.below hb39); clear K32
    have K43 := Lib.hid (K33.out.below hb39); clear K33
    have K44 := Lib.hid (K34.out.below hb39); clear K34
    have K45 := Lib.hid (K35.out.below hb39); clear K35
    have K46 := Lib.hid (K37.out.below hb39); clear K37
    have bw47 := ball bw36 hb39
    clear bw36
    clear hb39
    obtain ⟨a4, k4, rfl, hrd⟩ := hrow.shape
    clear hrow
    have K48 := Lib.hid hrd; clear hrd
    go_wp2_with fail
    refine (C5.out _ K43.out K42.out).mono ?_
    rintro e w49 ⟨rfl, hb50⟩
    have K51 := Lib.hid (K40.out.below hb50); clear K40
    have K52 := Lib.hid (K41.out.below hb50); clear K41
    have K53 := Lib.hid (K42.out.below hb50); clear K42
    have K54 := Lib.hid (K43.out.below hb50); clear K43
    have K55 := Lib.hid (K44.out.below hb50); clear K44
    have K56 := Lib.hid (K45.out.below hb50); clear K45
    have K57 := Lib.hid (K46.out.below hb50); clear K46
    have K58 := Lib.hid (K48.out.below hb50); clear K48
    have bw59 := ball bw47 hb50
    clear bw47
    clear hb50
    go_wp2_with fail
    refine (C6.out _ K54.out).mono ?_
    rintro e w60 ⟨rfl, hb61⟩
    have K62 := Lib.hid (K51.out.below hb61); clear K51
    have K63 := Lib.hid (K52.out.below hb61); clear K52
    have K64 := Lib.hid (K53.out.below hb61); clear K53
    have K65 := Lib.hid (K54.out.below hb61); clear K54
    have K66 := Lib.hid (K55.out.below hb61); clear K55
    have K67 := Lib.hid (K56.out.below hb61); clear K56
    have K68 := Lib.hid (K57.out.below hb61); clear K57
    have K69 := Lib.hid (K58.out.below hb61); clear K58
    have bw70 := ball bw59 hb61
    clear bw59
    clear hb61
    clear C1 C2 C3 C4 C5 C6
    go_wp2_with fail
    refine (qRoots_c a1 a2 k1 k2 RL _ (by omega) K66.out K67.out).mono ?_
    rintro e w71 ⟨rfl, hb72⟩
    have K73 := Lib.hid (K62.out.below hb72); clear K62
    have K74 := Lib.hid (K63.out.below hb72); clear K63
    have K75 := Lib.hid (K64.out.below hb72); clear K64
    have K76 := Lib.hid (K65.out.below hb72); clear K65
    have K77 := Lib.hid (K66.out.below hb72); clear K66
    have K78 := Lib.hid (K67.out.below hb72); clear K67
    have K79 := Lib.hid (K68.out.below hb72); clear K68
    have K80 := Lib.hid (K69.out.below hb72); clear K69
    have bw81 := ball bw70 hb72
    clear bw70
    clear hb72
    go_wp2_with fail
    refine (qIntsN_c a3 a4 k3 k4 CL _ (by omega) K79.out K80.out).mono ?_
    rintro e w82 ⟨rfl, hb83⟩
    have K84 := Lib.hid (K73.out.below hb83); clear K73
    have K85 := Lib.hid (K74.out.below hb83); clear K74
    have K86 := Lib.hid (K75.out.below hb83); clear K75
    have K87 := Lib.hid (K76.out.below hb83); clear K76
    have K88 := Lib.hid (K77.out.below hb83); clear K77
    have K89 := Lib.hid (K78.out.below hb83); clear K78
    have K90 := Lib.hid (K79.out.below hb83); clear K79
    have K91 := Lib.hid (K80.out.below hb83); clear K80
    have bw92 := ball bw81 hb83
    clear bw81
    clear hb83
    clear K84
    clear K88
    clear K90
    go_upto_if 117 with fail
    obtain ⟨m, hm⟩ : ∃ n, RL.length = n := ⟨_, rfl⟩
    obtain ⟨N, hN⟩ : ∃ n, CL.length = n := ⟨_, rfl⟩
    rw [hm, hN]
    have HMM := Lib.hid hm; have HNN := Lib.hid hN; clear hm hN
    go_cut [] from 117 to 117 (fun wc => Below w82.heap.size w82 wc)
    case first =>
      cases u
      case false =>
        go_wp2_with fail
        go_meet
        exact Below.refl _ _
      case true =>
        have hp := HU.out
        rw [if_pos hp] at HRL HCL
        obtain rfl : rootsP p = RL := HRL.out
        obtain rfl : natL (corP p) = CL := HCL.out
        clear HRL HCL
        obtain ⟨hst, htop, hlast, hstb, -⟩ := st_facts hp
        obtain ⟨hc1, hc13, -, -⟩ := cor_facts hp
        have hrl := rootsP_len p
        have hpl := (polyB_t hp).1
        have RF := Lib.hid (root_facts hp).2
        have RT := Lib.hid (fun (j : Nat) h => root_t hp (j := j) h)
        have RLT := Lib.hid (fun (j : Nat) h => root_lt hp (j := j) h)
        have RTM := Lib.hid (fun (j : Nat) h => root_times hp (j := j) h)
        have HSB := Lib.hid (fun (j : Nat) (h : j < (stP p).length) => show (stP p).getD j 0 < 13 by have := (hstb j h).1; omega)
        have c7 := fun f (hf : frB f = true) w hr => C7.out f w hr
        have C7b := Lib.hid (fun f (hf : frB f = true) (w : World) hr => by have h := C7.out f w hr; rw [hf, Bool.and_self, if_pos rfl] at h; exact h)
        clear c7 C7
        have HRM := Lib.hid (show (rootsP p).length = m from HMM.out)
        have HCM := Lib.hid (show (natL (corP p)).length = N from HNN.out)
        have hm : (corP p).length = m + 1 := by have := HRM.out; omega
        have hN : N = m + 1 := by rw [← HCM.out, natL_len]; exact hm
        have HSM := Lib.hid (show (stP p).length = m + 1 by omega)
        have HN := Lib.hid hN
        have hm12 : m ≤ 12 := by have := HRM.out; omega
        have HTOP := Lib.hid htop; have HLAST := Lib.hid hlast; have HM := Lib.hid hm; have HP := Lib.hid hp
        clear htop hlast hstb hst hc1 hc13 hrl hpl h12 h13 hm hp hN HMM HNN
        go_wp2_with fail
        go_loopw [18, 120] (fun s i wr => ∃ j : Nat, j ≤ m ∧ i = .int .i64 j ∧ s = .int .i64 (((stP p).getD 0 0 : Int) - ((stP p).getD j 0 : Int)) ∧ Below w82.heap.size w82 wr) (fun _ i _ => m - (intOf i).toNat)
        case atStart => exact ⟨0, Nat.zero_le _, rfl, by rw [Int.sub_self], Below.refl _ _⟩
        case round =>
          obtain ⟨wE, rfl⟩ : ∃ y : World, y = wr := ⟨_, rfl⟩
          obtain ⟨j, hj, rfl, rfl, hbw⟩ := hrel
          by_cases hlt : j < m
          case neg =>
            obtain rfl : j = m := by omega
            obtain ⟨bC, offC, rfl, hbC, e1⟩ := K91.out j (by have := HCM.out; have := HN.out; omega)
            have e2 := (K91.out).at (j := 0) (by have := HCM.out; have := HN.out; omega)
            have hlm := HM.out
            rw [natL_getD (by omega)] at e1 e2
            have ht := HTOP.out
            have hl := HLAST.out
            rw [hlm, Nat.add_sub_cancel] at ht
            rw [List.getLastD_eq_getLast?, List.getLast?_eq_getElem?, HSM.out, Nat.add_sub_cancel, ← List.getD_eq_getElem?_getD] at hl
            rw [ht] at e1
            rw [hl, Nat.add_zero] at e2
            have b1 := HSB.out 0 (by have := HSM.out; omega)
            have b2 := HSB.out j (by have := HSM.out; omega)
            generalize (stP p).getD 0 0 = sA at e1 b1 ⊢
            generalize (stP p).getD j 0 = sB at e2 b2 ⊢
            have k1 := bcell hbw hbC e1
            have k2 := bcell hbw hbC e2
            have hn := HN.out
            have f0 : ((N : Int) == 0) = false := beq_eq_false_iff_ne.2 (by omega)
            have f1 : (N : Int) - 1 = (j : Int) := by omega
            have f2 : IntKind.i64.wrap (j : Int) = (j : Int) := i64_small (by omega) (by omega)
            have f3 : (0 : Int) ≤ (j : Int) := by omega
            have f4 : (j : Int) < (N : Int) := by omega
            have f5 : (0 : Int) < (N : Int) := by omega
            have f6 : IntKind.i64.wrap ((sA : Int) - (sB : Int)) = (sA : Int) - (sB : Int) := i64_small (by omega) (by omega)
            clear e1 e2 ht hl hlm b1 b2 hlt hj hn
            go_wp2_with fail
            go_quiet (fail)
            go_wp2_with fail
            go_meet
            exact bdrewN hbw _
          case pos =>
            obtain ⟨bR, offR, rfl, hbR, c0, c1, c2⟩ := K89.out j (by have := HRM.out; omega)
            have hfg := (RF.out j (by have := HRM.out; omega)).1
            have ht1 := (RF.out j (by have := HRM.out; omega)).2.1
            have ht2 := (RF.out j (by have := HRM.out; omega)).2.2
            have htm := RTM.out j (by have := HRM.out; omega)
            have hrt := RT.out j (by have := HSM.out; omega)
            have ca := C7b.out _ hfg
            simp only [htm] at ca
            have b0 := HSB.out 0 (by have := HSM.out; omega)
            have b1 := HSB.out j (by have := HSM.out; omega)
            have b2 := HSB.out (j + 1) (by have := HSM.out; omega)
            have e0 := bcell hbw (p := ⟨bR, offR + j * 3, none⟩) hbR c0
            have e1 := bcell hbw (p := ⟨bR, offR + j * 3 + 1, none⟩) hbR c1
            have e2 := bcell hbw (p := ⟨bR, offR + j * 3 + 2, none⟩) hbR c2
            have hpc : ∀ q, j = q + 1 → ∃ PX PY, wE.cell? ⟨bR, offR + q * 3, none⟩ = some (.int .i64 PX) ∧ wE.cell? ⟨bR, offR + q * 3 + 1, none⟩ = some (.int .i64 PY) ∧ frB ⟨PX, PY⟩ = true ∧ ltF ⟨PX, PY⟩ ((rootsP p).getD j Rt.z).f := fun q hq => by
              obtain ⟨b', off', h', hb', z0, z1, z2⟩ := K89.out q (by have := HRM.out; omega)
              injection h' with h'
              injection h' with h1 h2
              subst h1 h2
              have hlq := RLT.out q (by have := HSM.out; omega)
              rw [← hq] at hlq
              exact ⟨_, _, bcell hbw (p := ⟨bR, offR + q * 3, none⟩) hb' z0, bcell hbw (p := ⟨bR, offR + q * 3 + 1, none⟩) hb' z1, (RF.out q (by have := HRM.out; omega)).1, hlq⟩
            generalize (rootsP p).getD j Rt.z = r at e0 e1 e2 hfg ht1 ht2 hrt ca hpc
            obtain ⟨⟨X, Y⟩, T'⟩ := r
            unfold frV at ca
            simp only at ca e0 e1 e2 ht1 ht2 hrt hpc hfg
            generalize (stP p).getD 0 0 = sA at b0 ⊢
            obtain ⟨sB, hsB⟩ : ∃ s, (stP p).getD j 0 = s := ⟨_, rfl⟩
            rw [hsB] at b1 hrt ⊢
            obtain ⟨sC, hsC⟩ : ∃ s, (stP p).getD (j + 1) 0 = s := ⟨_, rfl⟩
            rw [hsC] at b2 hrt
            have CA := Lib.hid ca; have HSC := Lib.hid hsC
            have hown := Own.newA wE #[.int .i64 X, .int .i64 Y, .int .i64 T'] 37 (cs := [.int .i64 X, .int .i64 Y, .int .i64 T']) rfl
            have q0 : (wE.alloc (.cells #[.int .i64 X, .int .i64 Y, .int .i64 T'] 37)).cell? ⟨wE.heap.size, 0, none⟩ = some (.int .i64 X) := Own.cell? hown rfl
            have q1 : (wE.alloc (.cells #[.int .i64 X, .int .i64 Y, .int .i64 T'] 37)).cell? ⟨wE.heap.size, 1, none⟩ = some (.int .i64 Y) := Own.cell? hown rfl
            have hbA := hbw.alloc hbw.size (.cells #[.int .i64 X, .int .i64 Y, .int .i64 T'] 37)
            have hbAE := (Below.refl wE.heap.size wE).alloc (Nat.le_refl _) (.cells #[.int .i64 X, .int .i64 Y, .int .i64 T'] 37)
            have i1 : decide (T' < 1) = false := decide_eq_false (by omega)
            have y1 : (0 : Int) ≤ (j : Int) := by omega
            have y2 : (j : Int) < (m : Int) := by omega
            have y3 : IntKind.i64.wrap ((j : Int) + 1) = ((j + 1 : Nat) : Int) := by rw [i64_small (by omega) (by omega)]; omega
            have y4 : IntKind.i64.wrap ((sA : Int) - (sB : Int) + T') = (sA : Int) - (sC : Int) := by rw [i64_small (by omega) (by omega)]; omega
            have HPC := Lib.hid hpc
            have HFG := Lib.hid hfg
            clear hpc hfg hsB hsC htm hrt ht1 ht2 b0 b1 b2 ca c0 c1 c2
            have hbRE : bR < wE.heap.size := Nat.lt_of_lt_of_le hbR hbw.size
            go_wp2_with fail
            refine (CA.out _ (K87.out.below hbA)).mono ?_
            rintro e wT ⟨rfl, hwT⟩
            have ho := Own.belowAll hown hwT
            have hbT := hbA.trans (hwT.mono hbA.size)
            have hbTE := hbAE.trans (hwT.mono hbAE.size)
            clear q0 q1 hown hbA hwT hbAE e0 e1 e2
            have q0 : wT.cell? ⟨wE.heap.size, 0, none⟩ = some (.int .i64 X) := Own.cell? ho rfl
            have q1 : wT.cell? ⟨wE.heap.size, 1, none⟩ = some (.int .i64 Y) := Own.cell? ho rfl
            have q2 : wT.cell? ⟨wE.heap.size, 2, none⟩ = some (.int .i64 T') := Own.cell? ho rfl
            by_cases hz : j = 0
            case pos =>
              have g0 : decide ((0 : Int) < (j : Int)) = false := decide_eq_false (by omega)
              have g0n : decide (0 < j) = false := decide_eq_false (by omega)
              have g0p : ((0 : Int) < (j : Int)) = False := eq_false (by omega)
              clear hz
              go_wp2_with fail
              go_roundw
              case rel => exact ⟨j + 1, by omega, rfl, by rw [HSC.out], hbT⟩
              case measure => (simp [intOf]; omega)
            case neg =>
              obtain ⟨q, hq⟩ : ∃ q, j = q + 1 := ⟨j - 1, by omega⟩
              obtain ⟨PX, PY, z0, z1, hpg, hlt2⟩ := HPC.out q hq
              have u0 := bcell hbTE (p := ⟨bR, offR + q * 3, none⟩) hbRE z0
              have u1 := bcell hbTE (p := ⟨bR, offR + q * 3 + 1, none⟩) hbRE z1
              have g0 : decide ((0 : Int) < (j : Int)) = true := decide_eq_true (by omega)
              have g1 : (j : Int) - 1 = (q : Int) := by omega
              have g2 : IntKind.i64.wrap (q : Int) = (q : Int) := i64_small (by omega) (by omega)
              have g3 : (0 : Int) ≤ (q : Int) := by omega
              have g4 : (q : Int) < (m : Int) := by omega
              have cc := fun w => iCompareFracs_c ⟨PX, PY⟩ ⟨X, Y⟩ w hpg HFG.out
              have hcn := cmp_neg hlt2
              generalize cmpF ⟨PX, PY⟩ ⟨X, Y⟩ = Z at cc hcn
              unfold frV at cc
              simp only at cc
              have CC := Lib.hid cc
              have g5 : decide ((0 : Int) ≤ Z) = false := decide_eq_false (by omega)
              have hgT : wE.heap.size < wT.heap.size := Own.lt ho
              have hbRT : bR < wT.heap.size := Nat.lt_of_lt_of_le hbRE hbTE.size
              have hbR0 := Below.refl wT.heap.size wT
              have HQ := Lib.hid hq
              clear hz hq cc hcn hpg hlt2 z0 z1 HPC HFG
              go_wp2_with fail
              go_region_held3 (fun w' => w'.cell? ⟨bR, offR + q * 3, none⟩ = some (.int .i64 PX) ∧ w'.cell? ⟨bR, offR + q * 3 + 1, none⟩ = some (.int .i64 PY) ∧ w'.cell? ⟨wE.heap.size, 0, none⟩ = some (.int .i64 X) ∧ w'.cell? ⟨wE.heap.size, 1, none⟩ = some (.int .i64 Y)) (with_reducible repeat' (first | apply And.intro | assumption | apply cell_alloc' | apply cell_drew'))
                (first
                  | (go_at_call 14; (with_reducible refine (CC.out _).mono ?_); rintro e W1 ⟨rfl, hwK1⟩; have hbK1 : Below wT.heap.size wT W1 := ball (by with_reducible repeat (first | exact hbR0 | apply Below.drew | apply bal_alloc)) hwK1; have v0 := bcell hbK1 hbRT u0; have v1 := bcell hbK1 hbRT u1; have v2 := bcell hbK1 hgT q0; have v3 := bcell hbK1 hgT q1))
              have hbF := hbT.trans (hbK1.mono hbT.size)
              go_wp2_with fail
              go_roundw
              case rel => exact ⟨j + 1, by omega, rfl, by rw [HSC.out], hbF⟩
              case measure => (simp [intOf]; omega)
    case rest =>
      have hbc := hcut
      obtain ⟨wu, rfl⟩ : ∃ wu : World, wu = wc := ⟨_, rfl⟩
      have K93 := Lib.hid (K85.out.below hbc); clear K85
      have K94 := Lib.hid (K86.out.below hbc); clear K86
      have K95 := Lib.hid (K87.out.below hbc); clear K87
      have K96 := Lib.hid (K89.out.below hbc); clear K89
      have K97 := Lib.hid (K91.out.below hbc); clear K91
      have bw98 := ball bw92 hbc
      clear bw92
      clear hbc
      clear K94
      clear K95
      clear K96
      clear K97
      clear C7 HRL HCL HU HMM HNN
      go_wp2_with fail
      refine (drawTimesOfRoot_c ad1 n1 cap1 _ hm1 K93.out).mono ?_
      rintro e w99 ⟨vq, q, f, rfl, hlq, hrow, hb100⟩
      have K101 := Lib.hid (K93.out.below hb100); clear K93
      have bw102 := ball bw98 hb100
      clear bw98
      clear hb100
      obtain ⟨adq, capq, rfl, hrq⟩ := hrow.shape
      clear hrow
      have K103 := Lib.hid hrq; clear hrq
      have d1 := fun w hr => iTimesOfRoot_c adq capq q f w hr (by omega)
      have d2 := fun w hr => sTimesOfRoot_c adq capq q f w hr (by omega)
      generalize (if (polyB q && frB f) = true then timesF (rootsP q) f else 0) = NT at d1 d2
      generalize (polyB q && frB f) = kt at d1 d2
      obtain ⟨fa, fb⟩ := f
      unfold frV
      unfold frV at d1 d2
      simp only at d1 d2 ⊢
      have D1 := Lib.hid d1; have D2 := Lib.hid d2; clear d1 d2
      have hnl := FrO.new w99 fa fb rfl
      have hbx := (Below.refl w99.heap.size w99).alloc (Nat.le_refl _) (.cells #[.int .i64 fa, .int .i64 fb] 35)
      go_wp2_with fail
      have K104 := Lib.hid (K101.out.below hbx); clear K101
      have K105 := Lib.hid (K103.out.below hbx); clear K103
      have bw106 := ball bw102 hbx
      clear bw102
      clear hbx
      have K107 := Lib.hid hnl; clear hnl
      obtain ⟨x0, x1⟩ := K107.out.at
      refine (D1.out _ K105.out).mono ?_
      rintro e w108 ⟨rfl, hb109⟩
      have K110 := Lib.hid (K104.out.below hb109); clear K104
      have K111 := Lib.hid (K105.out.below hb109); clear K105
      have K112 := Lib.hid (K107.out.below hb109); clear K107
      have bw113 := ball bw106 hb109
      clear bw106
      clear hb109
      clear x0 x1
      obtain ⟨x0, x1⟩ := K112.out.at
      go_wp2_with fail
      refine (D2.out _ K111.out).mono ?_
      rintro e w114 ⟨rfl, hb115⟩
      have K116 := Lib.hid (K110.out.below hb115); clear K110
      have K117 := Lib.hid (K111.out.below hb115); clear K111
      have K118 := Lib.hid (K112.out.below hb115); clear K112
      have bw119 := ball bw113 hb115
      clear bw113
      clear hb115
      clear x0 x1
      clear D1 D2
      clear K117
      clear K118
      go_wp2_with fail
      refine (drawValueByRoots_c ad1 n1 cap1 _ hm1 K116.out).mono ?_
      rintro e w120 ⟨vu, u', x, rfl, hlu, hrow, hb121⟩
      have K122 := Lib.hid (K116.out.below hb121); clear K116
      have bw123 := ball bw119 hb121
      clear bw119
      clear hb121
      obtain ⟨adu, capu, rfl, hru⟩ := hrow.shape
      clear hrow
      have K124 := Lib.hid hru; clear hru
      have e1 := fun w hr => iValueByRoots_c adu capu u' x w hr (by omega)
      have e2 := fun w hr => ValueByRoots_c adu capu u' x w hr (by omega)
      have e3 := fun w hr => iPolyValue_c adu capu u' x w hr (by omega)
      unfold polyV at e3
      unfold frR at e1 e2
      generalize minL (valsF u' x) = V at e1 e2 e3
      generalize (polyB u' && finB' x) = kv at e1 e2 e3
      obtain ⟨M, hM⟩ : ∃ M, (if kv = true then (⟨V, 1⟩ : Fr) else Fr.z) = M := ⟨_, rfl⟩
      rw [hM] at e1 e2
      obtain ⟨ma, mb⟩ := M
      unfold frV at e1 e2
      simp only at e1 e2
      have E1 := Lib.hid e1; have E2 := Lib.hid e2; have E3 := Lib.hid e3; have HM := Lib.hid hM; clear e1 e2 e3 hM
      go_wp2_with fail
      refine (E1.out _ K124.out).mono ?_
      rintro e w125 ⟨rfl, hb126⟩
      have K127 := Lib.hid (K122.out.below hb126); clear K122
      have K128 := Lib.hid (K124.out.below hb126); clear K124
      have bw129 := ball bw123 hb126
      clear bw123
      clear hb126
      have hnl := FrO.new w125 ma mb rfl
      have hbx := (Below.refl w125.heap.size w125).alloc (Nat.le_refl _) (.cells #[.int .i64 ma, .int .i64 mb] 35)
      go_wp2_with fail
      have K130 := Lib.hid (K127.out.below hbx); clear K127
      have K131 := Lib.hid (K128.out.below hbx); clear K128
      have bw132 := ball bw129 hbx
      clear bw129
      clear hbx
      have K133 := Lib.hid hnl; clear hnl
      refine (E2.out _ K131.out).mono ?_
      rintro e w134 ⟨rfl, hb135⟩
      have K136 := Lib.hid (K130.out.below hb135); clear K130
      have K137 := Lib.hid (K131.out.below hb135); clear K131
      have K138 := Lib.hid (K133.out.below hb135); clear K133
      have bw139 := ball bw132 hb135
      clear bw132
      clear hb135
      clear E1 E2
      have hnl := FrO.new w134 ma mb rfl
      have hbx := (Below.refl w134.heap.size w134).alloc (Nat.le_refl _) (.cells #[.int .i64 ma, .int .i64 mb] 35)
      go_upto_region 34 with fail
      have K140 := Lib.hid (K136.out.below hbx); clear K136
      have K141 := Lib.hid (K137.out.below hbx); clear K137
      have K142 := Lib.hid (K138.out.below hbx); clear K138
      have bw143 := ball bw139 hbx
      clear bw139
      clear hbx
      have K144 := Lib.hid hnl; clear hnl
      clear K140
      generalize (w134.alloc (.cells #[.int .i64 ma, .int .i64 mb] 35)) = wz at K141 K142 K144 bw143 ⊢
      obtain ⟨x0, x1⟩ := K142.out.at
      obtain ⟨y0, y1⟩ := K144.out.at
      cases kv
      case false =>
        go_wp2_with fail
        go_ret
        exact ⟨rfl, bw143⟩
      case true =>
        have hM := HM.out
        rw [if_pos rfl] at hM
        obtain ⟨rfl, rfl⟩ : V = ma ∧ 1 = mb := by injection hM with i1 i2; exact ⟨i1, i2⟩
        have e3 := E3.out
        simp only [↓reduceIte] at e3
        unfold pairV at e3
        obtain ⟨T, hT⟩ : ∃ T, toldZ V = T := ⟨_, rfl⟩
        rw [hT] at e3
        obtain ⟨kn, hn⟩ : ∃ b, numB V = b := ⟨_, rfl⟩
        rw [hn] at e3
        have HN := Lib.hid hn; have HT := Lib.hid hT; have E4 := Lib.hid e3
        clear hM HM hn hT e3 E3
        clear x0 x1 y0 y1
        obtain ⟨x0, x1⟩ := K142.out.at
        obtain ⟨y0, y1⟩ := K144.out.at
        go_wp2_with fail
        refine (E4.out _ K141.out).mono ?_
        rintro e w145 ⟨rfl, hb146⟩
        have K147 := Lib.hid (K141.out.below hb146); clear K141
        have K148 := Lib.hid (K142.out.below hb146); clear K142
        have K149 := Lib.hid (K144.out.below hb146); clear K144
        have bw150 := ball bw143 hb146
        clear bw143
        clear hb146
        clear x0 x1 y0 y1
        obtain ⟨x0, x1⟩ := K148.out.at
        obtain ⟨y0, y1⟩ := K149.out.at
        cases kn
        case false =>
          go_wp2_with fail
          go_ret
          exact ⟨rfl, bw150⟩
        case true =>
          obtain rfl : V = T := by rw [← HT.out]; unfold toldZ; rw [if_pos HN.out]
          go_wp2_with fail
          go_ret
          exact ⟨rfl, bw150⟩

end Go.Proofs.YthkgdiicldiahaaDoor
