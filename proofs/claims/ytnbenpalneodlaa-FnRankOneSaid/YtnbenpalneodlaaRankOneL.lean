/-
  The walk of 'laws.FnRankOne': it returns true. Printed by gen_lawX.py. By an AI agent.
-/
import Derived.Test.YtnbenpalneodlaaRkY
import Derived.Deep.DeepCutAuto
import Derived.Deep.QuietTactic
namespace Go.Proofs.Ytnbenpalneodlaa
open Go.RowKit

theorem MaR.uni {B u : Bool} {X P : List (List Int)} {n : Nat} {w w' : World} {e : Ending} (h : MaR B X w e w') (hP : (if B = true then X else []) = P) (hu : B = u) (hn : P.length = n) : ∃ ad cap, e = .returned (.tuple #[.slice ad n cap, .bool u]) ∧ RdM w' ad P ∧ Below w.heap.size w w' := by
  subst hP; subst hu; subst hn; exact h
theorem PaR.uni {B u : Bool} {U V P Q : List Int} {n k : Nat} {w w' : World} {e : Ending} (h : PaR B U V w e w') (hP : onL B U = P) (hQ : onL B V = Q) (hu : B = u) (hn : P.length = n) (hk : Q.length = k) : ∃ a1 c1 a2 c2, e = .returned (.tuple #[.slice a1 n c1, .slice a2 k c2, .bool u]) ∧ RdI w' a1 P ∧ RdI w' a2 Q ∧ Below w.heap.size w w' := by
  subst hP; subst hQ; subst hu; subst hn; subst hk; exact h
theorem FbR.uni {B u : Bool} {T N : Nat} {lo hi : Int} {w w' : World} {e : Ending} (h : FbR B T N w e w') (hl : (if B = true then (T : Int) else 0) = lo) (hh : (if B = true then (N : Int) else 0) = hi) (hu : B = u) : e = .returned (.tuple #[.int .i64 lo, .int .i64 hi, .bool u]) ∧ Below w.heap.size w w' := by
  subst hl; subst hh; subst hu; exact h
structure OutG (O : List (List Int)) (nu nv : Nat) : Prop where
  mat : matB O = true
  one : (matB O && r1B O.length (colN O) (entM O)) = true
  ln : O.length = nu
  cn : colN O = nv
  ou : 1 ≤ nu ∧ nu ≤ 6
  ov : 1 ≤ nv ∧ nv ≤ 6
  sm : smM O
  l1 : (p1L O.length (entM O)).length = nu
  l2 : (p2L (colN O) (entM O)).length = nv
  sum : ∀ i k, i < nu → k < nv → (p1L O.length (entM O)).getD i 0 + (p2L (colN O) (entM O)).getD k 0 = entM O i k
  bd1 : ∀ i, i < nu → -2000000 ≤ (p1L O.length (entM O)).getD i 0 ∧ (p1L O.length (entM O)).getD i 0 ≤ 2000000
  bd2 : ∀ k, k < nv → -4000000 ≤ (p2L (colN O) (entM O)).getD k 0 ∧ (p2L (colN O) (entM O)).getD k 0 ≤ 4000000
theorem outG {u v : List Int} {O : List (List Int)} {nu nv : Nat} (h : ouB u v = true) (e : (if ouB u v = true then ouL u v else []) = O) (hu : u.length = nu) (hv : v.length = nv) : OutG O nu nv := by
  rw [if_pos h] at e
  subst hu; subst hv; subst e
  obtain ⟨h1, h2, h3, h4, h5, _, h6, h7, h8, h9, _, h10, h11⟩ := outF h
  have hsm := ouL_sm7 (u := u) (v := v) (by omega) (by omega)
  exact ⟨h1, by rw [h1, h6]; rfl, h2, h3, h4, h5, sm7_smM hsm, h7, h8, h9, h10, h11⟩
theorem ouO_sm (u v : List Int) (hu : u.length ≤ 7) (hv : v.length ≤ 7) : sm7 (if ouB u v = true then ouL u v else []) := by
  split
  · exact ouL_sm7 hu hv
  · exact ⟨by simp, fun i hi => by simp at hi⟩
theorem ccO_sm (M : List (List Int)) : sm7 (if matB M = true then ccL M else []) := by
  split
  · rename_i h
    have ok := clsL_ok (alM M.length (entM M)) (colN M)
    have h6 := (mat_facts h).2.1.2
    exact ⟨by have := ok.len; unfold ccL; omega, fun i hi => by have := (ok.ne i hi).2; unfold ccL; omega⟩
  · exact ⟨by simp, fun i hi => by simp at hi⟩
theorem sumT (G : List (List Int)) (k : Nat) (h : k < G.length) : ((G.take (k + 1)).map List.length).sum = ((G.take k).map List.length).sum + (G.getD k []).length := by
  rw [takeM_snoc G k h]
  simp
theorem sumT_le (G : List (List Int)) (k : Nat) : ((G.take k).map List.length).sum ≤ (G.map List.length).sum := by
  conv => rhs; rw [← List.take_append_drop k G]
  rw [List.map_append, List.sum_append]
  omega

set_option maxHeartbeats 64000000 in
set_option maxRecDepth 100000 in
theorem lawRankOne_any (ad0 : Option Addr) (n0 cap0 : Nat) (ad1 : Option Addr) (n1 cap1 : Nat) (w : World) (hm0 : n0 ≤ 9223372036854775807) (hr0 : RdB w ad0 n0) (hm1 : n1 ≤ 9223372036854775807) (hr1 : RdB w ad1 n1) :
    Calls Try.prog 3 #[.slice ad0 n0 cap0, .slice ad1 n1 cap1] w fun e w' => e = .returned (.bool true) ∧ Below w.heap.size w w' := by
  have bw0 := Below.refl w.heap.size w
  have K1 := Lib.hid hr0; clear hr0
  have K2 := Lib.hid hr1; clear hr1
  obtain ⟨tb, htb⟩ : ∃ tb : Bool, decide (1048576 < wrap64 ((n0 : Int) + (n1 : Int))) = tb := ⟨_, rfl⟩
  cases tb
  case true =>
    go_enter Try.func3, Try.ntmps3
    go_wp2_with fail
    go_ret
    exact ⟨rfl, bw0⟩
  case false =>
    go_enter Try.func3, Try.ntmps3
    go_wp2_with fail
    refine (drawOuter_c ad0 n0 cap0 _ hm0 K1.out).mono ?_
    rintro e w3 ⟨adu, cu, u, adv, cv, v, rfl, ⟨hul, hvl⟩, hru, hrv, hb4⟩
    have K5 := Lib.hid (K1.out.below hb4); clear K1
    have K6 := Lib.hid (K2.out.below hb4); clear K2
    have bw7 := ball bw0 hb4
    clear bw0
    clear hb4
    have K8 := Lib.hid hru; clear hru
    have K9 := Lib.hid hrv; clear hrv
    clear K5
    clear htb
    obtain ⟨O, hO⟩ : ∃ X, (if ouB u v = true then ouL u v else []) = X := ⟨_, rfl⟩
    obtain ⟨u1, hu1⟩ : ∃ u', ouB u v = u' := ⟨_, rfl⟩
    obtain ⟨nO, hnO⟩ : ∃ n, O.length = n := ⟨_, rfl⟩
    obtain ⟨nu, hnu⟩ : ∃ n, u.length = n := ⟨_, rfl⟩
    obtain ⟨nv, hnv⟩ : ∃ n, v.length = n := ⟨_, rfl⟩
    have hosm := ouO_sm u v hul hvl
    rw [hO] at hosm
    have q1 := fun (w : World) (h1 : RdI w adu u) (h2 : RdI w adv v) => (iOuter_c adu cu u adv cv v w h1 h2 (by omega) (by omega)).mono fun e w' h => MaR.uni h hO hu1 hnO
    have q2 := fun (w : World) (h1 : RdI w adu u) (h2 : RdI w adv v) => (sOuter_c adu cu u adv cv v w h1 h2 (by omega) (by omega)).mono fun e w' h => MaR.uni h.1 hO hu1 hnO
    simp only [hnu, hnv] at q1 q2
    rw [hnu, hnv]
    have Q1 := Lib.hid q1; have Q2 := Lib.hid q2; have HOS := Lib.hid hosm; have HNO := Lib.hid hnO
    have HG := Lib.hid (fun (h : u1 = true) => outG (by rw [hu1]; exact h) hO hnu hnv)
    clear q1 q2 hO hu1 hnO hnu hnv hul hvl hosm
    go_wp2_with fail
    refine (Q1.out _ K8.out K9.out).mono ?_
    rintro e w10 ⟨adm, cm, rfl, hrm, hb11⟩
    have K12 := Lib.hid (K6.out.below hb11); clear K6
    have K13 := Lib.hid (K8.out.below hb11); clear K8
    have K14 := Lib.hid (K9.out.below hb11); clear K9
    have bw15 := ball bw7 hb11
    clear bw7
    clear hb11
    have K16 := Lib.hid hrm; clear hrm
    go_wp2_with fail
    refine (Q2.out _ K13.out K14.out).mono ?_
    rintro e w17 ⟨ado, co, rfl, hro, hb18⟩
    have K19 := Lib.hid (K12.out.below hb18); clear K12
    have K20 := Lib.hid (K13.out.below hb18); clear K13
    have K21 := Lib.hid (K14.out.below hb18); clear K14
    have K22 := Lib.hid (K16.out.below hb18); clear K16
    have bw23 := ball bw15 hb18
    clear bw15
    clear hb18
    have K24 := Lib.hid hro; clear hro
    clear K20
    clear K21
    clear Q1 Q2
    have CS := Lib.hid (fun (w : World) h1 h2 => (show Calls _ _ #[.slice adm nO cm, .slice ado nO co] w _ by have := qM_c adm cm ado co O w (by have := HOS.out.1; omega) (fun i hi => by have := HOS.out.2 i hi; omega) h1 h2; rw [HNO.out] at this; exact this))
    go_wp2_with fail
    refine (CS.out _ K22.out K24.out).mono ?_
    rintro e w25 ⟨rfl, hb26⟩
    have K27 := Lib.hid (K19.out.below hb26); clear K19
    have K28 := Lib.hid (K22.out.below hb26); clear K22
    have K29 := Lib.hid (K24.out.below hb26); clear K24
    have bw30 := ball bw23 hb26
    clear bw23
    clear hb26
    clear CS
    go_upto_if 79 with fail
    go_cut [] from 79 to 79 (fun wc => Below w25.heap.size w25 wc)
    case first =>
      have bwq := Below.refl w25.heap.size w25
      cases u1
      case false =>
        go_wp2_with fail
        go_meet
        exact bwq
      case true =>
        have hg := HG.out rfl
        have q3 := fun (w : World) (h : RdM w adm O) => iIsRankOne_c adm cm O w h hg.sm
        have q4 := fun (w : World) (h : RdM w adm O) => (iRankParts_c adm cm O w h hg.sm).mono fun e w' h => PaR.uni (n := nu) (k := nv) h (show onL _ _ = p1L O.length (entM O) by rw [hg.one]; rfl) (show onL _ _ = p2L (colN O) (entM O) by rw [hg.one]; rfl) hg.one hg.l1 hg.l2
        simp only [hg.one] at q3
        simp only [hg.mat] at q3
        have hnu : nO = nu := by rw [← HNO.out]; exact hg.ln
        subst hnu
        simp only [HNO.out] at q3 q4
        have hOG : O = toG nO nv (entM O) := by
          have := (mat_facts hg.mat).2.2.2.2
          rw [hg.ln, hg.cn] at this
          exact this.symm
        have hsum := hg.sum; have hbd1 := hg.bd1; have hbd2 := hg.bd2; have hou := hg.ou; have hov := hg.ov
        have hl1 := hg.l1; have hl2 := hg.l2
        simp only [HNO.out] at hsum hbd1 hl1
        generalize p1L nO (entM O) = PA at q4 hsum hbd1 hl1
        generalize p2L (colN O) (entM O) = PB at q4 hsum hbd2 hl2
        have Q3 := Lib.hid q3; have Q4 := Lib.hid q4; have HOG := Lib.hid hOG; have HSUM := Lib.hid hsum; have HBD1 := Lib.hid hbd1; have HBD2 := Lib.hid hbd2; have HL1 := Lib.hid hl1; have HL2 := Lib.hid hl2
        clear q3 q4 hOG hsum hbd1 hbd2 hg hl1 hl2
        go_wp2_with fail
        refine (Q3.out _ K28.out).mono ?_
        rintro e w31 ⟨rfl, hb32⟩
        have K33 := Lib.hid (K27.out.below hb32); clear K27
        have K34 := Lib.hid (K28.out.below hb32); clear K28
        have K35 := Lib.hid (K29.out.below hb32); clear K29
        have bw36 := ball bwq hb32
        clear bwq
        clear hb32
        go_wp2_with fail
        refine (Q4.out _ K34.out).mono ?_
        rintro e w37 ⟨aa, ca, ab, cb, rfl, hra, hrb, hb38⟩
        have K39 := Lib.hid (K33.out.below hb38); clear K33
        have K40 := Lib.hid (K34.out.below hb38); clear K34
        have K41 := Lib.hid (K35.out.below hb38); clear K35
        have bw42 := ball bw36 hb38
        clear bw36
        clear hb38
        have K43 := Lib.hid hra; clear hra
        have K44 := Lib.hid hrb; clear hrb
        clear Q3 Q4
        have hro := K41.out
        rw [HOG.out] at hro
        have K45 := Lib.hid hro; clear hro
        clear K39
        clear K40
        clear K41
        generalize entM O = E at K45 HSUM HOG
        clear HOG HG HOS HNO
        go_wp2_with fail
        go_loopw [117] (fun i wr => ∃ k : Nat, k ≤ nO ∧ i = .int .i64 k ∧ Below w37.heap.size w37 wr) (fun i _ => nO - (intOf i).toNat)
        case atStart => exact ⟨0, Nat.zero_le _, rfl, Below.refl _ _⟩
        case round =>
          obtain ⟨wE, rfl⟩ : ∃ x : World, x = wr := ⟨_, rfl⟩
          obtain ⟨k, hk, rfl, hbel⟩ := hrel
          by_cases hlt : k < nO
          case neg =>
            go_wp2_with fail
            go_meet
            exact (ball bw42 hbel)
          case pos =>
            obtain ⟨bD, oD, rfl, hbD, hrow⟩ := K45.out.rowG (by omega) (by omega)
            obtain ⟨b2, o2, c2, e2, hl2, hc2⟩ := hrow k hlt
            have e2 := bcell hbel hbD e2
            have HC2 := Lib.hid hc2
            obtain ⟨b3, o3, rfl, hb3, k3⟩ := K43.out k (by rw [HL1.out]; exact hlt)
            have HK3 := Lib.hid k3
            have x1 : (0 : Int) ≤ (k : Int) := by omega
            have x2 : (k : Int) < (nO : Int) := by omega
            clear hrow hc2 k3
            go_wp2_with fail
            go_loopw [124] (fun i wr => ∃ j : Nat, j ≤ nv ∧ i = .int .i64 j ∧ Below w37.heap.size w37 wr) (fun i _ => nv - (intOf i).toNat)
            case atStart => exact ⟨0, Nat.zero_le _, rfl, hbel⟩
            case round =>
              obtain ⟨wI, rfl⟩ : ∃ x : World, x = wr := ⟨_, rfl⟩
              obtain ⟨j, hj, rfl, hbel2⟩ := hrel
              clear e2
              by_cases hlj : j < nv
              case neg =>
                go_wp2_with fail
                go_roundw
                case rel => exact ⟨k + 1, by omega, by go_num, hbel2⟩
                case measure => simp [intOf]; omega
              case pos =>
                have k2 := bcell hbel2 hl2 (HC2.out j hlj)
                have k3 := bcell hbel2 hb3 HK3.out
                obtain ⟨b4, o4, rfl, hb4, k4⟩ := K44.out j (by rw [HL2.out]; exact hlj)
                have k4 := bcell hbel2 hb4 k4
                have y1 : (0 : Int) ≤ (j : Int) := by omega
                have y2 : (j : Int) < (nv : Int) := by omega
                have s1 := HSUM.out k j hlt hlj
                have s2 := HBD1.out k hlt
                have s3 := HBD2.out j hlj
                generalize E k j = V at k2 s1
                generalize PA.getD k 0 = X at k3 s1 s2
                generalize PB.getD j 0 = Y at k4 s1 s3
                have e6 : IntKind.i64.wrap (X + Y) = V := by rw [i64_small (by omega) (by omega)]; exact s1
                clear s1 s2 s3
                go_wp2_with fail
                go_quiet (fail)
                go_wp2_with fail
                go_roundw
                case rel => exact ⟨j + 1, by omega, by go_num, bdrewN hbel2 _⟩
                case measure => simp [intOf]; omega
    case rest =>
      obtain ⟨w46, rfl⟩ : ∃ y : World, y = wc := ⟨_, rfl⟩
      clear K28
      clear K29
      have K47 := Lib.hid (K27.out.below hcut); clear K27
      have bw48 := ball bw30 hcut
      clear bw30
      clear hcut
      clear HG HOS HNO
      go_wp2_with fail
      refine (drawRankOne_c ad1 n1 cap1 _ hm1 K47.out).mono ?_
      rintro e w49 ⟨adw, cw, W, rfl, hsw, hrw, hb50⟩
      have K51 := Lib.hid (K47.out.below hb50); clear K47
      have bw52 := ball bw48 hb50
      clear bw48
      clear hb50
      have K53 := Lib.hid hrw; clear hrw
      obtain ⟨uw, huw⟩ : ∃ u', matB W = u' := ⟨_, rfl⟩
      obtain ⟨ur, hur⟩ : ∃ u', (matB W && r1B W.length (colN W) (entM W)) = u' := ⟨_, rfl⟩
      have hcase : (uw = true ∧ ur = true) ∨ (uw = true ∧ ur = false) ∨ (uw = false ∧ ur = false) := by
        subst huw; subst hur
        cases matB W <;> cases r1B W.length (colN W) (entM W) <;> simp
      obtain ⟨PA, hPA⟩ : ∃ P, onL ur (p1L W.length (entM W)) = P := ⟨_, rfl⟩
      obtain ⟨PB, hPB⟩ : ∃ P, onL ur (p2L (colN W) (entM W)) = P := ⟨_, rfl⟩
      obtain ⟨nA, hnA⟩ : ∃ n, PA.length = n := ⟨_, rfl⟩
      obtain ⟨nB, hnB⟩ : ∃ n, PB.length = n := ⟨_, rfl⟩
      have hA7 : nA ≤ 7 ∧ nB ≤ 7 := by
        have h1 : PA.length ≤ 7 ∧ PB.length ≤ 7 := by
          rw [← hPA, ← hPB]
          unfold onL
          cases hq : ur with
          | false => simp
          | true =>
            rw [hq, Bool.and_eq_true] at hur
            have := mat_facts hur.1
            rw [if_pos rfl, if_pos rfl, p1L, p2L, tab_length, tab_length]
            omega
        omega
      obtain ⟨nW, hnW⟩ : ∃ n, W.length = n := ⟨_, rfl⟩
      have hsm := sm7_smM hsw
      have q1 := fun (w : World) (h : RdM w adw W) => iIsRankOne_c adw cw W w h hsm
      have q2 := fun (w : World) (h : RdM w adw W) => sIsRankOne_c adw cw W w h hsm
      have q3 := fun (w : World) (h : RdM w adw W) => (iRankParts_c adw cw W w h hsm).mono fun e w' h => PaR.uni h (by rw [hur]; exact hPA) (by rw [hur]; exact hPB) hur hnA hnB
      have q4 := fun (w : World) (h : RdM w adw W) => (sRankParts_c adw cw W w h hsm).mono fun e w' h => PaR.uni h (by rw [hur]; exact hPA) (by rw [hur]; exact hPB) hur hnA hnB
      simp only [hur] at q1 q2
      simp only [huw] at q1 q2
      simp only [hnW] at q1 q2 q3 q4
      rw [hnW]
      have Q1 := Lib.hid q1; have Q2 := Lib.hid q2; have Q3 := Lib.hid q3; have Q4 := Lib.hid q4
      have HCASE := Lib.hid hcase; have HNA := Lib.hid hnA; have HNB := Lib.hid hnB
      clear q1 q2 q3 q4 hcase hnA hnB hnW hPA hPB hur huw hsm hsw
      go_wp2_with fail
      refine (Q1.out _ K53.out).mono ?_
      rintro e w54 ⟨rfl, hb55⟩
      have K56 := Lib.hid (K51.out.below hb55); clear K51
      have K57 := Lib.hid (K53.out.below hb55); clear K53
      have bw58 := ball bw52 hb55
      clear bw52
      clear hb55
      go_wp2_with fail
      refine (Q2.out _ K57.out).mono ?_
      rintro e w59 ⟨rfl, hb60⟩
      have K61 := Lib.hid (K56.out.below hb60); clear K56
      have K62 := Lib.hid (K57.out.below hb60); clear K57
      have bw63 := ball bw58 hb60
      clear bw58
      clear hb60
      go_wp2_with fail
      refine (Q3.out _ K62.out).mono ?_
      rintro e w64 ⟨a1, k1, a2, k2, rfl, hr1, hr2, hb65⟩
      have K66 := Lib.hid (K61.out.below hb65); clear K61
      have K67 := Lib.hid (K62.out.below hb65); clear K62
      have bw68 := ball bw63 hb65
      clear bw63
      clear hb65
      have K69 := Lib.hid hr1; clear hr1
      have K70 := Lib.hid hr2; clear hr2
      go_wp2_with fail
      refine (Q4.out _ K67.out).mono ?_
      rintro e w71 ⟨a3, k3, a4, k4, rfl, hr1, hr2, hb72⟩
      have K73 := Lib.hid (K66.out.below hb72); clear K66
      have K74 := Lib.hid (K67.out.below hb72); clear K67
      have K75 := Lib.hid (K69.out.below hb72); clear K69
      have K76 := Lib.hid (K70.out.below hb72); clear K70
      have bw77 := ball bw68 hb72
      clear bw68
      clear hb72
      have K78 := Lib.hid hr1; clear hr1
      have K79 := Lib.hid hr2; clear hr2
      clear Q1 Q2 Q3 Q4
      clear K74
      go_wp2_with fail
      refine (drawBounds_c ad1 n1 cap1 _ hm1 K73.out).mono ?_
      rintro e w80 ⟨adx, cx, X, rfl, hsx, hrx, hb81⟩
      have K82 := Lib.hid (K73.out.below hb81); clear K73
      have K83 := Lib.hid (K75.out.below hb81); clear K75
      have K84 := Lib.hid (K76.out.below hb81); clear K76
      have K85 := Lib.hid (K78.out.below hb81); clear K78
      have K86 := Lib.hid (K79.out.below hb81); clear K79
      have bw87 := ball bw77 hb81
      clear bw77
      clear hb81
      have K88 := Lib.hid hrx; clear hrx
      obtain ⟨ux, hux⟩ : ∃ u', matB X = u' := ⟨_, rfl⟩
      obtain ⟨lo, hlo⟩ : ∃ x : Int, (if matB X = true then (trk X : Int) else 0) = x := ⟨_, rfl⟩
      obtain ⟨hi, hhi⟩ : ∃ x : Int, (if matB X = true then (hiN X : Int) else 0) = x := ⟨_, rfl⟩
      obtain ⟨G, hG⟩ : ∃ X', (if matB X = true then ccL X else []) = X' := ⟨_, rfl⟩
      obtain ⟨nG, hnG⟩ : ∃ n, G.length = n := ⟨_, rfl⟩
      obtain ⟨nX, hnX⟩ : ∃ n, X.length = n := ⟨_, rfl⟩
      have hgs := ccO_sm X
      rw [hG] at hgs
      have hG7 : nG ≤ 7 := by rw [← hnG]; exact hgs.1
      have hsm := sm7_smM hsx
      have q1 := fun (w : World) (h : RdM w adx X) => (iFactorBounds_c adx cx X w h hsm).mono fun e w' h => FbR.uni h hlo hhi hux
      have q2 := fun (w : World) (h : RdM w adx X) => (sFactorBounds_c adx cx X w h hsm).mono fun e w' h => FbR.uni h hlo hhi hux
      have q3 := fun (w : World) (h : RdM w adx X) => (iColumnClasses_c adx cx X w h hsm).mono fun e w' h => MaR.uni h hG hux hnG
      have q4 := fun (w : World) (h : RdM w adx X) => (sColumnClasses_c adx cx X w h hsm).mono fun e w' h => MaR.uni h hG hux hnG
      have q5 := fun (w : World) (h : RdM w adx X) => iTropicalRank_c adx cx X w h hsm
      have hfin : ux = true → (1 ≤ X.length ∧ (1 ≤ (X.getD 0 []).length ∧ (X.getD 0 []).length ≤ 6)) ∧ (lo ≤ hi ∧ hi ≤ (G.length : Int)) ∧ (G.map List.length).sum = (X.getD 0 []).length := fun h => by
        rw [h] at hux
        rw [if_pos hux] at hlo hhi hG
        subst hG; subst hlo; subst hhi
        obtain ⟨t1, t2, t3⟩ := trk_hi hux
        have := mat_facts hux
        exact ⟨⟨this.1.1, this.2.1⟩, ⟨by omega, by omega⟩, t3⟩
      simp only [hlo] at q5
      simp only [hux, pairV] at q5
      simp only [hnX] at q1 q2 q3 q4 q5 hfin
      rw [hnX]
      have Q1 := Lib.hid q1; have Q2 := Lib.hid q2; have Q3 := Lib.hid q3; have Q4 := Lib.hid q4; have Q5 := Lib.hid q5
      have HFIN := Lib.hid hfin; have HNG := Lib.hid hnG; have HGS := Lib.hid hgs; have HNX := Lib.hid hnX
      clear q1 q2 q3 q4 q5 hfin hnG hgs hnX hux hlo hhi hG hsm hsx
      go_wp2_with fail
      refine (Q1.out _ K88.out).mono ?_
      rintro e w89 ⟨rfl, hb90⟩
      have K91 := Lib.hid (K82.out.below hb90); clear K82
      have K92 := Lib.hid (K83.out.below hb90); clear K83
      have K93 := Lib.hid (K84.out.below hb90); clear K84
      have K94 := Lib.hid (K85.out.below hb90); clear K85
      have K95 := Lib.hid (K86.out.below hb90); clear K86
      have K96 := Lib.hid (K88.out.below hb90); clear K88
      have bw97 := ball bw87 hb90
      clear bw87
      clear hb90
      go_wp2_with fail
      refine (Q2.out _ K96.out).mono ?_
      rintro e w98 ⟨rfl, hb99⟩
      have K100 := Lib.hid (K91.out.below hb99); clear K91
      have K101 := Lib.hid (K92.out.below hb99); clear K92
      have K102 := Lib.hid (K93.out.below hb99); clear K93
      have K103 := Lib.hid (K94.out.below hb99); clear K94
      have K104 := Lib.hid (K95.out.below hb99); clear K95
      have K105 := Lib.hid (K96.out.below hb99); clear K96
      have bw106 := ball bw97 hb99
      clear bw97
      clear hb99
      go_wp2_with fail
      refine (Q3.out _ K105.out).mono ?_
      rintro e w107 ⟨ag, cg, rfl, hrg, hb108⟩
      have K109 := Lib.hid (K100.out.below hb108); clear K100
      have K110 := Lib.hid (K101.out.below hb108); clear K101
      have K111 := Lib.hid (K102.out.below hb108); clear K102
      have K112 := Lib.hid (K103.out.below hb108); clear K103
      have K113 := Lib.hid (K104.out.below hb108); clear K104
      have K114 := Lib.hid (K105.out.below hb108); clear K105
      have bw115 := ball bw106 hb108
      clear bw106
      clear hb108
      have K116 := Lib.hid hrg; clear hrg
      go_wp2_with fail
      refine (Q4.out _ K114.out).mono ?_
      rintro e w117 ⟨ah, ch, rfl, hrh, hb118⟩
      have K119 := Lib.hid (K109.out.below hb118); clear K109
      have K120 := Lib.hid (K110.out.below hb118); clear K110
      have K121 := Lib.hid (K111.out.below hb118); clear K111
      have K122 := Lib.hid (K112.out.below hb118); clear K112
      have K123 := Lib.hid (K113.out.below hb118); clear K113
      have K124 := Lib.hid (K114.out.below hb118); clear K114
      have K125 := Lib.hid (K116.out.below hb118); clear K116
      have bw126 := ball bw115 hb118
      clear bw115
      clear hb118
      have K127 := Lib.hid hrh; clear hrh
      clear Q1 Q2 Q3 Q4
      have CA := Lib.hid (fun (w : World) h1 h2 => (show Calls _ _ #[.slice a1 nA k1, .slice a3 nA k3] w _ by have := qI_c a1 k1 a3 k3 PA w (by rw [HNA.out]; omega) h1 h2; rw [HNA.out] at this; exact this))
      have CB := Lib.hid (fun (w : World) h1 h2 => (show Calls _ _ #[.slice a2 nB k2, .slice a4 nB k4] w _ by have := qI_c a2 k2 a4 k4 PB w (by rw [HNB.out]; omega) h1 h2; rw [HNB.out] at this; exact this))
      have CG := Lib.hid (fun (w : World) h1 h2 => (show Calls _ _ #[.slice ag nG cg, .slice ah nG ch] w _ by have := qM_c ag cg ah ch G w (by have := HGS.out.1; omega) (fun i hi => by have := HGS.out.2 i hi; omega) h1 h2; rw [HNG.out] at this; exact this))
      rcases HCASE.out with ⟨rfl, rfl⟩ | ⟨rfl, rfl⟩ | ⟨rfl, rfl⟩
      all_goals
        go_wp2_with fail
        refine (CA.out _ K120.out K122.out).mono ?_
        rintro e w128 ⟨rfl, hb129⟩
        have K130 := Lib.hid (K119.out.below hb129); clear K119
        have K131 := Lib.hid (K120.out.below hb129); clear K120
        have K132 := Lib.hid (K121.out.below hb129); clear K121
        have K133 := Lib.hid (K122.out.below hb129); clear K122
        have K134 := Lib.hid (K123.out.below hb129); clear K123
        have K135 := Lib.hid (K124.out.below hb129); clear K124
        have K136 := Lib.hid (K125.out.below hb129); clear K125
        have K137 := Lib.hid (K127.out.below hb129); clear K127
        have bw138 := ball bw126 hb129
        clear bw126
        clear hb129
        go_wp2_with fail
        refine (CB.out _ K132.out K134.out).mono ?_
        rintro e w139 ⟨rfl, hb140⟩
        have K141 := Lib.hid (K130.out.below hb140); clear K130
        have K142 := Lib.hid (K131.out.below hb140); clear K131
        have K143 := Lib.hid (K132.out.below hb140); clear K132
        have K144 := Lib.hid (K133.out.below hb140); clear K133
        have K145 := Lib.hid (K134.out.below hb140); clear K134
        have K146 := Lib.hid (K135.out.below hb140); clear K135
        have K147 := Lib.hid (K136.out.below hb140); clear K136
        have K148 := Lib.hid (K137.out.below hb140); clear K137
        have bw149 := ball bw138 hb140
        clear bw138
        clear hb140
        go_wp2_with fail
        refine (CG.out _ K147.out K148.out).mono ?_
        rintro e w150 ⟨rfl, hb151⟩
        have K152 := Lib.hid (K141.out.below hb151); clear K141
        have K153 := Lib.hid (K142.out.below hb151); clear K142
        have K154 := Lib.hid (K143.out.below hb151); clear K143
        have K155 := Lib.hid (K144.out.below hb151); clear K144
        have K156 := Lib.hid (K145.out.below hb151); clear K145
        have K157 := Lib.hid (K146.out.below hb151); clear K146
        have K158 := Lib.hid (K147.out.below hb151); clear K147
        have K159 := Lib.hid (K148.out.below hb151); clear K148
        have bw160 := ball bw149 hb151
        clear bw149
        clear hb151
        clear CA CB CG HCASE
        clear K152
        clear K153
        clear K154
        clear K155
        clear K156
        clear K158
        cases ux
        case false =>
          go_wp2_with fail
          go_ret
          exact ⟨rfl, bw160⟩
        case true =>
          go_wp2_with fail
          refine (Q5.out _ K157.out).mono ?_
          rintro e w161 ⟨rfl, hb162⟩
          have K163 := Lib.hid (K157.out.below hb162); clear K157
          have K164 := Lib.hid (K159.out.below hb162); clear K159
          have bw165 := ball bw160 hb162
          clear bw160
          clear hb162
          clear Q5
          obtain ⟨⟨f1, f2⟩, ⟨f3, f4⟩, f5⟩ := HFIN.out (by first | rfl | trivial)
          rw [HNG.out] at f4
          have HF2 := Lib.hid f2; have HF3 := Lib.hid f3; have HF4 := Lib.hid f4; have HF5 := Lib.hid f5
          clear HFIN f2 f3 f4 f5
          go_wp2_with fail
          go_loopw [44, 262] (fun s i wr => ∃ k : Nat, k ≤ nG ∧ i = .int .i64 k ∧ s = .int .i64 (((((G.take k).map List.length).sum : Nat) : Int)) ∧ Below w161.heap.size w161 wr) (fun _ i _ => nG - (intOf i).toNat)
          case atStart => exact ⟨0, Nat.zero_le _, rfl, rfl, Below.refl _ _⟩
          case round =>
            obtain ⟨wE, rfl⟩ : ∃ x : World, x = wr := ⟨_, rfl⟩
            obtain ⟨k, hk, rfl, rfl, hbel⟩ := hrel
            by_cases hlt : k < nG
            case pos =>
              have s1 := sumT G k (by rw [HNG.out]; exact hlt)
              have s2 := sumT_le G (k + 1)
              rw [HF5.out] at s2
              have s3 := HF2.out
              obtain ⟨b3, o3, a3', c3, rfl, hb3, k3, -⟩ := K164.out k (by rw [HNG.out]; exact hlt)
              have k3 := bcell hbel hb3 k3
              generalize ((G.take k).map List.length).sum = S at s1 ⊢
              generalize (G.getD k []).length = d at s1 k3
              have e6 : IntKind.i64.wrap ((S : Int) + (d : Int)) = ((((G.take (k + 1)).map List.length).sum : Nat) : Int) := by rw [i64_small (by omega) (by omega)]; omega
              obtain ⟨T, hT⟩ : ∃ T, ((G.take (k + 1)).map List.length).sum = T := ⟨_, rfl⟩
              rw [hT] at e6
              have HT := Lib.hid hT
              have x1 : (0 : Int) ≤ (k : Int) := by omega
              have x2 : (k : Int) < (nG : Int) := by omega
              clear s1 s2 s3 hT
              go_wp2_with fail
              go_roundw
              case rel => exact ⟨k + 1, by omega, by go_num, by rw [HT.out], hbel⟩
              case measure => simp [intOf]; omega
            case neg =>
              obtain rfl : k = nG := by omega
              rw [List.take_of_length_le (by rw [HNG.out]; exact Nat.le_refl _), HF5.out]
              obtain ⟨b3, o3, a3', c3, rfl, hb3, k3, -⟩ := K163.out 0 (by rw [HNX.out]; omega)
              rw [Nat.add_zero] at k3
              have k3 := bcell hbel hb3 k3
              generalize (X.getD 0 []).length = nC at k3 ⊢
              have d1 : decide (hi < lo) = false := decide_eq_false (by have := HF3.out; omega)
              have d2 : decide ((k : Int) < hi) = false := decide_eq_false (by have := HF4.out; omega)
              have y1 : 0 < nX := by omega
              have y2 : (0 : Int) < (nX : Int) := by omega
              go_wp2_with fail
              go_ret
              exact ⟨rfl, ball bw165 hbel⟩
end Go.Proofs.Ytnbenpalneodlaa
