/-
  The walk of 'laws.FnCellEdges': it returns true. Printed by gen_lawCs.py. By an AI agent.
-/
import Derived.Test.YtbcmnhppodfhpaaGreatCsW
import Derived.Deep.DeepCutAuto
import Derived.Deep.QuietTactic
namespace Go.Proofs.YtbcmnhppodfhpaaGreat
open Go.RowKit

theorem law_el {L : List Tm} (hB : planeB L = true) {j : Nat} (hj : j < (edgA L).length) (ad : Option Addr) (cap : Nat) : ∃ a b n : Int, (edgA L).getD j [] = [a, b] ∧ a < b ∧ 1 ≤ n ∧ ∀ w, RdT w ad L → L.length ≤ 1048576 → Calls Tryz.prog 16 #[.slice ad L.length cap, .int .i64 a, .int .i64 b] w fun e w' => e = .returned (.tuple #[.int .i64 n, .bool true]) ∧ Below w.heap.size w w' := by
  have hd := plane_dist hB
  obtain ⟨h0, h12, _⟩ := planeB_t hB
  have hm : (edgA L).getD j [] ∈ edgA L := by rw [List.getD_eq_getElem?_getD, List.getElem?_eq_getElem hj]; exact List.getElem_mem _
  obtain ⟨a, b, he, ha0, hab, hbl⟩ := edgA_two hd hm
  have hE : hasE L a b = true := by rw [hasE_mem hd, ← he]; exact hm
  refine ⟨a, b, lenE L a b, he, hab, lenE_pos hd hE, fun w hr hl => ?_⟩
  have h := iEdgeLength_c ad cap L a b w hr hl (wf_nat (by omega) (by omega)) (wf_nat (by omega) (by omega))
  rw [hB, hE, Bool.true_and, if_pos rfl] at h
  exact h
theorem law_sc {L : List Tm} {x y : Int} (hB : planeB L = true) (hm : mvB x y L = true) (ad : Option Addr) (cap : Nat) (adm : Option Addr) (cm : Nat) (w : World) (h1 : RdT w ad L) (h2 : RdT w adm (mvP x y L)) : Calls Tryz.prog 20 #[.slice ad L.length cap, .slice adm (mvP x y L).length cm] w fun e w' => e = .returned (.tuple #[.bool true, .bool true]) ∧ Below w.heap.size w w' := by
  obtain ⟨h0, h12, _⟩ := planeB_t hB
  have hp : planeB (mvP x y L) = true := by unfold mvB at hm; exact (Bool.and_eq_true_iff.1 hm).2
  have h := iHaveSameCells_c ad adm cap cm L (mvP x y L) w h1 h2 (by omega) (by rw [mvP_len]; omega)
  rw [hB, hp, smc_move] at h
  exact h
theorem if_lenM {b : Bool} {M : List (List Int)} {n : Nat} (h : b = true → M.length ≤ n) : (if b = true then M else []).length ≤ n := by
  split
  · rename_i e; exact h e
  · simp
theorem if_rowM {b : Bool} {M : List (List Int)} {n : Nat} (h : ∀ x ∈ M, x.length ≤ n) : ∀ i, i < (if b = true then M else []).length → ((if b = true then M else []).getD i []).length ≤ n := fun i hi => by
  split
  · rename_i e
    rw [if_pos e] at hi
    exact h _ (by rw [List.getD_eq_getElem?_getD, List.getElem?_eq_getElem hi]; exact List.getElem_mem _)
  · simp
theorem edg_row (L : List Tm) : ∀ x ∈ edgA L, x.length ≤ 1000 := fun x hx => by
  unfold edgA at hx
  rw [LstSort.putF_mem] at hx
  obtain ⟨c, _, hx⟩ := List.mem_flatMap.1 hx
  obtain ⟨e, _, rfl⟩ := List.mem_map.1 hx
  simp [prL]
theorem inn_row (L : List Tm) : ∀ x ∈ innA L, x.length ≤ 1000 := fun x hx => by
  unfold innA at hx
  exact edg_row L x (List.mem_filter.1 hx).1

set_option maxHeartbeats 64000000 in
set_option maxRecDepth 100000 in
theorem lawCellEdges_any (ad0 : Option Addr) (n0 cap0 : Nat) (ad1 : Option Addr) (n1 cap1 : Nat) (w : World) (hm0 : n0 ≤ 9223372036854775807) (hr0 : RdB w ad0 n0) (hm1 : n1 ≤ 9223372036854775807) (hr1 : RdB w ad1 n1) :
    Calls Tryz.prog 3 #[.slice ad0 n0 cap0, .slice ad1 n1 cap1] w fun e w' => e = .returned (.bool true) ∧ Below w.heap.size w w' := by
  have hb := Below.refl w.heap.size w
  have CD := Lib.hid (fun w h => drawInnerEdges_c ad0 n0 cap0 w hm0 h)
  have CV := Lib.hid (fun w h => drawHaveSameCells_c ad1 n1 cap1 w hm1 h)
  have CU := Lib.hid (fun w h => drawEdgeLength_c ad1 n1 cap1 w hm1 h)
  have HB0 := Lib.hid hr0; have K := Lib.hid hr1; clear hr0 hr1
  have CG := Lib.hid (big_c ad0 n0 cap0 ad1 n1 cap1 w hm0)
  generalize bigB n0 n1 = tb at CG
  cases tb
  case true =>
    go_enter Tryz.func3, Tryz.ntmps3
    go_wp2_with fail
    refine CG.out.mono ?_
    rintro e w1 ⟨rfl, rfl⟩
    go_wp2_with fail
    go_ret
    exact ⟨rfl, hb⟩
  case false =>
    go_enter Tryz.func3, Tryz.ntmps3
    go_wp2_with fail
    refine CG.out.mono ?_
    rintro e w0 ⟨rfl, rfl⟩
    clear CG
    go_wp2_with fail
    refine (CD.out _ HB0.out).mono ?_
    rintro e w1 ⟨ada, ca, L, rfl, hll, hra, hw⟩
    replace K := Lib.hid (K.out.below hw)
    have A := Lib.hid hra; clear hra
    replace hb := ball hb hw
    clear hw CD HB0
    have c1 := fun w h => iEdgesOfCells_c ada ca L w h (by omega)
    have c2 := fun w h => sEdgesOfCells_c ada ca L w h (by omega)
    have c3 := fun w h => iInnerEdges_c ada ca L w h (by omega)
    have c4 := fun w h => sInnerEdges_c ada ca L w h (by omega)
    have c5 := fun w h => iIsTriangulated_c ada ca L w h (by omega)
    have c6 := fun w h => sIsTriangulated_c ada ca L w h (by omega)
    have c7 := fun w h => iIsSmooth_c ada ca L w h (by omega)
    have c8 := fun w h => sIsSmooth_c ada ca L w h (by omega)
    have c9 := fun w h => iMovePlane_c ada ca L 1 (-2) w h (by omega)
    have c10 := fun w h => sMovePlane_c ada ca L 1 (-2) w h (by omega)
    have hel : planeB L = true → (edgA L).length ≤ 50000 := fun h => edgA_len (planeB_t h).2.1
    have l1 := if_lenM (M := edgA L) hel
    have l2 := if_lenM (M := innA L) (fun h => Nat.le_trans (inn_len L) (hel h))
    have l3 := if_rowM (b := planeB L) (edg_row L)
    have l4 := if_rowM (b := planeB L) (inn_row L)
    have hin : planeB L = true → ∀ j, j < (if planeB L = true then innA L else []).length → (if planeB L = true then innA L else []).getD j [] ∈ (if planeB L = true then edgA L else []) := fun h j hj => by
      rw [if_pos h] at hj ⊢
      rw [if_pos h]
      exact inn_in hj
    have hle : planeB L = true → ∀ j, j < (if planeB L = true then edgA L else []).length → ∃ a b n : Int, (if planeB L = true then edgA L else []).getD j [] = [a, b] ∧ a < b ∧ 1 ≤ n ∧ ∀ w, RdT w ada L → L.length ≤ 1048576 → Calls Tryz.prog 16 #[.slice ada L.length ca, .int .i64 a, .int .i64 b] w fun e w' => e = .returned (.tuple #[.int .i64 n, .bool true]) ∧ Below w.heap.size w w' := fun h j hj => by
      rw [if_pos h] at hj ⊢
      exact law_el h hj ada ca
    have hst : (planeB L && smoB L) = true → (planeB L && triB L) = true := fun h => by
      rw [Bool.and_eq_true] at h ⊢
      exact ⟨h.1, smooth_tri (plane_dist h.1) h.2⟩
    have hsc : planeB L = true → mvB 1 (-2) L = true → ∀ adm cm w, RdT w ada L → RdT w adm (if mvB 1 (-2) L = true then mvP 1 (-2) L else []) → Calls Tryz.prog 20 #[.slice ada L.length ca, .slice adm (if mvB 1 (-2) L = true then mvP 1 (-2) L else []).length cm] w fun e w' => e = .returned (.tuple #[.bool true, .bool true]) ∧ Below w.heap.size w w' := fun h h2 adm cm w r1 r2 => by
      rw [if_pos h2] at r2 ⊢
      exact law_sc h h2 ada ca adm cm w r1 r2
    have hml : (if mvB 1 (-2) L = true then mvP 1 (-2) L else []).length ≤ 1048576 := by
      split
      · rw [mvP_len]; omega
      · simp
    unfold LstO at c1 c2 c3 c4
    unfold PlnR at c9 c10
    generalize (if planeB L = true then edgA L else []) = ED at c1 c2 l1 l3 hin hle
    generalize (if planeB L = true then innA L else []) = IN at c3 c4 l2 l4 hin
    generalize (if mvB 1 (-2) L = true then mvP 1 (-2) L else []) = MZ at c9 c10 hsc hml
    generalize mvB 1 (-2) L = mb at c9 c10 hsc
    generalize (planeB L && triB L) = T at c5 c6 hst
    generalize (planeB L && smoB L) = SM at c7 c8 hst
    generalize planeB L = B at c1 c2 c3 c4 c5 c6 c7 c8 hin hle hsc
    obtain ⟨nI, hnI⟩ : ∃ z, IN.length = z := ⟨_, rfl⟩
    obtain ⟨nE, hnE⟩ : ∃ z, ED.length = z := ⟨_, rfl⟩
    have q1 := fun (w : World) (ade ade2 : Option Addr) (ce ce2 : Nat) (h1 : RdM w ade ED) (h2 : RdM w ade2 ED) => sameM_c ade ce ade2 ce2 ED w (by omega) (fun i hi => Nat.le_trans (l3 i hi) (by omega)) h1 h2
    have q2 := fun (w : World) (ade ade2 : Option Addr) (ce ce2 : Nat) (h1 : RdM w ade IN) (h2 : RdM w ade2 IN) => sameM_c ade ce ade2 ce2 IN w (by omega) (fun i hi => Nat.le_trans (l4 i hi) (by omega)) h1 h2
    rw [hnE] at c1 c2 l1 l3 hle q1
    rw [hnI] at c3 c4 l2 l4 hin q2
    have Q1 := Lib.hid q1; have Q2 := Lib.hid q2
    have HNI := Lib.hid hnI; have HNE := Lib.hid hnE
    clear hnI hnE q1 q2
    have C1 := Lib.hid c1; have C2 := Lib.hid c2; have C3 := Lib.hid c3; have C4 := Lib.hid c4; have C5 := Lib.hid c5; have C6 := Lib.hid c6; have C7 := Lib.hid c7; have C8 := Lib.hid c8; have C9 := Lib.hid c9; have C10 := Lib.hid c10
    have HIN := Lib.hid hin; have HLE := Lib.hid hle; have HST := Lib.hid hst; have HSC := Lib.hid hsc; have L3 := Lib.hid l3; have L4 := Lib.hid l4; have HLL := Lib.hid hll; have HML := Lib.hid hml
    clear c1 c2 c3 c4 c5 c6 c7 c8 c9 c10 hin hle hst hsc l3 l4 hel hll hml
    have ee1 : (B != B) = false := bne_self_eq_false B
    have ee2 : (T != T) = false := bne_self_eq_false T
    have ee3 : (SM != SM) = false := bne_self_eq_false SM
    go_wp2_with fail
    refine (C1.out _ A.out).mono ?_
    rintro e w2 ⟨ade, ce, rfl, hp, hw⟩
    replace K := Lib.hid (K.out.below hw)
    replace A := Lib.hid (A.out.below hw)
    have E1 := Lib.hid hp; clear hp
    replace hb := ball hb hw
    clear hw C1 
    go_wp2_with fail
    refine (C2.out _ A.out).mono ?_
    rintro e w3 ⟨ade2, ce2, rfl, hp, hw⟩
    replace K := Lib.hid (K.out.below hw)
    replace A := Lib.hid (A.out.below hw)
    replace E1 := Lib.hid (E1.out.below hw)
    have E2 := Lib.hid hp; clear hp
    replace hb := ball hb hw
    clear hw C2 
    go_wp2_with fail
    refine (C3.out _ A.out).mono ?_
    rintro e w4 ⟨adi, ci, rfl, hp, hw⟩
    replace K := Lib.hid (K.out.below hw)
    replace A := Lib.hid (A.out.below hw)
    replace E1 := Lib.hid (E1.out.below hw)
    replace E2 := Lib.hid (E2.out.below hw)
    have I1 := Lib.hid hp; clear hp
    replace hb := ball hb hw
    clear hw C3 
    go_wp2_with fail
    refine (C4.out _ A.out).mono ?_
    rintro e w5 ⟨adi2, ci2, rfl, hp, hw⟩
    replace K := Lib.hid (K.out.below hw)
    replace A := Lib.hid (A.out.below hw)
    replace E1 := Lib.hid (E1.out.below hw)
    replace E2 := Lib.hid (E2.out.below hw)
    replace I1 := Lib.hid (I1.out.below hw)
    have I2 := Lib.hid hp; clear hp
    replace hb := ball hb hw
    clear hw C4 
    go_wp2_with fail
    refine (C5.out _ A.out).mono ?_
    rintro e w6 ⟨rfl, hw⟩
    replace K := Lib.hid (K.out.below hw)
    replace A := Lib.hid (A.out.below hw)
    replace E1 := Lib.hid (E1.out.below hw)
    replace E2 := Lib.hid (E2.out.below hw)
    replace I1 := Lib.hid (I1.out.below hw)
    replace I2 := Lib.hid (I2.out.below hw)
    replace hb := ball hb hw
    clear hw C5 
    go_wp2_with fail
    refine (C6.out _ A.out).mono ?_
    rintro e w7 ⟨rfl, hw⟩
    replace K := Lib.hid (K.out.below hw)
    replace A := Lib.hid (A.out.below hw)
    replace E1 := Lib.hid (E1.out.below hw)
    replace E2 := Lib.hid (E2.out.below hw)
    replace I1 := Lib.hid (I1.out.below hw)
    replace I2 := Lib.hid (I2.out.below hw)
    replace hb := ball hb hw
    clear hw C6 
    go_wp2_with fail
    refine (C7.out _ A.out).mono ?_
    rintro e w8 ⟨rfl, hw⟩
    replace K := Lib.hid (K.out.below hw)
    replace A := Lib.hid (A.out.below hw)
    replace E1 := Lib.hid (E1.out.below hw)
    replace E2 := Lib.hid (E2.out.below hw)
    replace I1 := Lib.hid (I1.out.below hw)
    replace I2 := Lib.hid (I2.out.below hw)
    replace hb := ball hb hw
    clear hw C7 
    go_wp2_with fail
    refine (C8.out _ A.out).mono ?_
    rintro e w9 ⟨rfl, hw⟩
    replace K := Lib.hid (K.out.below hw)
    replace A := Lib.hid (A.out.below hw)
    replace E1 := Lib.hid (E1.out.below hw)
    replace E2 := Lib.hid (E2.out.below hw)
    replace I1 := Lib.hid (I1.out.below hw)
    replace I2 := Lib.hid (I2.out.below hw)
    replace hb := ball hb hw
    clear hw C8 
    have CQ1 := Lib.hid (fun w h1 h2 => Q1.out w ade ade2 ce ce2 h1 h2)
    have CQ2 := Lib.hid (fun w h1 h2 => Q2.out w adi adi2 ci ci2 h1 h2)
    clear Q1 Q2
    go_wp2_with fail
    refine (CQ1.out _ E1.out E2.out).mono ?_
    rintro e w10 ⟨rfl, hw⟩
    replace K := Lib.hid (K.out.below hw)
    replace A := Lib.hid (A.out.below hw)
    replace E2 := Lib.hid (E2.out.below hw)
    replace I1 := Lib.hid (I1.out.below hw)
    replace I2 := Lib.hid (I2.out.below hw)
    replace hb := ball hb hw
    clear hw CQ1 E1
    go_wp2_with fail
    refine (CQ2.out _ I1.out I2.out).mono ?_
    rintro e w11 ⟨rfl, hw⟩
    replace K := Lib.hid (K.out.below hw)
    replace A := Lib.hid (A.out.below hw)
    replace E2 := Lib.hid (E2.out.below hw)
    replace I2 := Lib.hid (I2.out.below hw)
    replace hb := ball hb hw
    clear hw CQ2 I1
    go_upto_if 149 with fail
    go_cut [] from 149 to 149 (fun wc => Below w11.heap.size w11 wc)
    case first =>
      clear K CU CV hb ee1 ee2 ee3
      have hb := Below.refl w11.heap.size w11
      cases B
      case false =>
        clear HIN HLE HST HSC C9 C10
        go_wp2_with fail
        go_meet
        exact hb
      case true =>
        have HINa := Lib.hid (HIN.out (by first | rfl | trivial)); have HLEa := Lib.hid (HLE.out (by first | rfl | trivial)); have HSCa := Lib.hid (HSC.out (by first | rfl | trivial))
        have L4a := Lib.hid L4.out
        have HINb := Lib.hid HINa.out
        have HLEb := Lib.hid HLEa.out
        have HPH := Lib.hid (fun u (h : Below w11.heap.size w11 u) x (hx : x ∈ ED) (hxl : x.length ≤ 1000) a c (hr : RdI u a x) => show Calls Tryz.prog 15 #[.slice ade2 nE ce2, .slice a x.length c] u fun e w' => e = .returned (.bool true) ∧ Below u.heap.size u w' from by
          rw [← HNE.out]
          exact pHas_c ade2 ce2 ED a c x u (by rw [HNE.out]; omega) hxl (E2.out.below h) hr hx)
        clear HIN HLE HSC HINa HLEa L4 L3
        go_wp2_with fail
        go_loopw [152] (fun i wr => ∃ k : Nat, k ≤ nI ∧ i = .int .i64 k ∧ Below w11.heap.size w11 wr) (fun i _ => nI - (intOf i).toNat)
        case atStart => exact ⟨0, Nat.zero_le _, rfl, Below.refl _ _⟩
        case round =>
          obtain ⟨wE, rfl⟩ : ∃ z : World, z = wr := ⟨_, rfl⟩
          obtain ⟨k, hk, rfl, hbel⟩ := hrel
          by_cases hlt : k < nI
          case pos =>
            obtain ⟨b1, o1, a1, c1, rfl, hbb1, k1, r1⟩ := (I2.out.below hbel) k (by rw [HNI.out]; exact hlt)
            have hx := HINb.out k hlt
            have hxl := L4a.out k hlt
            generalize IN.getD k [] = x at k1 r1 hx hxl
            have CP := Lib.hid (HPH.out wE hbel x hx hxl a1 c1 r1)
            generalize x.length = nx at k1 CP
            have x1 : (0 : Int) ≤ (k : Int) := by omega
            have x2 : (k : Int) < (nI : Int) := by omega
            clear r1 hx hxl
            go_wp2_with fail
            refine CP.out.mono ?_
            rintro e wF ⟨rfl, hw⟩
            have hbN := ball hbel hw
            go_wp2_with fail
            go_roundw
            case rel => exact ⟨k + 1, by omega, by go_num, hbN⟩
            case measure => simp [intOf]; omega
          case neg =>
            obtain rfl : k = nI := by omega
            clear HPH HINb L4a I2 HNI l2 hlt hk
            go_wp2_with fail
            go_loopw [163] (fun i wr => ∃ k : Nat, k ≤ nE ∧ i = .int .i64 k ∧ Below w11.heap.size w11 wr) (fun i _ => nE - (intOf i).toNat)
            case atStart => exact ⟨0, Nat.zero_le _, rfl, hbel⟩
            case round =>
              clear hbel
              obtain ⟨wG, rfl⟩ : ∃ z : World, z = wr := ⟨_, rfl⟩
              obtain ⟨j, hj, rfl, hbel⟩ := hrel
              by_cases hlt : j < nE
              case pos =>
                obtain ⟨b1, o1, a1, c1, rfl, hbb1, k1, r1⟩ := (E2.out.below hbel) j (by rw [HNE.out]; exact hlt)
                obtain ⟨x, y, n, he, hxy, hn, hc⟩ := HLEb.out j hlt
                rw [he] at k1 r1
                have e2 : ([x, y] : List Int).length = 2 := rfl
                rw [e2] at k1
                obtain ⟨g2, o2, rfl, hg2, q0⟩ := r1 0 (by simp)
                have q1 := r1.at (j := 1) (by simp)
                rw [Nat.add_zero] at q0
                have q0 : wG.cell? ⟨g2, o2, none⟩ = some (.int .i64 x) := q0
                have q1 : wG.cell? ⟨g2, o2 + 1, none⟩ = some (.int .i64 y) := q1
                have CL := Lib.hid (fun u (h : Below wG.heap.size wG u) => hc u ((A.out.below hbel).below h) (by have := HLL.out; omega))
                have x1 : (0 : Int) ≤ (j : Int) := by omega
                have x2 : (j : Int) < (nE : Int) := by omega
                have g1 : decide (n < 1) = false := decide_eq_false (by omega)
                have g2' : ¬ n < 1 := by omega
                have g3 : decide (y ≤ x) = false := decide_eq_false (by omega)
                have g4 : ¬ y ≤ x := by omega
                have f0 : (0 : Int) < 2 := by omega
                clear r1 he e2 hc
                go_wp2_with fail
                go_region_held3 (fun w' => w'.cell? ⟨g2, o2, none⟩ = some (.int .i64 x) ∧ w'.cell? ⟨g2, o2 + 1, none⟩ = some (.int .i64 y)) (exact ⟨by assumption, by assumption⟩)
                  ((go_at_call 16; (with_reducible refine (CL.out _ (by with_reducible (first | exact Below.refl _ _ | exact (Below.refl _ _).drew))).mono ?_); rintro e W1 ⟨rfl, hw1⟩; have hb1 : Below wG.heap.size wG W1 := ball (by with_reducible (first | exact Below.refl _ _ | exact (Below.refl _ _).drew)) hw1; have p0 := bcell hb1 hg2 q0; have p1 := bcell hb1 hg2 q1))
                all_goals
                  clear q0 q1
                  go_wp2_with fail
                  go_quiet (fail)
                  have hbN := bdrewN (hbel.trans (hb1.mono hbel.size)) nq
                  go_wp2_with fail
                  go_roundw
                  case rel => exact ⟨j + 1, by omega, by go_num, hbN⟩
                  case measure => simp [intOf]; omega
              case neg =>
                obtain rfl : j = nE := by omega
                clear HLEb E2 HNE l1 hlt hj
                replace A := Lib.hid (A.out.below hbel)
                replace hb := hbel
                clear hbel
                have ee4 : (mb != mb) = false := bne_self_eq_false mb
                obtain ⟨gg, hgg⟩ : ∃ z : Bool, (SM && !T) = z := ⟨_, rfl⟩
                have hgf : gg = false := by
                  rw [← hgg]
                  cases SM
                  · rfl
                  · rw [HST.out rfl]; rfl
                rw [hgf] at hgg
                clear HST hgf
                cases SM
                case false =>
                  clear hgg
                  go_wp2_with fail
                  refine (C9.out _ A.out).mono ?_
                  rintro e w52 ⟨adm, cm, rfl, hp, hw⟩
                  replace A := Lib.hid (A.out.below hw)
                  have M1 := Lib.hid hp; clear hp
                  replace hb := ball hb hw
                  clear hw C9 
                  go_wp2_with fail
                  refine (C10.out _ A.out).mono ?_
                  rintro e w53 ⟨adm2, cm2, rfl, hp, hw⟩
                  replace A := Lib.hid (A.out.below hw)
                  replace M1 := Lib.hid (M1.out.below hw)
                  have M2 := Lib.hid hp; clear hp
                  replace hb := ball hb hw
                  clear hw C10 
                  have CT := Lib.hid (fun w h1 h2 => pSameT_c adm adm2 cm cm2 MZ w h1 h2 (by have := HML.out; omega))
                  go_wp2_with fail
                  refine (CT.out _ M1.out M2.out).mono ?_
                  rintro e w54 ⟨rfl, hw⟩
                  replace A := Lib.hid (A.out.below hw)
                  replace M1 := Lib.hid (M1.out.below hw)
                  replace hb := ball hb hw
                  clear hw CT M2
                  clear ee4
                  cases mb
                  case false =>
                    go_wp2_with fail
                    go_meet
                    exact hb
                  case true =>
                    have CS := Lib.hid (HSCa.out (by first | rfl | trivial) adm cm)
                    go_wp2_with fail
                    refine (CS.out _ A.out M1.out).mono ?_
                    rintro e wz ⟨rfl, hw⟩
                    replace hb := ball hb hw
                    clear hw
                    go_wp2_with fail
                    go_meet
                    exact hb
                case true =>
                  obtain rfl : T = true := by simpa using hgg
                  clear hgg
                  go_wp2_with fail
                  refine (C9.out _ A.out).mono ?_
                  rintro e w52 ⟨adm, cm, rfl, hp, hw⟩
                  replace A := Lib.hid (A.out.below hw)
                  have M1 := Lib.hid hp; clear hp
                  replace hb := ball hb hw
                  clear hw C9 
                  go_wp2_with fail
                  refine (C10.out _ A.out).mono ?_
                  rintro e w53 ⟨adm2, cm2, rfl, hp, hw⟩
                  replace A := Lib.hid (A.out.below hw)
                  replace M1 := Lib.hid (M1.out.below hw)
                  have M2 := Lib.hid hp; clear hp
                  replace hb := ball hb hw
                  clear hw C10 
                  have CT := Lib.hid (fun w h1 h2 => pSameT_c adm adm2 cm cm2 MZ w h1 h2 (by have := HML.out; omega))
                  go_wp2_with fail
                  refine (CT.out _ M1.out M2.out).mono ?_
                  rintro e w54 ⟨rfl, hw⟩
                  replace A := Lib.hid (A.out.below hw)
                  replace M1 := Lib.hid (M1.out.below hw)
                  replace hb := ball hb hw
                  clear hw CT M2
                  clear ee4
                  cases mb
                  case false =>
                    go_wp2_with fail
                    go_meet
                    exact hb
                  case true =>
                    have CS := Lib.hid (HSCa.out (by first | rfl | trivial) adm cm)
                    go_wp2_with fail
                    refine (CS.out _ A.out M1.out).mono ?_
                    rintro e wz ⟨rfl, hw⟩
                    replace hb := ball hb hw
                    clear hw
                    go_wp2_with fail
                    go_meet
                    exact hb
    case rest =>
      obtain ⟨wR, rfl⟩ : ∃ x : World, x = wc := ⟨_, rfl⟩
      clear A E2 I2
      replace K := Lib.hid (K.out.below hcut)
      replace hb := ball hb hcut
      clear hcut
      clear C9 C10 HIN HLE HST HSC L3 L4 HLL HML l1 l2 ee1 ee2 ee3
      go_wp2_with fail
      refine (CV.out _ K.out).mono ?_
      rintro e w72 ⟨adx, cx, X, ady, cy, Y, rfl, ⟨hlx, hly⟩, hrx, hry, hw⟩
      replace K := Lib.hid (K.out.below hw)
      have X1 := Lib.hid hrx; clear hrx
      have Y1 := Lib.hid hry; clear hry
      replace hb := ball hb hw
      clear hw CV 
      have c1 := fun w h h2 => iHaveSameCells_c adx ady cx cy X Y w h h2 (by omega) (by omega)
      have c2 := fun w h h2 => sHaveSameCells_c adx ady cx cy X Y w h h2 (by omega) (by omega)
      have c3 := fun w h h2 => iHaveSameCells_c ady adx cy cx Y X w h h2 (by omega) (by omega)
      rw [(smc_back X Y).1, (smc_back X Y).2] at c3
      generalize (planeB X && (planeB Y && smcB X Y)) = q1 at c1 c2 c3
      generalize (planeB X && planeB Y) = q2 at c1 c2 c3
      have C1 := Lib.hid c1; have C2 := Lib.hid c2; have C3 := Lib.hid c3
      clear c1 c2 c3 hlx hly
      go_wp2_with fail
      refine (C1.out _ X1.out Y1.out).mono ?_
      rintro e w73 ⟨rfl, hw⟩
      replace K := Lib.hid (K.out.below hw)
      replace X1 := Lib.hid (X1.out.below hw)
      replace Y1 := Lib.hid (Y1.out.below hw)
      replace hb := ball hb hw
      clear hw C1 
      go_wp2_with fail
      refine (C2.out _ X1.out Y1.out).mono ?_
      rintro e w74 ⟨rfl, hw⟩
      replace K := Lib.hid (K.out.below hw)
      replace X1 := Lib.hid (X1.out.below hw)
      replace Y1 := Lib.hid (Y1.out.below hw)
      replace hb := ball hb hw
      clear hw C2 
      go_wp2_with fail
      refine (CU.out _ K.out).mono ?_
      rintro e w75 ⟨adz, cz, Z, zj, zk, rfl, hlz, ⟨hwj, hwk⟩, hrz, hw⟩
      replace X1 := Lib.hid (X1.out.below hw)
      replace Y1 := Lib.hid (Y1.out.below hw)
      have Z1 := Lib.hid hrz; clear hrz
      replace hb := ball hb hw
      clear hw CU K
      have c1 := fun w h => iEdgeLength_c adz cz Z zj zk w h (by omega) hwj hwk
      have c2 := fun w h => sEdgeLength_c adz cz Z zj zk w h (by omega) hwj hwk
      generalize (if (planeB Z && hasE Z zj zk) = true then lenE Z zj zk else 0) = q3 at c1 c2
      generalize (planeB Z && hasE Z zj zk) = q4 at c1 c2
      have C1 := Lib.hid c1; have C2 := Lib.hid c2
      clear c1 c2 hlz hwj hwk
      have ee1 : (q1 != q1) = false := bne_self_eq_false q1
      have ee2 : (q2 != q2) = false := bne_self_eq_false q2
      have ee3 : (q4 != q4) = false := bne_self_eq_false q4
      have ee4 : (q3 != q3) = false := bne_self_eq_false q3
      have ee5 : (q1 == q1) = true := beq_self_eq_true q1
      go_wp2_with fail
      refine (C1.out _ Z1.out).mono ?_
      rintro e w76 ⟨rfl, hw⟩
      replace X1 := Lib.hid (X1.out.below hw)
      replace Y1 := Lib.hid (Y1.out.below hw)
      replace Z1 := Lib.hid (Z1.out.below hw)
      replace hb := ball hb hw
      clear hw C1 
      go_wp2_with fail
      refine (C2.out _ Z1.out).mono ?_
      rintro e w77 ⟨rfl, hw⟩
      replace X1 := Lib.hid (X1.out.below hw)
      replace Y1 := Lib.hid (Y1.out.below hw)
      replace hb := ball hb hw
      clear hw C2 Z1
      cases q2
      case false =>
        go_wp2_with fail
        go_ret
        exact ⟨rfl, hb⟩
      case true =>
        go_wp2_with fail
        refine (C3.out _ Y1.out X1.out).mono ?_
        rintro e w78 ⟨rfl, hw⟩
        replace hb := ball hb hw
        clear hw C3 X1 Y1
        go_wp2_with fail
        go_ret
        exact ⟨rfl, hb⟩

end Go.Proofs.YtbcmnhppodfhpaaGreat
