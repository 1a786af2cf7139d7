/-
  The first regular part, the rank: the reference's. By an AI agent.
-/
import Derived.Test.YtnbenpalneodlaaRkI
namespace Go.Proofs.Ytnbenpalneodlaa
open Go.RowKit

theorem any_take_end {W : List (List Int)} {K : Nat} {f : List Int → Bool} (hK : W.length = K) (h : (W.take K).any f = false) : W.any f = false := by
  rwa [List.take_of_length_le (by omega)] at h
theorem any_take_one {W : List (List Int)} {k : Nat} {f : List Int → Bool} (hk : k < W.length) (h : (W.take k).any f = false) (h2 : f (W.getD k []) = false) : (W.take (k + 1)).any f = false := by
  rw [takeL_snoc W k hk, List.any_append, h, List.any_cons, List.any_nil, h2]
  rfl
theorem getD_memL {W : List (List Int)} {k : Nat} (hk : k < W.length) : W.getD k [] ∈ W := by
  rw [List.getD_eq_getElem?_getD, List.getElem?_eq_getElem hk, Option.getD_some]
  exact List.getElem_mem hk

set_option maxHeartbeats 6400000 in
set_option maxRecDepth 100000 in
theorem rkFirst_c (R C n : Nat) (ad : Option Addr) (cap : Nat) (m : Nat → Nat → Int) (w : World) (hr : RdM w ad (toG R C m)) (hR : 1 ≤ R ∧ R ≤ 6) (hC : 1 ≤ C ∧ C ≤ 6) (hn : 1 ≤ n ∧ n ≤ 6) (hnum : ∀ a b, a < R → b < C → numB (m a b) = true) :
    Calls Try.prog 60 #[.slice ad R cap, .int .i64 (n : Int)] w fun e w' => ∃ v1 v2, e = .returned (.tuple #[v1, v2, .bool (hasR R C n m)]) ∧ Below w.heap.size w w' := by
  have CP := Lib.hid (fun u (hb : Below w.heap.size w u) ar capr r ac capc c (h1 : r ∈ rkC n R) (h2 : c ∈ rkC n C) (g1 : RdI u ar r) (g2 : RdI u ac c) => rkPart_c R C n ad cap m ar capr r ac capc c u (hr.below hb) hR hC g1 g2 (rkC_mem.1 h1).2.vt (rkC_mem.1 h2).2.vt (rkC_mem.1 h1).1 (rkC_mem.1 h2).1 hn)
  have CS := Lib.hid (fun r c (h1 : r ∈ rkC n R) (h2 : c ∈ rkC n C) u ad' cap' (h : RdM u ad' (toM n (ptM m r c))) => rkSingular_c n ad' cap' (ptM m r c) u h hn (ptM_num hnum (rkC_mem.1 h1).2.vt (rkC_mem.1 h2).2.vt (rkC_mem.1 h1).1 (rkC_mem.1 h2).1))
  have C1 := Lib.hid (rkChoices_c n R w hn.2 hR.2)
  have C2 := Lib.hid (fun u => rkChoices_c n C u hn.2 hC.2)
  have HLR := Lib.hid (fun c (hc : c ∈ rkC n R) => (rkC_mem.1 hc).1)
  have HLC := Lib.hid (fun c (hc : c ∈ rkC n C) => (rkC_mem.1 hc).1)
  have h6 : 6 ^ n ≤ 46656 := Nat.pow_le_pow_right (n := 6) (by omega) hn.2
  have hw1 : (rkC n R).length ≤ 50000 := by have := rkC_len n hR.2; omega
  have hw2 : (rkC n C).length ≤ 50000 := by have := rkC_len n hC.2; omega
  obtain ⟨bM, oM, rfl, hbM, hrow⟩ := hr.rowG (by omega) (by omega)
  obtain ⟨b2, o2, c2, e2, hl2, hc2⟩ := hrow 0 (by omega)
  rw [Nat.add_zero] at e2
  have y0 : 0 < R := by omega
  rw [hasR_any]
  unfold ChR at C1 C2
  generalize rkC n R = W1 at CP CS C1 HLR hw1 ⊢
  generalize rkC n C = W2 at CP CS C2 HLC hw2 ⊢
  obtain ⟨D, hD⟩ : ∃ D, (W1.any fun r => W2.any fun c => regF n (ptM m r c)) = D := ⟨_, rfl⟩
  rw [hD]
  have HD := Lib.hid hD
  clear hr hnum hrow hc2 hD h6
  go_enter Try.func60, Try.ntmps60
  go_wp2_with fail
  refine C1.out.mono ?_
  rintro e w1 ⟨ad1, cap1, rfl, ⟨us1, hm1⟩, hb1⟩
  obtain ⟨K1, hK1⟩ : ∃ K, W1.length = K := ⟨_, rfl⟩
  rw [hK1] at hm1 hw1 ⊢
  have HK1 := Lib.hid hK1
  have HM1 := Lib.hid hm1
  clear hm1 hK1 C1
  go_wp2_with fail
  go_loopw [16] (fun i wr => ∃ k : Nat, k ≤ K1 ∧ i = .int .i64 k ∧ ((W1.take k).any fun r => W2.any fun c => regF n (ptM m r c)) = false ∧ Below w1.heap.size w1 wr) (fun i _ => K1 - (intOf i).toNat)
  case atStart => exact ⟨0, Nat.zero_le _, rfl, rfl, Below.refl _ _⟩
  case round =>
    obtain ⟨wE, rfl⟩ : ∃ x : World, x = wr := ⟨_, rfl⟩
    obtain ⟨k, hk, rfl, hany, hbE⟩ := hrel
    have hbw := ball hb1 hbE
    by_cases hlt : k < K1
    case neg =>
      obtain rfl : k = K1 := by omega
      have HE := Lib.hid (show D = false by rw [← HD.out]; exact any_take_end HK1.out hany)
      clear hany
      go_wp2_with fail
      exact bodyPost_ret (v := .tuple #[.slice none 0 0, .slice none 0 0, .bool false]) (by simp [results, Try.results60, go_sem]) rfl ⟨_, _, by rw [HE.out], hbw⟩
    case pos =>
      obtain ⟨gW, ar, cr, rfl, hgW, c1, hce⟩ := HM1.out.atL (i := k) (by rw [HK1.out]; exact hlt)
      have hmem := getD_memL (W := W1) (k := k) (by rw [HK1.out]; exact hlt)
      have HTK := Lib.hid (fun (h : (W2.any fun c => regF n (ptM m (W1.getD k []) c)) = false) => any_take_one (f := fun r => W2.any fun c => regF n (ptM m r c)) (by rw [HK1.out]; exact hlt) hany h)
      generalize W1.getD k [] = r at c1 hce hmem HTK
      have hlr := HLR.out r hmem
      rw [hlr] at c1 hce
      have c3 := bcell hbE hgW c1
      have HRR := Lib.hid (hce.below hbE).rd
      have HMEM := Lib.hid hmem
      have e3 := bcell hbw hbM e2
      have x1 : (0 : Int) ≤ (k : Int) := by omega
      have x2 : (k : Int) < (K1 : Int) := by omega
      clear c1 hce hmem hany hlr
      go_wp2_with fail
      refine (C2.out _).mono ?_
      rintro e w2 ⟨ad2, cap2, rfl, ⟨us2, hm2⟩, hb2⟩
      obtain ⟨K2, hK2⟩ : ∃ K, W2.length = K := ⟨_, rfl⟩
      rw [hK2] at hm2 hw2 ⊢
      have HK2 := Lib.hid hK2
      have HM2 := Lib.hid hm2
      have hbE2 := ball hbE hb2
      have hbw2 := ball hbw hb2
      clear hm2 hK2 c3 e3
      go_wp2_with fail
      go_loopw [27] (fun i wr => ∃ j : Nat, j ≤ K2 ∧ i = .int .i64 j ∧ ((W2.take j).any fun c => regF n (ptM m r c)) = false ∧ Below w2.heap.size w2 wr) (fun i _ => K2 - (intOf i).toNat)
      case atStart => exact ⟨0, Nat.zero_le _, rfl, rfl, Below.refl _ _⟩
      case round =>
        obtain ⟨wF, rfl⟩ : ∃ x : World, x = wr := ⟨_, rfl⟩
        obtain ⟨j, hj, rfl, hany, hbF⟩ := hrel
        by_cases hlj : j < K2
        case neg =>
          obtain rfl : j = K2 := by omega
          have HE := Lib.hid (HTK.out (any_take_end HK2.out hany))
          have hbE3 := ball hbE2 hbF
          clear hany
          go_wp2_with fail
          go_roundw
          case rel => exact ⟨k + 1, by omega, by go_num, HE.out, hbE3⟩
          case measure => simp [intOf]; omega
        case pos =>
          obtain ⟨gV, ac, cc, rfl, hgV, d1, hde⟩ := HM2.out.atL (i := j) (by rw [HK2.out]; exact hlj)
          have hmemc := getD_memL (W := W2) (k := j) (by rw [HK2.out]; exact hlj)
          have HTJ := Lib.hid (fun (h : regF n (ptM m r (W2.getD j [])) = false) => any_take_one (f := fun c => regF n (ptM m r c)) (by rw [HK2.out]; exact hlj) hany h)
          generalize W2.getD j [] = c at d1 hde hmemc HTJ
          have hlc := HLC.out c hmemc
          rw [hlc] at d1 hde
          have d3 := bcell hbF hgV d1
          have hbwF := ball hbw2 hbF
          have CPP := Lib.hid (CP.out wF hbwF ar cr r ac cc c HMEM.out hmemc ((HRR.out.below hb2).below hbF) ((hde.below hbF).rd))
          have CSS := Lib.hid (CS.out r c HMEM.out hmemc)
          have HT := Lib.hid (fun (h : regF n (ptM m r c) = true) => show D = true by
            rw [← HD.out]
            exact List.any_eq_true.2 ⟨r, HMEM.out, List.any_eq_true.2 ⟨c, hmemc, h⟩⟩)
          have z1 : (0 : Int) ≤ (j : Int) := by omega
          have z2 : (j : Int) < (K2 : Int) := by omega
          generalize regF n (ptM m r c) = B at CSS HTJ HT
          clear d1 hde hmemc hany hlc
          cases B
          · go_wp2_with fail
            refine CPP.out.mono ?_
            rintro e w4 ⟨ad4, cap4, rfl, hrd4, hb4⟩
            have CS4 := Lib.hid (CSS.out _ ad4 cap4 hrd4)
            clear hrd4
            go_wp2_with fail
            refine CS4.out.mono ?_
            rintro e w5 ⟨rfl, hb5⟩
            have hb6 := ball (ball hbF hb4) hb5
            go_wp2_with fail
            go_roundw
            case rel => exact ⟨j + 1, by omega, by go_num, HTJ.out (by first | rfl | trivial), hb6⟩
            case measure => simp [intOf]; omega
          · have hDt := HT.out (by first | rfl | trivial)
            subst hDt
            go_wp2_with fail
            refine CPP.out.mono ?_
            rintro e w4 ⟨ad4, cap4, rfl, hrd4, hb4⟩
            have CS4 := Lib.hid (CSS.out _ ad4 cap4 hrd4)
            clear hrd4
            go_wp2_with fail
            refine CS4.out.mono ?_
            rintro e w5 ⟨rfl, hb5⟩
            have hb6 := ball (ball hbwF hb4) hb5
            go_wp2_with fail
            exact bodyPost_ret (v := .tuple #[.slice ar n cr, .slice ac n cc, .bool true]) (by simp [results, Try.results60, go_sem]) rfl ⟨_, _, rfl, hb6⟩

set_option maxHeartbeats 3200000 in
set_option maxRecDepth 100000 in
theorem rkRank_c (R C : Nat) (ad : Option Addr) (cap : Nat) (m : Nat → Nat → Int) (w : World) (hr : RdM w ad (toG R C m)) (hR : 1 ≤ R ∧ R ≤ 6) (hC : 1 ≤ C ∧ C ≤ 6) (hnum : ∀ a b, a < R → b < C → numB (m a b) = true) :
    Calls Try.prog 39 #[.slice ad R cap] w fun e w' => e = .returned (.int .i64 ((rkF R C m (min R C) : Nat) : Int)) ∧ Below w.heap.size w w' := by
  have CF := Lib.hid (fun n (hn : 1 ≤ n ∧ n ≤ 6) u (hb : Below w.heap.size w u) => rkFirst_c R C n ad cap m u (hr.below hb) hR hC hn hnum)
  obtain ⟨bM, oM, rfl, hbM, hrow⟩ := hr.rowG (by omega) (by omega)
  obtain ⟨b2, o2, c2, e2, hl2, hc2⟩ := hrow 0 (by omega)
  rw [Nat.add_zero] at e2
  have y0 : 0 < R := by omega
  have HS := Lib.hid (fun n => show rkF R C m (n + 1) = if hasR R C (n + 1) m = true then n + 1 else rkF R C m n from rfl)
  have H0 := Lib.hid (show rkF R C m 0 = 0 from rfl)
  obtain ⟨N, hN⟩ : ∃ N, min R C = N := ⟨_, rfl⟩
  have CL := Lib.hid (fun w => l1Least_n (R : Int) (C : Int) w)
  have hmin : leastZ (R : Int) (C : Int) = (N : Int) := by unfold leastZ; split <;> omega
  rw [hmin] at CL
  have hN6 : N ≤ 6 := by omega
  rw [hN]
  obtain ⟨D, hD⟩ : ∃ D, rkF R C m N = D := ⟨_, rfl⟩
  rw [hD]
  have HD := Lib.hid hD
  clear hr hnum hrow hc2 hN hD hmin
  go_enter Try.func39, Try.ntmps39
  go_wp2_with fail
  refine (CL.out _).mono ?_
  rintro e w' ⟨rfl, rfl⟩
  go_wp2_with fail
  go_loopw [3] (fun v wr => ∃ t : Nat, t ≤ 6 ∧ v = .int .i64 t ∧ rkF R C m t = D ∧ Below w.heap.size w wr) (fun v _ => (intOf v).toNat)
  case atStart => exact ⟨_, hN6, rfl, HD.out, Below.refl _ _⟩
  case round =>
    obtain ⟨wE, rfl⟩ : ∃ x : World, x = wr := ⟨_, rfl⟩
    obtain ⟨t, ht, rfl, hrk, hbel⟩ := hrel
    clear HD e2
    by_cases h0 : t = 0
    case pos =>
      subst h0
      have HE := Lib.hid (show D = 0 by rw [← hrk, H0.out])
      clear hrk
      go_wp2_with fail
      go_ret
      exact ⟨by rw [HE.out]; rfl, hbel⟩
    case neg =>
      obtain ⟨q, hq⟩ : ∃ q, t = q + 1 := ⟨t - 1, by omega⟩
      have hst := HS.out q
      rw [← hq, hrk] at hst
      have C2 := Lib.hid (CF.out t (by omega) wE hbel)
      have e1 : IntKind.i64.wrap ((t : Int) - 1) = (q : Int) := by rw [i64_small (by omega) (by omega)]; omega
      obtain ⟨B, hB⟩ : ∃ B, hasR R C t m = B := ⟨_, rfl⟩
      rw [hB] at C2 hst
      have hqt : q < t := by omega
      have hq6 : q ≤ 6 := by omega
      clear hrk hB hq
      cases B
      · have HST := Lib.hid (show rkF R C m q = D by rw [hst]; simp)
        clear hst
        go_wp2_with fail
        refine C2.out.mono ?_
        rintro e w2 ⟨v1, v2, rfl, hb2⟩
        have hb3 := ball hbel hb2
        go_wp2_with fail
        go_roundw
        case rel => exact ⟨q, hq6, by go_num, HST.out, hb3⟩
        case measure => simp [intOf]; omega
      · have HST := Lib.hid (show D = t by rw [hst]; simp)
        clear hst
        go_wp2_with fail
        refine C2.out.mono ?_
        rintro e w2 ⟨v1, v2, rfl, hb2⟩
        have hb3 := ball hbel hb2
        go_wp2_with fail
        go_ret
        exact ⟨by rw [HST.out]; rfl, hb3⟩
theorem rkRankR_c (ad : Option Addr) (cap : Nat) (M : List (List Int)) (w : World) (hr : RdM w ad M) (h : matB M = true) :
    Calls Try.prog 39 #[.slice ad M.length cap] w fun e w' => e = .returned (.int .i64 ((trk M : Nat) : Int)) ∧ Below w.heap.size w w' := by
  obtain ⟨h1, h2, _, h4, h5⟩ := mat_facts h
  exact rkRank_c M.length (colN M) ad cap (entM M) w (by rw [h5]; exact hr) h1 h2 h4
end Go.Proofs.Ytnbenpalneodlaa
