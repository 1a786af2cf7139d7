/-
  What a way costs, the reference's; and what the draws of ways give. By an AI agent.
-/
import Derived.Test.YtbffcbjbeeagmaaWzI
import Derived.Test.YtbffcbjbeeagmaaWyY
namespace Go.Proofs.Ytbffcbjbeeagmaa
open Go.RowKit

set_option maxHeartbeats 1600000 in
set_option maxRecDepth 100000 in
theorem sCostOfWay_c (ad : Option Addr) (cap : Nat) (M : List (List Int)) (adw : Option Addr) (capw : Nat) (l : List Int) (w : World) (hr : RdM w ad M) (hm : smM M) (hw : RdI w adw l) (hl : l.length ≤ 1048576) :
    Calls Try.prog 18 #[.slice ad M.length cap, .slice adw l.length capw] w fun e w' => e = .returned (pairV (if cowW M l = true then toldZ (cowX M l) else 0) (cowW M l && numB (cowX M l))) ∧ Below w.heap.size w w' := by
  have C1 := Lib.hid (mxSquare_c ad cap M w hr (by have := hm.1; omega) (fun i hi => by have := hm.2 i hi; omega))
  have C2 := Lib.hid (fun (h : sqB M = true) u (hb : Below w.heap.size w u) => by
    obtain ⟨hn, _, hnum⟩ := sq_facts h
    have hr2 := hr.below hb
    rw [← sq_toM h] at hr2
    exact wyWay_c M.length ad cap (entM M) adw capw l u hr2 (hw.below hb) hn hl)
  have HRD := Lib.hid (fun (h : sqB M = true) => (show RdM w ad (toM M.length (entM M)) by rw [sq_toM h]; exact hr))
  have HSQ := Lib.hid (fun (h : sqB M = true) => (sq_facts h).1)
  have HV := Lib.hid (fun (h : sqB M = true) (h2 : wayB M.length (entM M) l = true) => by
    have hnum : ∀ a b, a < M.length → b < M.length → numB (entM M a b) = true := (sq_facts h).2.2
    unfold wayB at h2
    simp only [Bool.and_eq_true] at h2
    have h1 := inB_t.1 h2.1
    have h3 := stB_t.1 h2.2.2
    exact (show (1 ≤ l.length ∧ l.length ≤ 20) ∧ (∀ t, t < l.length → l.getD t 0 = (vx l t : Int) ∧ vx l t < M.length) ∧ (∀ t, t + 1 < l.length → coF (entM M) l (t + 1) = coF (entM M) l t + entM M (vx l t) (vx l (t + 1)) ∧ -20000000 ≤ coF (entM M) l t ∧ coF (entM M) l t ≤ 20000000 ∧ -1000000 ≤ entM M (vx l t) (vx l (t + 1)) ∧ entM M (vx l t) (vx l (t + 1)) ≤ 1000000) from
      ⟨⟨by omega, by omega⟩, fun t ht => vt_at h2.2.1 ht, fun t ht => by
        have g1 := h3 t (by omega)
        have g2 := numB_t (hnum _ _ (vt_at h2.2.1 (t := t) (by omega)).2 (vt_at h2.2.1 ht).2)
        have g4 : coF (entM M) l t ≠ 1000000000 ∧ -20000000 ≤ coF (entM M) l t ∧ coF (entM M) l t ≤ 20000000 := by
          rcases co_bd hnum h2.2.1 (by omega) t (by omega) with ⟨g3, _⟩ | ⟨_, g3, g5⟩
          · rw [stB_t.2 (fun s hs => h3 s (by omega))] at g3; cases g3
          · refine ⟨by omega, by omega, by omega⟩
        have g5 : coF (entM M) l (t + 1) = prodZ (coF (entM M) l t) (entM M (vx l t) (vx l (t + 1))) := rfl
        refine ⟨by rw [g5, prodZ_fin g4.1 g1], g4.2.1, g4.2.2, by omega, by omega⟩⟩))
  have C4 := Lib.hid (fun w => nuIf_c (cowX M l) w)
  have HX := Lib.hid (show coF (entM M) l (l.length - 1) = cowX M l from rfl)
  have HP := Lib.hid hw
  have hn0 := hm.1
  clear hr hm hw
  unfold cowW pairV at *
  generalize cowX M l = X at C4 HX ⊢
  generalize toldZ X = T at C4 ⊢
  generalize numB X = U at C4 ⊢
  generalize wayB M.length (entM M) l = W at C2 HV ⊢
  generalize sqB M = S at C1 C2 HRD HSQ HV ⊢
  generalize entM M = m at C2 HRD HV HX
  generalize M.length = n at C1 C2 HRD HSQ HV hn0 ⊢
  cases S
  · clear C2 HV
    go_enter Try.func18, Try.ntmps18
    go_wp2_with fail
    refine C1.out.mono ?_
    rintro e w1 ⟨rfl, rfl⟩
    go_wp2_with fail
    go_ret2
    exact ⟨rfl, Below.refl _ _⟩
  · have D2 := Lib.hid (C2.out rfl _ (Below.refl _ _))
    clear C2
    cases W
    · clear HV
      go_enter Try.func18, Try.ntmps18
      go_wp2_with fail
      refine C1.out.mono ?_
      rintro e w1 ⟨rfl, rfl⟩
      go_wp2_with fail
      refine D2.out.mono ?_
      rintro e w2 ⟨rfl, hb2⟩
      go_wp2_with fail
      go_ret2
      exact ⟨rfl, hb2⟩
    · obtain ⟨hl20, hvt, hco⟩ := HV.out rfl rfl
      have HR := Lib.hid (HRD.out rfl)
      have hn := HSQ.out rfl
      have HVT := Lib.hid hvt; have HCO := Lib.hid hco
      clear HV HRD HSQ hvt hco
      obtain ⟨N, hN⟩ : ∃ N, l.length = N := ⟨_, rfl⟩
      have HN := Lib.hid hN
      rw [hN] at hl20 HVT HCO HX D2 ⊢
      clear hN hl
      simp only [Bool.and_self, ↓reduceIte, Bool.true_and]
      go_enter Try.func18, Try.ntmps18
      go_wp2_with fail
      refine C1.out.mono ?_
      rintro e w1 ⟨rfl, rfl⟩
      go_wp2_with fail
      refine D2.out.mono ?_
      rintro e w2 ⟨rfl, hb2⟩
      clear D2 C1
      go_wp2_with fail
      go_loopw [6, 7] (fun v i wr => ∃ s : Nat, 1 ≤ s ∧ s ≤ N ∧ i = .int .i64 s ∧ v = .int .i64 (coF m l (s - 1)) ∧ Below w.heap.size w wr) (fun _ i _ => N - (intOf i).toNat)
      case atStart => exact ⟨1, Nat.le_refl _, hl20.1, rfl, rfl, hb2⟩
      case round =>
        obtain ⟨wE, rfl⟩ : ∃ x : World, x = wr := ⟨_, rfl⟩
        obtain ⟨s, hs1, hs, rfl, rfl, hbel⟩ := hrel
        by_cases hls : s < N
        case neg =>
          obtain rfl : s = N := by omega
          rw [HX.out]
          go_wp2_with fail
          refine (C4.out _).mono ?_
          rintro e w4 ⟨rfl, rfl⟩
          go_wp2_with fail
          go_ret2
          exact ⟨rfl, hbel⟩
        case pos =>
          obtain ⟨t, ht⟩ : ∃ t, s - 1 = t := ⟨_, rfl⟩
          have hst : s = t + 1 := by omega
          obtain ⟨hco, hc1, hc2, hc3, hc4⟩ := HCO.out t (by omega)
          rw [← hst] at hco hc3 hc4
          rw [ht]
          obtain ⟨v1, u1⟩ := HVT.out t (by omega)
          obtain ⟨v2, u2⟩ := HVT.out s hls
          obtain ⟨bp, op, rfl, hbp, q1⟩ := HP.out t (by have := HN.out; omega)
          have q2 := HP.out.at (j := s) (by have := HN.out; omega)
          rw [v1] at q1
          rw [v2] at q2
          have q1 := bcell hbel hbp q1
          have q2 := bcell hbel hbp q2
          obtain ⟨bM, oM, rfl, hbM, hrow⟩ := HR.out.rowF (by omega)
          obtain ⟨b2, o2, c2, e2, hl2, hcc⟩ := hrow _ u1
          have e2 := bcell hbel hbM e2
          have k1 := bcell hbel hl2 (hcc _ u2)
          clear hrow hcc v1 v2 ht
          generalize coF m l t = C at hc1 hc2 hco ⊢
          generalize vx l t = a at q1 u1 e2 k1 hco hc3 hc4
          generalize vx l s = b at q2 u2 k1 hco hc3 hc4
          generalize m a b = D at k1 hco hc3 hc4
          have x1 : (0 : Int) ≤ (s : Int) := by omega
          have x2 : (s : Int) < (N : Int) := by omega
          have x3 : (0 : Int) ≤ (t : Int) := by omega
          have x4 : (t : Int) < (N : Int) := by omega
          have x5 : (0 : Int) ≤ (a : Int) := by omega
          have x6 : (a : Int) < (n : Int) := by omega
          have x7 : (0 : Int) ≤ (b : Int) := by omega
          have x8 : (b : Int) < (n : Int) := by omega
          have e1 : IntKind.i64.wrap ((s : Int) - 1) = (t : Int) := by rw [i64_small (by omega) (by omega)]; omega
          have e3 : IntKind.i64.wrap (C + D) = C + D := i64_small (by omega) (by omega)
          have HCO2 := Lib.hid hco
          clear hco hc1 hc2 hc3 hc4
          have HST := Lib.hid hst
          clear hst
          go_wp2_with fail
          go_quiet (fail)
          go_wp2_with fail
          go_roundw
          case rel => exact ⟨s + 1, by omega, by omega, by go_num, by rw [Nat.add_sub_cancel, HCO2.out], bdrewN hbel _⟩
          case measure => simp [intOf]; omega

def MatW (w : World) (e : Ending) (w' : World) : Prop := ∃ ad cap M ad3 cap3 l, e = .returned (.tuple #[.slice ad (List.length M) cap, .slice ad3 (List.length l) cap3]) ∧ (sm7 M ∧ l.length ≤ 21) ∧ RdM w' ad M ∧ RdI w' ad3 l ∧ Below w.heap.size w w'

set_option maxHeartbeats 1600000 in
set_option maxRecDepth 100000 in
theorem drawCostOfWay_c (ad : Option Addr) (len cap : Nat) (w : World) (hl : len ≤ 9223372036854775807) (hr : RdB w ad len) :
    Calls Try.prog 17 #[.slice ad len cap] w (MatW w) := by
  have HC := Lib.hid (cur_new (cap := cap) hr hl)
  clear hr
  go_enter Try.func17, Try.ntmps17
  go_wp2_with fail
  obtain ⟨wA, hwA⟩ : ∃ x, w.alloc (.cells #[.slice ad len cap, .int .i64 0, .int .u64 0] 51) = x := ⟨_, rfl⟩
  have hnew : ∀ w', Chg w.heap.size wA w' → Below w.heap.size w w' := fun w' h => by rw [← hwA] at h; exact chg_new h
  rw [hwA] at HC ⊢
  have HNEW := Lib.hid hnew; clear hnew hwA
  obtain ⟨g, hg⟩ : ∃ g, w.heap.size = g := ⟨_, rfl⟩
  rw [hg] at HC HNEW ⊢
  have HG := Lib.hid hg
  have hcl := HC.out.lt
  clear hg
  refine (steps_c g 0 wA HC.out (by omega)).mono ?_
  rintro e w2 ⟨ad2, cap2, M, vs, rfl, hsm, hmat, hcu, hch⟩
  have HS := Lib.hid (show sm7 M from hsm); have HM := Lib.hid hmat; have HU := Lib.hid hcu; have HF := Lib.hid hch
  clear hsm hmat hcu hch
  go_wp2_with fail
  refine (wayIn_c ad2 cap2 M g (0 + 1000) w2 HU.out (by omega) HM.out.rd (fun u hu => (HM.out.chg hu hcl).rd) HS.out.1 HS.out.2).mono ?_
  rintro e w4 ⟨ad4, cap4, l, rfl, hll, hrl, hch⟩
  have HM4 := Lib.hid (HM.out.chg hch hcl).rd
  have HL := Lib.hid hrl; have HLL := Lib.hid hll
  have HB := Lib.hid (HNEW.out _ (HF.out.trans hch))
  clear hll hrl hch
  go_wp2_with fail
  exact bodyPost_ret (v := .tuple #[.slice ad2 M.length cap2, .slice ad4 l.length cap4]) (by simp [results, Try.results17, go_sem]) rfl ⟨ad2, cap2, M, ad4, cap4, l, rfl, ⟨HS.out, HLL.out⟩, HM4.out, HL.out, by rw [HG.out]; exact HB.out⟩

set_option maxHeartbeats 1600000 in
set_option maxRecDepth 100000 in
theorem drawCheapest_c (ad : Option Addr) (len cap : Nat) (w : World) (hl : len ≤ 9223372036854775807) (hr : RdB w ad len) :
    Calls Try.prog 6 #[.slice ad len cap] w (MatFM w) := by
  have HC := Lib.hid (cur_new (cap := cap) hr hl)
  clear hr
  go_enter Try.func6, Try.ntmps6
  go_wp2_with fail
  obtain ⟨wA, hwA⟩ : ∃ x, w.alloc (.cells #[.slice ad len cap, .int .i64 0, .int .u64 0] 51) = x := ⟨_, rfl⟩
  have hnew : ∀ w', Chg w.heap.size wA w' → Below w.heap.size w w' := fun w' h => by rw [← hwA] at h; exact chg_new h
  rw [hwA] at HC ⊢
  have HNEW := Lib.hid hnew; clear hnew hwA
  obtain ⟨g, hg⟩ : ∃ g, w.heap.size = g := ⟨_, rfl⟩
  rw [hg] at HC HNEW ⊢
  have HG := Lib.hid hg
  have hcl := HC.out.lt
  clear hg
  refine (steps_c g 0 wA HC.out (by omega)).mono ?_
  rintro e w2 ⟨ad2, cap2, M, vs, rfl, hsm, hmat, hcu, hch⟩
  have HS := Lib.hid (show sm7 M from hsm); have HM := Lib.hid hmat; have HU := Lib.hid hcu; have HF := Lib.hid hch
  clear hsm hmat hcu hch
  go_wp2_with fail
  refine (vertex_c ad2 M.length cap2 HS.out.1 g (0 + 1000) w2 HU.out (by omega)).mono ?_
  rintro e w3 ⟨f, rfl, -, hcu, hch⟩
  have HM3 := Lib.hid (HM.out.chg hch hcl)
  have HU3 := Lib.hid hcu; have HF3 := Lib.hid (HF.out.trans hch)
  clear hcu hch
  go_wp2_with fail
  refine (vertex_c ad2 M.length cap2 HS.out.1 g (0 + 1000 + 8) w3 HU3.out (by omega)).mono ?_
  rintro e w4 ⟨mo, rfl, -, hcu, hch⟩
  have HM4 := Lib.hid (HM3.out.chg hch hcl).rd
  have HB := Lib.hid (HNEW.out _ (HF3.out.trans hch))
  clear hcu hch
  go_wp2_with fail
  exact bodyPost_ret (v := .tuple #[.slice ad2 M.length cap2, .int .i64 f, .int .i64 mo]) (by simp [results, Try.results6, go_sem]) rfl ⟨ad2, cap2, M, f, mo, rfl, HS.out, HM4.out, by rw [HG.out]; exact HB.out⟩

theorem sm7_set {M : List (List Int)} (h : sm7 M) (i j : Nat) (x : Int) : sm7 (M.set i ((M.getD i []).set j x)) := by
  refine ⟨by rw [List.length_set]; exact h.1, fun k hk => ?_⟩
  rw [List.length_set] at hk
  by_cases e : k = i
  · subst e
    have e1 : (M.set k ((M.getD k []).set j x)).getD k [] = (M.getD k []).set j x := by simp [List.getD_eq_getElem?_getD, hk]
    rw [e1, List.length_set]
    exact h.2 k hk
  · rw [List.getD_eq_getElem?_getD, List.getElem?_set_ne (by omega), ← List.getD_eq_getElem?_getD]
    exact h.2 k hk

set_option maxHeartbeats 1600000 in
set_option maxRecDepth 100000 in
theorem drawNegative_c (ad : Option Addr) (len cap : Nat) (w : World) (hl : len ≤ 9223372036854775807) (hr : RdB w ad len) :
    Calls Try.prog 14 #[.slice ad len cap] w (MatR w) := by
  have HC := Lib.hid (cur_new (cap := cap) hr hl)
  clear hr
  go_enter Try.func14, Try.ntmps14
  go_wp2_with fail
  obtain ⟨wA, hwA⟩ : ∃ x, w.alloc (.cells #[.slice ad len cap, .int .i64 0, .int .u64 0] 51) = x := ⟨_, rfl⟩
  have hnew : ∀ w', Chg w.heap.size wA w' → Below w.heap.size w w' := fun w' h => by rw [← hwA] at h; exact chg_new h
  rw [hwA] at HC ⊢
  have HNEW := Lib.hid hnew; clear hnew hwA
  obtain ⟨g, hg⟩ : ∃ g, w.heap.size = g := ⟨_, rfl⟩
  rw [hg] at HC HNEW ⊢
  have HG := Lib.hid hg
  have hcl := HC.out.lt
  clear hg
  refine (steps_c g 0 wA HC.out (by omega)).mono ?_
  rintro e w2 ⟨ad2, cap2, M, vs, rfl, hsm, hmat, hcu, hch⟩
  have HS := Lib.hid (show sm7 M from hsm); have HM := Lib.hid hmat; have HU := Lib.hid hcu; have HF := Lib.hid hch
  clear hsm hmat hcu hch
  obtain ⟨N, hN⟩ : ∃ N, M.length = N := ⟨_, rfl⟩
  have HN := Lib.hid hN
  have hN7 : N ≤ 7 := by have := HS.out.1; omega
  rw [hN] at HM ⊢
  clear hN
  by_cases h1 : 1 < N
  case neg =>
    have g1 : decide ((1 : Int) < (N : Int)) = false := decide_eq_false (by omega)
    go_wp2_with fail
    exact bodyPost_ret (v := .slice ad2 N cap2) (by simp [results, Try.results14, go_sem]) rfl ⟨ad2, cap2, M, by rw [HN.out], HS.out, HM.out.rd, by rw [HG.out]; exact HNEW.out _ HF.out⟩
  case pos =>
    have g1 : decide ((1 : Int) < (N : Int)) = true := decide_eq_true (by omega)
    go_wp2_with fail
    refine (one_c 2 g (0 + 1000) w2 HU.out (by omega)).mono ?_
    rintro e w3 ⟨b3, rfl, hcu, hch⟩
    have HM3 := Lib.hid (HM.out.chg hch hcl)
    have HU3 := Lib.hid hcu; have HF3 := Lib.hid (HF.out.trans hch)
    clear hcu hch
    cases b3
    case false =>
      go_wp2_with fail
      exact bodyPost_ret (v := .slice ad2 N cap2) (by simp [results, Try.results14, go_sem]) rfl ⟨ad2, cap2, M, by rw [HN.out], HS.out, HM3.out.rd, by rw [HG.out]; exact HNEW.out _ HF3.out⟩
    case true =>
      go_wp2_with fail
      refine (pick_c (N : Int) g (0 + 1000 + 2) w3 HU3.out (by omega)).mono ?_
      rintro e w4 ⟨x4, rfl, hp4, hcu, hch⟩
      obtain ⟨i, rfl⟩ : ∃ i : Nat, x4 = i := ⟨x4.toNat, by omega⟩
      have hiN : i < N := by omega
      have HM4 := Lib.hid (HM3.out.chg hch hcl)
      have HU4 := Lib.hid hcu; have HF4 := Lib.hid (HF3.out.trans hch)
      clear hcu hch hp4
      go_wp2_with fail
      refine (pick_c (N : Int) g (0 + 1000 + 2 + 2) w4 HU4.out (by omega)).mono ?_
      rintro e w5 ⟨x5, rfl, hp5, hcu, hch⟩
      obtain ⟨k, rfl⟩ : ∃ k : Nat, x5 = k := ⟨x5.toNat, by omega⟩
      have hmat := HM4.out.chg hch hcl
      have HU5 := Lib.hid hcu; have HF5 := Lib.hid (HF4.out.trans hch)
      clear hcu hch hp5
      obtain ⟨gM, cM, e0, hB0, _, _⟩ := hmat.cells (by rw [HN.out]; omega)
      rw [HN.out] at e0
      injection e0 with e0 _ e0c
      clear e0c
      subst e0
      have kA := hmat.outerM HN.out i hiN
      obtain ⟨ra, rc, er, _⟩ := hmat.each i (by rw [HN.out]; exact hiN)
      rw [er] at kA
      obtain ⟨R, hR⟩ : ∃ R, (M.getD i []).length = R := ⟨_, rfl⟩
      rw [hR] at kA er
      have x1 : (0 : Int) ≤ (i : Int) := by omega
      have x2 : (i : Int) < (N : Int) := by omega
      have HM5 := Lib.hid hmat; have HR := Lib.hid hR; have HER := Lib.hid er
      have hz5 := HF5.out.size
      clear hmat hR er
      by_cases hk : k < R
      case neg =>
        have g2 : decide ((k : Int) < (R : Int)) = false := decide_eq_false (by omega)
        go_wp2_with fail
        exact bodyPost_ret (v := .slice (some ⟨gM, 0, none⟩) N cap2) (by simp [results, Try.results14, go_sem]) rfl ⟨_, cap2, M, by rw [HN.out], HS.out, HM5.out.rd, by rw [HG.out]; exact HNEW.out _ HF5.out⟩
      case pos =>
        have g2 : decide ((k : Int) < (R : Int)) = true := decide_eq_true (by omega)
        obtain ⟨b, o, c, e5⟩ := HM5.out.rowE (by rw [HN.out]; exact hiN) (by rw [HR.out]; omega)
        rw [HER.out, HR.out] at e5
        injection e5 with e5 _ e5c
        clear e5c
        subst e5
        obtain ⟨_, hBb, hbl, hbg, hcell, hset⟩ := HM5.out.rowY (by rw [HN.out]; exact hiN) HR.out (by omega) HER.out
        have hgl : gM < w5.heap.size := cell_lt kA
        have k5 := (hcell k hk).1
        have f5 := (hcell k hk).2
        have x3 : (0 : Int) ≤ (k : Int) := by omega
        have x4 : (k : Int) < (R : Int) := by omega
        have hgg : gM ≠ g := by omega
        have hbgg : b ≠ g := by omega
        generalize (M.getD i []).getD k 0 = X at k5
        have PK := Lib.hid (pick_c 6 g (0 + 1000 + 2 + 2 + 2) w5.drew (HU5.out.below (Below.refl _ _).drew) (by omega))
        have HM6 := Lib.hid (fun u (hu : Chg g w5 u) => HM5.out.chg hu hcl)
        clear hcell hset
        go_wp2_with fail
        go_region_held3 (fun w' => w'.cell? ⟨gM, i, none⟩ = some (.slice (some ⟨b, o, none⟩) R rc)) (with_reducible repeat' (first | assumption | apply cell_alloc' | apply cell_drew' | (refine cell_set' hbg.symm ?_)))
          (first
            | (go_at_call 53; (with_reducible refine (PK.out).mono ?_); rintro e w6 ⟨x6, rfl, hp6, hcu, hch⟩; have hch6 := (Chg.drew g w5).trans hch; have m0 := hch6.cell hgg kA; have m1 := hch6.cell hbgg k5; have HM7 := Lib.hid (HM6.out w6 hch6); have f6 := (((HM7.out.rowY (by rw [HN.out]; exact hiN) HR.out (by omega) HER.out).2.2.2.2.1) k hk).2; have e6 : IntKind.i64.wrap (-1 - x6) = -1 - x6 := i64_small (by omega) (by omega); have HCH6 := Lib.hid hch6; clear hcu hch hch6)
            | fail)
        have hset := (HM7.out.rowY (by rw [HN.out]; exact hiN) HR.out (by omega) HER.out).2.2.2.2.2 k (-1 - x6) hk
        have HST := Lib.hid hset
        have HFE := Lib.hid (HNEW.out _ (HF5.out.trans HCH6.out))
        go_wp2_with fail
        refine bodyPost_ret (v := .slice (some ⟨gM, 0, none⟩) N cap2) (by simp [results, Try.results14, go_sem]) rfl ?_
        refine ⟨_, cap2, _, by rw [List.length_set, HN.out], sm7_set HS.out i k (-1 - x6), HST.out.rd, ?_⟩
        rw [HG.out]
        exact HFE.out.setCell (p := ⟨b, o + k, none⟩) (show g ≤ b by omega) _
end Go.Proofs.Ytbffcbjbeeagmaa
