/-
  Some texts of this proof in one: EhU EhV EhW. Each part tells what it proves. By an AI agent.
-/
import Derived.Test.YtjkfighooijblaaGreatEhT
import Derived.Test.YtjkfighooijblaaGreatOpen
import Derived.Deep.RegionLaw
import Derived.Deep.QuietTactic

/-
  What the draws of eigenvectors and potentials give. By an AI agent.
-/
namespace Go.Proofs.YtjkfighooijblaaGreat
open Go.RowKit

def sm7 (M : List (List Int)) : Prop := M.length ≤ 7 ∧ ∀ i, i < M.length → (M.getD i []).length ≤ 7
theorem sm7_smM {M : List (List Int)} (h : sm7 M) : smM M := ⟨by have := h.1; omega, fun i hi => by have := h.2 i hi; omega⟩
def MatR (w : World) (e : Ending) (w' : World) : Prop := ∃ ad cap M, e = .returned (.slice ad (List.length M) cap) ∧ sm7 M ∧ RdM w' ad M ∧ Below w.heap.size w w'
def MatX (w : World) (e : Ending) (w' : World) : Prop := ∃ ad cap M vs, ∃ x : Int, e = .returned (.tuple #[.slice ad (List.length M) cap, .int .i64 x]) ∧ sm7 M ∧ MatO w' w.heap.size (.slice ad (List.length M) cap) M vs ∧ Below w.heap.size w w'
def MatXV (w : World) (e : Ending) (w' : World) : Prop := ∃ ad cap M, ∃ x : Int, ∃ ad2 cap2 p, e = .returned (.tuple #[.slice ad (List.length M) cap, .int .i64 x, .slice ad2 (List.length p) cap2]) ∧ (sm7 M ∧ p.length ≤ 7) ∧ RdM w' ad M ∧ RdI w' ad2 p ∧ Below w.heap.size w w'

set_option maxHeartbeats 3200000 in
set_option maxRecDepth 100000 in
theorem frFloor_c (n d : Int) (w : World) (hd : 1 ≤ d ∧ d ≤ 1000000000) (hn : -1000000000 ≤ n ∧ n ≤ 1000000000) :
    Calls Tryz.prog 40 #[.int .i64 n, .int .i64 d] w fun e w' => e = .returned (.int .i64 (floZ n d)) ∧ Below w.heap.size w w' := by
  have hv := flo_ref (n := n) (d := d) (by omega)
  have x1 := tdiv_bd n d
  have hd0 : ¬ d = 0 := by omega
  have hd1 : (d == 0) = false := beq_eq_false_iff_ne.2 hd0
  generalize floZ n d = Z at hv ⊢
  generalize hT : Int.tdiv n d = T at x1 hv
  generalize hR : Int.tmod n d = R at hv
  have e1 : IntKind.i64.wrap T = T := i64_small (by omega) (by omega)
  have e2 : IntKind.i64.wrap (T - 1) = T - 1 := i64_small (by omega) (by omega)
  clear hd hn x1
  obtain ⟨q, hq⟩ : ∃ q, decide (n < 0) = q := ⟨_, rfl⟩
  obtain ⟨r, hr⟩ : ∃ r, (R == 0) = r := ⟨_, rfl⟩
  rw [hq, hr] at hv
  have HV := Lib.hid hv; clear hv
  cases q
  · go_enter Tryz.func40, Tryz.ntmps40
    go_wp2_with fail
    go_ret
    exact ⟨by rw [← HV.out]; rfl, Below.refl _ _⟩
  · cases r
    all_goals
      go_enter Tryz.func40, Tryz.ntmps40
      go_wp2_with fail
      go_ret
      exact ⟨by rw [← HV.out]; rfl, Below.refl _ _⟩
set_option maxHeartbeats 3200000 in
set_option maxRecDepth 100000 in
theorem evenArcs_c (c n : Nat) (w : World) (h : Cur w c n) (hn : n ≤ 4611686018427320000) :
    Calls Tryz.prog 19 #[.pointer (some ⟨c, 0, none⟩)] w (MatD smD c (n + 1010) w) := by
  have hcl := h.lt
  have H := Lib.hid h; clear h
  go_enter Tryz.func19, Tryz.ntmps19
  go_wp2_with fail
  refine (arcs_c c n w H.out (by omega)).mono ?_
  rintro e w1 ⟨ad, cap, M, vs, rfl, hsm, hmat, hcu, hch⟩
  have hz1 := hch.size
  have CQ := mxSquare_c ad cap M w1 hmat.rd (by have := hsm.1; omega) (fun i hi => by have := hsm.2 i hi; omega)
  have HS := Lib.hid hsm; have HM := Lib.hid hmat; have HU := Lib.hid hcu; have HF := Lib.hid hch
  clear hsm hmat hcu hch
  obtain ⟨k, hk⟩ : ∃ k, M.length = k := ⟨_, rfl⟩
  have HK := Lib.hid hk
  rw [hk] at CQ ⊢
  by_cases hs : sqB M = true
  case neg =>
    rw [eq_false_of_ne_true hs] at CQ
    have HCQ := Lib.hid CQ; clear CQ hs hk
    go_wp2_with fail
    refine HCQ.out.mono ?_
    rintro e w2 ⟨rfl, rfl⟩
    go_wp2_with fail
    go_ret
    exact ⟨ad, cap, M, vs, by rw [HK.out]; rfl, HS.out, by rw [HK.out]; have := HM.out; rw [HK.out] at this; exact this, HU.out.mono (by omega), HF.out⟩
  case pos =>
    obtain ⟨⟨hn1, hn6⟩, hrows, -⟩ := sq_facts hs
    rw [hk] at hn1 hn6 hrows
    rw [hs] at CQ
    have HCQ := Lib.hid CQ; have HRW := Lib.hid hrows; clear CQ hs hk hrows
    go_wp2_with fail
    refine HCQ.out.mono ?_
    rintro e w2 ⟨rfl, rfl⟩
    clear HCQ
    go_wp2_with fail
    refine (one_c 2 c (n + 1000) w1 HU.out (by omega)).mono ?_
    rintro e w2 ⟨bb, rfl, hcu, hch⟩
    have hz2 := hch.size
    have HM2 := Lib.hid (HM.out.mono (B' := w.heap.size) (Nat.le_refl _) |>.chg hch hcl)
    have HU2 := Lib.hid hcu; have HF2 := Lib.hid (HF.out.trans hch)
    clear hcu hch HU HF HM
    cases bb
    case false =>
      go_wp2_with fail
      go_ret
      exact ⟨ad, cap, M, vs, by rw [HK.out]; rfl, HS.out, HM2.out, HU2.out.mono (by omega), HF2.out⟩
    case true =>
      have hk0 : 0 < k := by omega
      obtain ⟨g, cav', eg, hg, _, _⟩ := HM2.out.cells (by rw [HK.out]; omega)
      injection eg with eg q1 q2
      subst eg
      clear q1 q2
      obtain ⟨bq, oq, cq, hvq⟩ := HM2.out.rowE (i := 0) (by rw [HK.out]; exact hk0) (by rw [HRW.out 0 hk0]; exact hk0)
      rw [HRW.out 0 hk0] at hvq
      obtain ⟨nB, hBb, hbB, hbg, hcell, hset⟩ := HM2.out.rowY (by rw [HK.out]; exact hk0) (HRW.out 0 hk0) hk0 hvq
      obtain ⟨mB, fB⟩ := hcell 0 hk0
      have hst := hset 0 (-5) hk0
      rw [Nat.add_zero] at mB fB hst
      have HST := Lib.hid hst
      have hb9 : Below w.heap.size w2 (w2.setCell ⟨bq, oq, none⟩ (.int .i64 (-5))) := (Below.refl w.heap.size w2).setCell (p := ⟨bq, oq, none⟩) hBb (.int .i64 (-5))
      have HU9 := Lib.hid (HU2.out.under hb9 hcl)
      have HF9 := Lib.hid (HF2.out.under hb9 (Nat.le_refl _) (by simp [World.setCell]))
      have HS9 := Lib.hid (smD_set (vs' := vs) (i := 0) (xs := (M.getD 0 []).set 0 (-5)) HS.out (by rw [List.length_set, HRW.out 0 hk0]; omega))
      have hx1 : (0 : Int) < (k : Int) := by omega
      clear hcell hset hst hvq hb9
      go_wp2_with fail
      go_ret
      exact ⟨_, cap, _, ⟨_, by rw [List.length_set, HK.out]; rfl, HS9.out, by rw [List.length_set]; exact HST.out, HU9.out.mono (by omega), HF9.out⟩⟩
set_option maxHeartbeats 1600000 in
set_option maxRecDepth 100000 in
theorem drawEigenvectorOf_c (ad : Option Addr) (len cap : Nat) (w : World) (hl : len ≤ 9223372036854775807) (hr : RdB w ad len) :
    Calls Tryz.prog 4 #[.slice ad len cap] w (MatR w) := by
  have HC := Lib.hid (cur_new (cap := cap) hr hl)
  clear hr
  go_enter Tryz.func4, Tryz.ntmps4
  go_wp2_with fail
  obtain ⟨wA, hwA⟩ : ∃ x, w.alloc (.cells #[.slice ad len cap, .int .i64 0, .int .u64 0] 44) = x := ⟨_, rfl⟩
  have hnew : ∀ w', Chg w.heap.size wA w' → Below w.heap.size w w' := fun w' h => by rw [← hwA] at h; exact chg_new h
  rw [hwA] at HC ⊢
  have HNEW := Lib.hid hnew; clear hnew hwA
  refine (evenArcs_c w.heap.size 0 wA HC.out (by omega)).mono ?_
  rintro e w2 ⟨ad2, cap2, M, vs, rfl, hsm, hmat, hcu, hch⟩
  have HS := Lib.hid (show sm7 M from hsm); have HM := Lib.hid hmat.rd; have HB := Lib.hid (HNEW.out _ hch)
  clear hsm hmat hcu hch
  go_wp2_with fail
  go_ret
  exact ⟨ad2, cap2, M, rfl, HS.out, HM.out, HB.out⟩
set_option maxHeartbeats 3200000 in
set_option maxRecDepth 100000 in
theorem drawPotentialOf_c (ad : Option Addr) (len cap : Nat) (w : World) (hl : len ≤ 9223372036854775807) (hr : RdB w ad len) :
    Calls Tryz.prog 11 #[.slice ad len cap] w (MatX w) := by
  have HC := Lib.hid (cur_new (cap := cap) hr hl)
  clear hr
  go_enter Tryz.func11, Tryz.ntmps11
  go_wp2_with fail
  obtain ⟨wA, hwA⟩ : ∃ x, w.alloc (.cells #[.slice ad len cap, .int .i64 0, .int .u64 0] 44) = x := ⟨_, rfl⟩
  have hnew : ∀ w', Chg w.heap.size wA w' → Below w.heap.size w w' := fun w' h => by rw [← hwA] at h; exact chg_new h
  rw [hwA] at HC ⊢
  have HNEW := Lib.hid hnew; clear hnew hwA
  obtain ⟨g, hg⟩ : ∃ g, w.heap.size = g := ⟨_, rfl⟩
  rw [hg] at HC HNEW ⊢
  have HG := Lib.hid hg
  have hcl := HC.out.lt
  clear hg
  refine (evenArcs_c g 0 wA HC.out (by omega)).mono ?_
  rintro e w2 ⟨ad2, cap2, M, vs, rfl, hsm, hmat, hcu, hch⟩
  have hz2 := hch.size
  have CQ := mxSquare_c ad2 cap2 M w2 hmat.rd (by have := hsm.1; omega) (fun i hi => by have := hsm.2 i hi; omega)
  have HS := Lib.hid (show sm7 M from hsm); have HM := Lib.hid hmat; have HU := Lib.hid hcu; have HF := Lib.hid hch
  clear hsm hmat hcu hch
  obtain ⟨k, hk⟩ : ∃ k, M.length = k := ⟨_, rfl⟩
  have HK := Lib.hid hk
  rw [hk] at CQ ⊢
  by_cases hs : sqB M = true
  case neg =>
    rw [eq_false_of_ne_true hs] at CQ
    have HCQ := Lib.hid CQ; clear CQ hs hk
    go_wp2_with fail
    refine HCQ.out.mono ?_
    rintro e w3 ⟨rfl, rfl⟩
    go_wp2_with fail
    refine (anyNum_c g (0 + 1010) w2 HU.out (by omega)).mono ?_
    rintro e w9 ⟨y, rfl, -, hcu, hch⟩
    have HM9 := Lib.hid ((HM.out.chg hch hcl).mono (B' := g) (by omega))
    have HB := Lib.hid (HNEW.out _ (HF.out.trans hch))
    clear hcu hch
    go_wp2_with fail
    exact bodyPost_ret (v := .tuple #[.slice ad2 k cap2, .int .i64 y]) (by simp [results, Tryz.results11, go_sem]) rfl ⟨ad2, cap2, M, vs, y, by rw [HK.out], HS.out, by rw [HG.out]; exact HM9.out, by rw [HG.out]; exact HB.out⟩
  case pos =>
    obtain ⟨hn, -, hnum⟩ := sq_facts hs
    have hnum : ∀ a b, a < M.length → b < M.length → numB (entM M a b) = true := hnum
    have hto := sq_toM hs
    have CL := Lib.hid (fun u (hb : Chg g w2 u) => mnLeast_c M.length ad2 cap2 (entM M) u (by rw [hto]; exact (HM.out.chg hb hcl).rd) hn hnum)
    have CM := Lib.hid (fun u (hb : Chg g w2 u) (hne : lmB M.length (entM M) ≠ []) a c (h : RdI u a (lmB M.length (entM M))) => mnMean_c M.length ad2 cap2 (entM M) a c (lmB M.length (entM M)) u (by rw [hto]; exact (HM.out.chg hb hcl).rd) h hn (allC_cr (mnC_mem hne)) hnum)
    have HFR := Lib.hid (fun (hne : lmB M.length (entM M) ≠ []) => show frB (meC (entM M) (lmB M.length (entM M))) = true from meC_frB hnum hn.2 (allC_cr (mnC_mem hne)))
    rw [hs] at CQ
    rw [hk] at CL CM HFR
    have HCQ := Lib.hid CQ
    clear CQ hs hk hnum hto
    generalize meC (entM M) (lmB k (entM M)) = F at CM HFR
    generalize lmB k (entM M) = B at CL CM HFR
    go_wp2_with fail
    refine HCQ.out.mono ?_
    rintro e w3 ⟨rfl, rfl⟩
    clear HCQ
    go_wp2_with fail
    refine (one_c 2 g (0 + 1010) w2 HU.out (by omega)).mono ?_
    rintro e w3 ⟨bb, rfl, hcu, hch⟩
    have hz3 := hch.size
    have HC3 := Lib.hid hch
    have HM3 := Lib.hid (HM.out.chg hch hcl)
    have HU3 := Lib.hid hcu; have HF3 := Lib.hid (HF.out.trans hch)
    clear hcu hch HU
    cases bb
    case false =>
      go_wp2_with fail
      refine (anyNum_c g (0 + 1010 + 2) w3 HU3.out (by omega)).mono ?_
      rintro e w9 ⟨y, rfl, -, hcu, hch⟩
      have HM9 := Lib.hid ((HM3.out.chg hch hcl).mono (B' := g) (by omega))
      have HB := Lib.hid (HNEW.out _ (HF3.out.trans hch))
      clear hcu hch
      go_wp2_with fail
      exact bodyPost_ret (v := .tuple #[.slice ad2 k cap2, .int .i64 y]) (by simp [results, Tryz.results11, go_sem]) rfl ⟨ad2, cap2, M, vs, y, by rw [HK.out], HS.out, by rw [HG.out]; exact HM9.out, by rw [HG.out]; exact HB.out⟩
    case true =>
      go_wp2_with fail
      refine (CL.out w3 HC3.out).mono ?_
      rintro e w4 ⟨av, cv, rfl, hrd, hb4⟩
      have hz4 := hb4.size
      have hch := Chg.of_below (b := g) hb4
      have HC4 := Lib.hid (HC3.out.trans hch)
      have HM4 := Lib.hid (HM3.out.chg hch hcl)
      have HU4 := Lib.hid (HU3.out.below hb4); have HF4 := Lib.hid (HF3.out.trans hch)
      have HRD := Lib.hid hrd
      clear hch hb4 hrd
      by_cases hB : B = []
      case pos =>
        subst hB
        rw [show (([] : List Int).length) = 0 from rfl]
        go_wp2_with fail
        refine (anyNum_c g (0 + 1010 + 2) w4 HU4.out (by omega)).mono ?_
        rintro e w9 ⟨y, rfl, -, hcu, hch⟩
        have HM9 := Lib.hid ((HM4.out.chg hch hcl).mono (B' := g) (by omega))
        have HB := Lib.hid (HNEW.out _ (HF4.out.trans hch))
        clear hcu hch
        go_wp2_with fail
        exact bodyPost_ret (v := .tuple #[.slice ad2 k cap2, .int .i64 y]) (by simp [results, Tryz.results11, go_sem]) rfl ⟨ad2, cap2, M, vs, y, by rw [HK.out], HS.out, by rw [HG.out]; exact HM9.out, by rw [HG.out]; exact HB.out⟩
      case neg =>
        have hpos := List.length_pos_iff.2 hB
        have CM2 := CM.out w4 HC4.out hB av cv HRD.out
        obtain ⟨f1, f2, -⟩ := frB_t.1 (HFR.out hB)
        obtain ⟨NB, hNB⟩ : ∃ N, B.length = N := ⟨_, rfl⟩
        rw [hNB] at CM2 hpos ⊢
        obtain ⟨fa, fb⟩ := F
        unfold frV at CM2
        simp only at CM2 f1 f2
        have HCM := Lib.hid CM2
        have hp1 : decide ((0 : Int) < (NB : Int)) = true := decide_eq_true (by omega)
        have hp2 : decide (0 < NB) = true := decide_eq_true hpos
        clear CM2 hB CM CL HFR hNB
        go_wp2_with fail
        refine HCM.out.mono ?_
        rintro e w5 ⟨rfl, hb5⟩
        have hz5 := hb5.size
        have hch := Chg.of_below (b := g) (hb5.trans ((Below.refl w5.heap.size w5 |>.alloc (Nat.le_refl _) (.cells #[.int .i64 fa, .int .i64 fb] 30)).mono hz5))
        have o5 := FrO.new w5 fa fb rfl
        obtain ⟨y0, y1⟩ := o5.at
        have HM5 := Lib.hid (HM4.out.chg hch hcl)
        have HU5 := Lib.hid ((HU4.out.below hb5).alloc' (o := .cells #[.int .i64 fa, .int .i64 fb] 30)); have HF5 := Lib.hid (HF4.out.trans hch)
        clear hch hb5 o5
        go_wp2_with fail
        refine (frFloor_c fa fb _ f2 f1).mono ?_
        rintro e w6 ⟨rfl, hb6⟩
        have hch := Chg.of_below (b := g) hb6
        have HM6 := Lib.hid (HM5.out.chg hch hcl)
        have HU6 := Lib.hid (HU5.out.below hb6); have HF6 := Lib.hid (HF5.out.trans hch)
        clear hch hb6 y0 y1
        go_wp2_with fail
        refine (pick_c 2 g (0 + 1010 + 2) w6 HU6.out (by omega)).mono ?_
        rintro e w7 ⟨x, rfl, hx, hcu, hch⟩
        have HM7 := Lib.hid ((HM6.out.chg hch hcl).mono (B' := g) (by omega))
        have HB := Lib.hid (HNEW.out _ (HF6.out.trans hch))
        clear hcu hch hx
        go_wp2_with fail
        exact bodyPost_ret (v := .tuple #[.slice ad2 k cap2, .int .i64 (wrap64 (floZ fa fb + x))]) (by simp [results, Tryz.results11, go_sem]) rfl ⟨ad2, cap2, M, vs, _, by rw [HK.out], HS.out, by rw [HG.out]; exact HM7.out, by rw [HG.out]; exact HB.out⟩
end Go.Proofs.YtjkfighooijblaaGreat

/-
  What the draws of questions on eigenvectors and means give. By an AI agent.
-/
namespace Go.Proofs.YtjkfighooijblaaGreat
open Go.RowKit

theorem rowI_chg {w w' : World} {B c : Nat} {v : Value} {xs : List Int} (h : RowI w B v xs) (hc : Chg c w w') (hB : c < B) : RowI w' B v xs := row_chg h hc hB
theorem eig_end {w w' : World} {ad2 : Option Addr} {cap2 gv capv k B : Nat} {M : List (List Int)} {ys : List Int} {x : Int} (hk : M.length = k) (hs : sm7 M) (hm : RdM w' ad2 M) (hr : RowI w' B (.slice (some ⟨gv, 0, none⟩) k capv) ys) (hy : ys.length = k) (h7 : k ≤ 7) (hb : Below w.heap.size w w') :
    MatXV w (.returned (.tuple #[.slice ad2 k cap2, .int .i64 x, .slice (some ⟨gv, 0, none⟩) k capv])) w' := by
  obtain ⟨a, c, e, h⟩ := hr.shape
  injection e with e _ _
  subst e
  exact ⟨ad2, cap2, M, x, _, capv, ys, by rw [hk, hy], ⟨hs, by omega⟩, hm, h, hb⟩
theorem eig_end2 {w w2 w7 : World} {ad2 : Option Addr} {cap2 gv capv k g p B : Nat} {M : List (List Int)} {vs : List Value} {X : List Int} {x z : Int} (hk : M.length = k) (hs : sm7 M) (hm : MatO w2 B (.slice ad2 M.length cap2) M vs) (hcl : g < B) (hc : Chg g w2 w7) (hgv : w2.heap.size ≤ gv) (hr : RowI w7 w2.heap.size (.slice (some ⟨gv, 0, none⟩) k capv) X) (hy : X.length = k) (h7 : k ≤ 7) (hb : ∀ u, Chg g w2 u → Below w.heap.size w u) :
    MatXV w (.returned (.tuple #[.slice ad2 k cap2, .int .i64 x, .slice (some ⟨gv, 0, none⟩) k capv])) (w7.setCell ⟨gv, p, none⟩ (.int .i64 z)) := by
  have HC9 := hc.under ((Below.refl w2.heap.size w7).setCell (p := ⟨gv, p, none⟩) hgv (.int .i64 z)) (Nat.le_refl _) (by simp [World.setCell])
  exact eig_end hk hs (hm.chg HC9 hcl).rd (hr.setR p z) (by rw [List.length_set]; exact hy) h7 (hb _ HC9)
set_option maxHeartbeats 6400000 in
set_option maxRecDepth 100000 in
theorem drawIsEigenvector_c (ad : Option Addr) (len cap : Nat) (w : World) (hl : len ≤ 9223372036854775807) (hr : RdB w ad len) :
    Calls Tryz.prog 14 #[.slice ad len cap] w (MatXV w) := by
  have HC := Lib.hid (cur_new (cap := cap) hr hl)
  clear hr
  go_enter Tryz.func14, Tryz.ntmps14
  go_wp2_with fail
  obtain ⟨wA, hwA⟩ : ∃ x, w.alloc (.cells #[.slice ad len cap, .int .i64 0, .int .u64 0] 44) = x := ⟨_, rfl⟩
  have hnew : ∀ w', Chg w.heap.size wA w' → Below w.heap.size w w' := fun w' h => by rw [← hwA] at h; exact chg_new h
  rw [hwA] at HC ⊢
  have HNEW := Lib.hid hnew; clear hnew hwA
  obtain ⟨g, hg⟩ : ∃ g, w.heap.size = g := ⟨_, rfl⟩
  rw [hg] at HC HNEW ⊢
  have HG := Lib.hid hg
  have hcl := HC.out.lt
  clear hg
  refine (evenArcs_c g 0 wA HC.out (by omega)).mono ?_
  rintro e w2 ⟨ad2, cap2, M, vs, rfl, hsm, hmat, hcu, hch⟩
  have hz2 := hch.size
  have CE := sEigenvector_c ad2 cap2 M w2 hmat.rd (sm7_smM hsm)
  have h7 := hsm.1
  have HS := Lib.hid (show sm7 M from hsm); have HM := Lib.hid hmat; have HU := Lib.hid hcu; have HF := Lib.hid hch
  clear hsm hmat hcu hch
  have HFACT := Lib.hid (show sqB M = true → EvP M.length (entM M) → (1 ≤ M.length) ∧ (∀ u, Chg g w2 u → Calls Tryz.prog 30 #[.slice ad2 M.length cap2] u fun e w' => ∃ av cv, e = .returned (.slice av (lmB M.length (entM M)).length cv) ∧ RdI w' av (lmB M.length (entM M)) ∧ Below u.heap.size u w') ∧ ∀ u, Chg g w2 u → ∀ a c, RdI u a (lmB M.length (entM M)) → Calls Tryz.prog 31 #[.slice ad2 M.length cap2, .slice a (lmB M.length (entM M)).length c] u fun e w' => e = .returned (frV (meC (entM M) (lmB M.length (entM M)))) ∧ Below u.heap.size u w' from by
    intro hs hev
    obtain ⟨hn, -, hnum⟩ := sq_facts hs
    have hnum : ∀ a b, a < M.length → b < M.length → numB (entM M a b) = true := hnum
    have hto := sq_toM hs
    exact ⟨hn.1, fun u hb => mnLeast_c M.length ad2 cap2 (entM M) u (by rw [hto]; exact (HM.out.chg hb hcl).rd) hn hnum, fun u hb a c h => mnMean_c M.length ad2 cap2 (entM M) a c _ u (by rw [hto]; exact (HM.out.chg hb hcl).rd) h hn (allC_cr (mnC_mem hev.ne)) hnum⟩)
  have hXL : (tab M.length (eiV M.length (entM M))).length = M.length := tab_length _ _
  have CE2 : Calls Tryz.prog 6 #[.slice ad2 M.length cap2] w2 fun e w' => ∃ B, (B = true → sqB M = true ∧ EvP M.length (entM M)) ∧ LisO B (tab M.length (eiV M.length (entM M))) w2 e w' := CE.mono fun e w' ⟨B, h1, h2⟩ => ⟨B, fun h => ⟨(h1.1 h).1, (h1.1 h).2.1⟩, h2⟩
  clear CE
  generalize tab M.length (eiV M.length (entM M)) = X at CE2 hXL
  generalize meC (entM M) (lmB M.length (entM M)) = F at HFACT
  generalize lmB M.length (entM M) = L at HFACT
  generalize sqB M = sq at HFACT CE2
  generalize EvP M.length (entM M) = ev at HFACT CE2
  obtain ⟨k, hk⟩ : ∃ k, M.length = k := ⟨_, rfl⟩
  have HK := Lib.hid hk
  rw [hk] at HFACT CE2 hXL h7 ⊢
  clear hk
  have hls : ∃ N : Nat, leastZ (k : Int) 6 = (N : Int) ∧ N ≤ 6 := by
    unfold leastZ
    split
    · exact ⟨k, rfl, by omega⟩
    · exact ⟨6, rfl, by omega⟩
  obtain ⟨N, hN, hN6⟩ := hls
  have HLS := Lib.hid (fun w => l1Least_n (k : Int) 6 w)
  rw [hN] at HLS
  clear hN
  have HCE := Lib.hid CE2; clear CE2
  obtain ⟨fa, fb⟩ := F
  have hfd : ∀ w : World, (Instr.field 30 (.agg #[.int .i64 fa, .int .i64 fb]) 0).run Tryz.prog w = .ok (.int .i64 fa) w := fun _ => by kernel_rfl
  unfold frV at HFACT
  simp only at HFACT
  obtain ⟨nl, hnl⟩ : ∃ nl, L.length = nl := ⟨_, rfl⟩
  rw [hnl] at HFACT
  clear hnl
  go_wp2_with fail
  refine HCE.out.mono ?_
  rintro e w3 ⟨B, hB, adv, capv, rfl, hrow, hb3⟩
  have hz3 := hb3.size
  have HC3 := Lib.hid (Chg.of_below (b := g) hb3)
  have HU3 := Lib.hid (HU.out.below hb3)
  clear hb3 HCE HU
  cases B
  case false =>
    rw [show (onL false X).length = 0 from rfl]
    clear hrow
    go_wp2_with fail
    refine (anyNum_c g (0 + 1010) w3 HU3.out (by omega)).mono ?_
    rintro e w7 ⟨y, rfl, -, hcu, hch⟩
    have HU7 := Lib.hid hcu; have HC7 := Lib.hid (HC3.out.trans hch)
    clear hcu hch
    go_wp2_with fail
    refine (HLS.out w7).mono ?_
    rintro e w8 ⟨rfl, rfl⟩
    go_wp2_with fail
    refine (vector_c N g (0 + 1010 + 6) w7 HU7.out (by omega) (by omega)).mono ?_
    rintro e w9 ⟨v9, xs, rfl, hxl, hrow, hcu, hch⟩
    obtain ⟨ad9, cap9, rfl, hrd⟩ := hrow.shape
    have HRD := Lib.hid hrd; have HXL := Lib.hid (show xs.length ≤ 7 by omega); have HC9 := Lib.hid (HC7.out.trans hch)
    clear hxl hrow hrd hcu hch
    go_wp2_with fail
    exact bodyPost_ret (v := .tuple #[.slice ad2 k cap2, .int .i64 y, .slice ad9 xs.length cap9]) (by simp [results, Tryz.results14, go_sem]) rfl ⟨ad2, cap2, M, y, ad9, cap9, xs, by rw [HK.out], ⟨HS.out, HXL.out⟩, (HM.out.chg HC9.out hcl).rd, HRD.out, by rw [HG.out]; exact HNEW.out _ (HF.out.trans HC9.out)⟩
  case true =>
    obtain ⟨hs, hev⟩ := hB rfl
    obtain ⟨hk1, CL, CM⟩ := HFACT.out hs hev
    have CL := Lib.hid CL; have CM := Lib.hid CM
    clear hB HFACT
    rw [show onL true X = X from rfl] at hrow ⊢
    have hrow2 := hrow
    rw [hXL] at hrow2 ⊢
    obtain ⟨gv, capw, eg, hgv⟩ := hrow.own (by omega)
    injection eg with eg q1 q2
    subst eg
    clear q1 q2 hrow
    have HR3 := Lib.hid hrow2
    clear hrow2
    go_wp2_with fail
    refine (one_c 4 g (0 + 1010) w3 HU3.out (by omega)).mono ?_
    rintro e w4 ⟨bb, rfl, hcu, hch⟩
    have hz4 := hch.size
    have HR4 := Lib.hid (rowI_chg HR3.out hch (by omega))
    have HU4 := Lib.hid hcu; have HC4 := Lib.hid (HC3.out.trans hch)
    clear hcu hch HU3 HC3 HR3
    cases bb
    case true =>
      go_wp2_with fail
      refine (anyNum_c g (0 + 1010 + 2) w4 HU4.out (by omega)).mono ?_
      rintro e w7 ⟨y, rfl, -, hcu, hch⟩
      have HU7 := Lib.hid hcu; have HC7 := Lib.hid (HC4.out.trans hch)
      clear hcu hch
      go_wp2_with fail
      refine (HLS.out w7).mono ?_
      rintro e w8 ⟨rfl, rfl⟩
      go_wp2_with fail
      refine (vector_c N g (0 + 1010 + 2 + 6) w7 HU7.out (by omega) (by omega)).mono ?_
      rintro e w9 ⟨v9, xs, rfl, hxl, hrow, hcu, hch⟩
      obtain ⟨ad9, cap9, rfl, hrd⟩ := hrow.shape
      have HRD := Lib.hid hrd; have HXL := Lib.hid (show xs.length ≤ 7 by omega); have HC9 := Lib.hid (HC7.out.trans hch)
      clear hxl hrow hrd hcu hch
      go_wp2_with fail
      exact bodyPost_ret (v := .tuple #[.slice ad2 k cap2, .int .i64 y, .slice ad9 xs.length cap9]) (by simp [results, Tryz.results14, go_sem]) rfl ⟨ad2, cap2, M, y, ad9, cap9, xs, by rw [HK.out], ⟨HS.out, HXL.out⟩, (HM.out.chg HC9.out hcl).rd, HRD.out, by rw [HG.out]; exact HNEW.out _ (HF.out.trans HC9.out)⟩
    case false =>
      go_wp2_with fail
      refine (small_c g (0 + 1010 + 2) w4 HU4.out (by omega)).mono ?_
      rintro e w5 ⟨by', rfl, -, hcu, hch⟩
      have HR5 := Lib.hid (rowI_chg HR4.out hch (by omega))
      have HU5 := Lib.hid hcu; have HC5 := Lib.hid (HC4.out.trans hch)
      clear hcu hch HU4 HC4 HR4
      go_wp2_with fail
      go_loopw [31] (fun i wr => ∃ (j : Nat) (ys : List Int), j ≤ k ∧ i = .int .i64 j ∧ ys.length = k ∧ RowI wr w2.heap.size (.slice (some ⟨gv, 0, none⟩) k capv) ys ∧ Cur wr g (0 + 1010 + 2 + 2) ∧ Chg g w2 wr) (fun i _ => k - (intOf i).toNat)
      case atStart => exact ⟨0, X, Nat.zero_le _, rfl, hXL, HR5.out, HU5.out, HC5.out⟩
      case round =>
        obtain ⟨wE, rfl⟩ : ∃ x : World, x = wr := ⟨_, rfl⟩
        obtain ⟨j, ys, hj, rfl, hyl, hrow, hcu, hch⟩ := hrel
        have HYL := Lib.hid hyl
        have HRE := Lib.hid hrow; have HUE := Lib.hid hcu; have HCE := Lib.hid hch
        have hzE := hch.size
        clear hrow hcu hch hyl HR5 HU5 HC5
        by_cases hlt : j < k
        case pos =>
          have k0 := HRE.out.cellR.2.cell? (i := j) (ints_get (by rw [HYL.out]; exact hlt))
          have k1 := HRE.out.cellR.2.frozen j
          generalize ys.getD j 0 = A at k0
          have x1 : (0 : Int) ≤ (j : Int) := by omega
          have x2 : (j : Int) < (k : Int) := by omega
          go_wp2_with fail
          go_roundw
          case rel => exact ⟨j + 1, ys.set j _, by omega, by go_num, by rw [List.length_set]; exact HYL.out, HRE.out.setR j _, HUE.out.under ((Below.refl w2.heap.size wE).setCell (p := ⟨gv, j, none⟩) hgv _) (by omega), HCE.out.under ((Below.refl w2.heap.size wE).setCell (p := ⟨gv, j, none⟩) hgv _) (Nat.le_refl _) (by simp [World.setCell])⟩
          case measure => simp [intOf]; omega
        case neg =>
          obtain rfl : j = k := by omega
          go_wp2_with fail
          refine (one_c 4 g (0 + 1010 + 2 + 2) wE HUE.out (by omega)).mono ?_
          rintro e w5 ⟨b2, rfl, hcu, hch⟩
          have hz5 := hch.size
          have HR5 := Lib.hid (rowI_chg HRE.out hch (by omega))
          have HU5 := Lib.hid hcu; have HC5 := Lib.hid (HCE.out.trans hch)
          clear hcu hch
          cases b2
          case false =>
            go_wp2_with fail
            refine (CL.out w5 HC5.out).mono ?_
            rintro e w8 ⟨av, cv, rfl, hrd, hb8⟩
            have HR8 := Lib.hid (HR5.out.below hb8); have HC8 := Lib.hid (HC5.out.trans (Chg.of_below (b := g) hb8)); have HRD := Lib.hid hrd
            clear hrd hb8
            go_wp2_with fail
            refine (CM.out w8 HC8.out av cv HRD.out).mono ?_
            rintro e w9 ⟨rfl, hb9⟩
            have HR9 := Lib.hid (HR8.out.below hb9); have HC9 := Lib.hid (HC8.out.trans (Chg.of_below (b := g) hb9))
            clear hb9
            go_wp2_with fail
            exact bodyPost_ret (v := .tuple #[.slice ad2 j cap2, .int .i64 fa, .slice (some ⟨gv, 0, none⟩) j capv]) (by simp [results, Tryz.results14, go_sem]) rfl (eig_end HK.out HS.out (HM.out.chg HC9.out hcl).rd HR9.out HYL.out h7 (by rw [HG.out]; exact HNEW.out _ (HF.out.trans HC9.out)))
          case true =>
            go_wp2_with fail
            refine (pick_c (j : Int) g (0 + 1010 + 2 + 2 + 2) w5 HU5.out (by omega)).mono ?_
            rintro e w6 ⟨y, rfl, hy, hcu, hch⟩
            obtain ⟨p, rfl⟩ : ∃ p : Nat, y = (p : Int) := ⟨y.toNat, by omega⟩
            have hpk : p < j := by omega
            have HR6 := Lib.hid (rowI_chg HR5.out hch (by omega))
            have HC6 := Lib.hid (HC5.out.trans hch)
            clear hcu hch hy HR5 HC5
            have k0 := HR6.out.cellR.2.cell? (i := p) (ints_get (by rw [HYL.out]; exact hpk))
            have k1 := HR6.out.cellR.2.frozen p
            generalize ys.getD p 0 = A at k0
            have x1 : (0 : Int) ≤ (p : Int) := by omega
            have x2 : (p : Int) < (j : Int) := by omega
            go_wp2_with fail
            refine (CL.out _ (HC6.out.under ((Below.refl w2.heap.size w6).setCell (p := ⟨gv, p, none⟩) hgv _) (Nat.le_refl _) (by simp [World.setCell]))).mono ?_
            rintro e w8 ⟨av, cv, rfl, hrd, hb8⟩
            have HR8 := Lib.hid ((HR6.out.setR p _).below hb8); have HC8 := Lib.hid ((HC6.out.under ((Below.refl w2.heap.size w6).setCell (p := ⟨gv, p, none⟩) hgv _) (Nat.le_refl _) (by simp [World.setCell])).trans (Chg.of_below (b := g) hb8)); have HRD := Lib.hid hrd
            clear hrd hb8
            go_wp2_with fail
            refine (CM.out w8 HC8.out av cv HRD.out).mono ?_
            rintro e w9 ⟨rfl, hb9⟩
            have HR9 := Lib.hid (HR8.out.below hb9); have HC9 := Lib.hid (HC8.out.trans (Chg.of_below (b := g) hb9))
            clear hb9
            go_wp2_with fail
            exact bodyPost_ret (v := .tuple #[.slice ad2 j cap2, .int .i64 fa, .slice (some ⟨gv, 0, none⟩) j capv]) (by simp [results, Tryz.results14, go_sem]) rfl (eig_end HK.out HS.out (HM.out.chg HC9.out hcl).rd HR9.out (by rw [List.length_set]; exact HYL.out) h7 (by rw [HG.out]; exact HNEW.out _ (HF.out.trans HC9.out)))
set_option maxHeartbeats 6400000 in
set_option maxRecDepth 100000 in
theorem drawProvesMean_c (ad : Option Addr) (len cap : Nat) (w : World) (hl : len ≤ 9223372036854775807) (hr : RdB w ad len) :
    Calls Tryz.prog 16 #[.slice ad len cap] w (MatXV w) := by
  have HC := Lib.hid (cur_new (cap := cap) hr hl)
  have HRB := Lib.hid (hr.below ((Below.refl w.heap.size w).alloc (Nat.le_refl _) (.cells #[.slice ad len cap, .int .i64 0, .int .u64 0] 44)))
  clear hr
  go_enter Tryz.func16, Tryz.ntmps16
  go_wp2_with fail
  obtain ⟨wA, hwA⟩ : ∃ x, w.alloc (.cells #[.slice ad len cap, .int .i64 0, .int .u64 0] 44) = x := ⟨_, rfl⟩
  have hnew : ∀ w', Chg w.heap.size wA w' → Below w.heap.size w w' := fun w' h => by rw [← hwA] at h; exact chg_new h
  rw [hwA] at HRB
  rw [hwA] at HC ⊢
  have HNEW := Lib.hid hnew; clear hnew hwA
  obtain ⟨g, hg⟩ : ∃ g, w.heap.size = g := ⟨_, rfl⟩
  rw [hg] at HC HNEW ⊢
  have HG := Lib.hid hg
  have hcl := HC.out.lt
  clear hg
  refine (drawPotentialOf_c ad len cap wA hl HRB.out).mono ?_
  rintro e w2 ⟨ad2, cap2, M, vs, x, rfl, hsm, hmat, hb2⟩
  have hz2 := hb2.size
  have CE := sPotential_c ad2 cap2 M x w2 hmat.rd (sm7_smM hsm)
  have h7 := hsm.1
  have HS := Lib.hid (show sm7 M from hsm); have HM := Lib.hid hmat; have HU := Lib.hid (HC.out.below hb2); have HF := Lib.hid (Chg.of_below (b := g) hb2)
  clear hsm hmat hb2
  have hXL : (tab M.length (poV M.length (entM M) x)).length = M.length := tab_length _ _
  have CE2 : Calls Tryz.prog 13 #[.slice ad2 M.length cap2, .int .i64 x] w2 fun e w' => ∃ B, (B = true → 1 ≤ M.length) ∧ LisO B (tab M.length (poV M.length (entM M) x)) w2 e w' := CE.mono fun e w' ⟨B, h1, h2⟩ => ⟨B, fun h => (sq_facts (h1.1 h).1.1).1.1, h2⟩
  clear CE
  generalize tab M.length (poV M.length (entM M) x) = X at CE2 hXL
  obtain ⟨k, hk⟩ : ∃ k, M.length = k := ⟨_, rfl⟩
  have HK := Lib.hid hk
  rw [hk] at CE2 hXL h7 ⊢
  clear hk
  have hls : ∃ N : Nat, leastZ (k : Int) 6 = (N : Int) ∧ N ≤ 6 := by
    unfold leastZ
    split
    · exact ⟨k, rfl, by omega⟩
    · exact ⟨6, rfl, by omega⟩
  obtain ⟨N, hN, hN6⟩ := hls
  have HLS := Lib.hid (fun w => l1Least_n (k : Int) 6 w)
  rw [hN] at HLS
  clear hN
  have HCE := Lib.hid CE2; clear CE2
  go_wp2_with fail
  refine HCE.out.mono ?_
  rintro e w3 ⟨B, hB, adv, capv, rfl, hrow, hb3⟩
  have hz3 := hb3.size
  have HC3 := Lib.hid (Chg.of_below (b := g) hb3)
  have HU3 := Lib.hid (HU.out.below hb3)
  clear hb3 HCE HU
  cases B
  case false =>
    rw [show (onL false X).length = 0 from rfl]
    clear hrow
    go_wp2_with fail
    refine (HLS.out w3).mono ?_
    rintro e w8 ⟨rfl, rfl⟩
    go_wp2_with fail
    refine (vector_c N g (0) w3 HU3.out (by omega) (by omega)).mono ?_
    rintro e w9 ⟨v9, xs, rfl, hxl, hrow, hcu, hch⟩
    obtain ⟨ad9, cap9, rfl, hrd⟩ := hrow.shape
    have HRD := Lib.hid hrd; have HXL := Lib.hid (show xs.length ≤ 7 by omega); have HC9 := Lib.hid (HC3.out.trans hch)
    clear hxl hrow hrd hcu hch
    go_wp2_with fail
    exact bodyPost_ret (v := .tuple #[.slice ad2 k cap2, .int .i64 x, .slice ad9 xs.length cap9]) (by simp [results, Tryz.results16, go_sem]) rfl ⟨ad2, cap2, M, x, ad9, cap9, xs, by rw [HK.out], ⟨HS.out, HXL.out⟩, (HM.out.chg HC9.out hcl).rd, HRD.out, by rw [HG.out]; exact HNEW.out _ (HF.out.trans HC9.out)⟩
  case true =>
    have hk1 := hB rfl
    clear hB
    rw [show onL true X = X from rfl] at hrow ⊢
    have hrow2 := hrow
    rw [hXL] at hrow2 ⊢
    obtain ⟨gv, capw, eg, hgv⟩ := hrow.own (by omega)
    injection eg with eg q1 q2
    subst eg
    clear q1 q2 hrow
    have HR3 := Lib.hid hrow2
    clear hrow2
    go_wp2_with fail
    refine (one_c 4 g 0 w3 HU3.out (by omega)).mono ?_
    rintro e w4 ⟨bb, rfl, hcu, hch⟩
    have hz4 := hch.size
    have HR4 := Lib.hid (rowI_chg HR3.out hch (by omega))
    have HU4 := Lib.hid hcu; have HC4 := Lib.hid (HC3.out.trans hch)
    clear hcu hch HU3 HC3 HR3
    cases bb
    case true =>
      go_wp2_with fail
      refine (HLS.out w4).mono ?_
      rintro e w8 ⟨rfl, rfl⟩
      go_wp2_with fail
      refine (vector_c N g (0 + 2) w4 HU4.out (by omega) (by omega)).mono ?_
      rintro e w9 ⟨v9, xs, rfl, hxl, hrow, hcu, hch⟩
      obtain ⟨ad9, cap9, rfl, hrd⟩ := hrow.shape
      have HRD := Lib.hid hrd; have HXL := Lib.hid (show xs.length ≤ 7 by omega); have HC9 := Lib.hid (HC4.out.trans hch)
      clear hxl hrow hrd hcu hch
      go_wp2_with fail
      exact bodyPost_ret (v := .tuple #[.slice ad2 k cap2, .int .i64 x, .slice ad9 xs.length cap9]) (by simp [results, Tryz.results16, go_sem]) rfl ⟨ad2, cap2, M, x, ad9, cap9, xs, by rw [HK.out], ⟨HS.out, HXL.out⟩, (HM.out.chg HC9.out hcl).rd, HRD.out, by rw [HG.out]; exact HNEW.out _ (HF.out.trans HC9.out)⟩
    case false =>
      go_wp2_with fail
      refine (one_c 3 g (0 + 2) w4 HU4.out (by omega)).mono ?_
      rintro e w5 ⟨b2, rfl, hcu, hch⟩
      have hz5 := hch.size
      have HR5 := Lib.hid (rowI_chg HR4.out hch (by omega))
      have HU5 := Lib.hid hcu; have HC5 := Lib.hid (HC4.out.trans hch)
      have HXL := Lib.hid hXL
      clear hcu hch HU4 HC4 HR4 hXL
      cases b2
      case false =>
        go_wp2_with fail
        exact bodyPost_ret (v := .tuple #[.slice ad2 k cap2, .int .i64 x, .slice (some ⟨gv, 0, none⟩) k capv]) (by simp [results, Tryz.results16, go_sem]) rfl (eig_end HK.out HS.out (HM.out.chg HC5.out hcl).rd HR5.out HXL.out h7 (by rw [HG.out]; exact HNEW.out _ (HF.out.trans HC5.out)))
      case true =>
        go_wp2_with fail
        go_region_law (first
          | (go_simp; go_at_call 41; (with_reducible refine (pick_c (k : Int) g (0 + 2 + 2) _ (by first | exact HU5.out | exact HU5.out.below (Below.refl _ _).drew) (by omega)).mono ?_); rintro e W1 ⟨y, rfl, hy, hcu, hch⟩; obtain ⟨p, rfl⟩ : ∃ p : Nat, y = (p : Int) := ⟨y.toNat, by omega⟩; have hchD : Chg g w5 W1 := (by first | exact hch | exact Chg.trans (Chg.of_below (Below.refl _ _).drew) hch); have HU6 := Lib.hid hcu; have HR6 := Lib.hid (rowI_chg HR5.out hchD (by omega)); have HC6 := Lib.hid (HC5.out.trans hchD); have hpk : p < k := (by omega); obtain ⟨A, hA⟩ : ∃ A, X.getD p 0 = A := ⟨_, rfl⟩; have k0 := HR6.out.cellR.2.cell? (i := p) (ints_get (by rw [HXL.out]; exact hpk)); rw [hA] at k0; have x1 : (0 : Int) ≤ (p : Int) := (by omega); have x2 : (p : Int) < (k : Int) := (by omega); clear hcu hch hchD hy)
          | (go_simp; go_at_call 41; (with_reducible refine (pick_c 5 g (0 + 2 + 2 + 2) _ (by first | exact HU6.out | exact HU6.out.below (Below.refl _ _).drew) (by omega)).mono ?_); rintro e W3 ⟨z, rfl, hz, hcu, hch⟩; have hchD : Chg g W1 W3 := (by first | exact hch | exact Chg.trans (Chg.of_below (Below.refl _ _).drew) hch); have HR7 := Lib.hid (rowI_chg HR6.out hchD (by omega)); have HC7 := Lib.hid (HC6.out.trans hchD); have m0 := HR7.out.cellR.2.cell? (i := p) (ints_get (by rw [HXL.out]; exact hpk)); rw [hA] at m0; have m1 := HR7.out.cellR.2.frozen p; clear hcu hch hchD)
          | fail)
        all_goals
          go_wp2_with fail
          refine bodyPost_ret (v := .tuple #[.slice ad2 k cap2, .int .i64 x, .slice (some ⟨gv, 0, none⟩) k capv]) (by simp [results, Tryz.results16, go_sem]) rfl ?_
          exact eig_end2 HK.out HS.out HM.out hcl HC7.out hgv HR7.out HXL.out h7 (fun u hu => by rw [HG.out]; exact HNEW.out _ (HF.out.trans hu))
end Go.Proofs.YtjkfighooijblaaGreat

/-
  What the law of eigenvectors compares, as contracts with one answer. By an AI agent.
-/
namespace Go.Proofs.YtjkfighooijblaaGreat
open Go.RowKit

set_option maxHeartbeats 800000 in
theorem qI_c (ad : Option Addr) (cap : Nat) (ad' : Option Addr) (cap' : Nat) (xs : List Int) (w : World) (hl : xs.length ≤ 1048576) (hr : RdI w ad xs) (hr' : RdI w ad' xs) :
    Calls Tryz.prog 7 #[.slice ad xs.length cap, .slice ad' xs.length cap'] w fun e w' => e = .returned (.bool true) ∧ Below w.heap.size w w' := by
  have HR := Lib.hid hr; clear hr
  have HR' := Lib.hid hr'; clear hr'
  go_enter Tryz.func7, Tryz.ntmps7
  go_wp2_with fail
  go_loopw [13] (fun i wr => ∃ k : Nat, k ≤ xs.length ∧ i = .int .i64 k ∧ Below w.heap.size w wr) (fun i _ => xs.length - (intOf i).toNat)
  case atStart => exact ⟨0, Nat.zero_le _, rfl, Below.refl _ _⟩
  case round =>
    obtain ⟨k, hk, rfl, hbel⟩ := hrel
    by_cases hlt : k < xs.length
    · obtain ⟨b, off, rfl, hb, c⟩ := HR.out k hlt
      obtain ⟨b', off', rfl, hb', c'⟩ := HR'.out k hlt
      have d := bcell hbel hb c
      have d' := bcell hbel hb' c'
      clear c c'
      generalize xs.getD k 0 = x at d d'
      have x1 : (0 : Int) ≤ (k : Int) := by omega
      have x2 : (k : Int) < (xs.length : Int) := by omega
      go_wp2_with fail
      go_quiet (fail)
      go_wp2_with fail
      go_roundw
      case rel => exact ⟨k + 1, by omega, by go_num, bdrewN hbel _⟩
      case measure => simp [intOf]; omega
    · go_wp2_with fail
      go_ret
      exact ⟨rfl, hbel⟩
theorem boolOf (C : Prop) : ∃ u : Bool, u = true ↔ C := by
  rcases Classical.em C with h | h
  · exact ⟨true, by simp [h]⟩
  · exact ⟨false, by simp [h]⟩
theorem bool_eq {C : Prop} {B u : Bool} (h : B = true ↔ C) (hu : u = true ↔ C) : B = u := Bool.eq_iff_iff.2 (h.trans hu.symm)
def OutL (u : Bool) (P : List Int) (w : World) (e : Ending) (w' : World) : Prop := ∃ ad cap, e = .returned (.tuple #[.slice ad P.length cap, .bool u]) ∧ RdI w' ad P ∧ Below w.heap.size w w'
theorem LisR.out {B u : Bool} {X : List Int} {w w' : World} {e : Ending} (h : LisR B X w e w') (hu : B = u) : OutL u (onL u X) w e w' := by
  subst hu; exact h
theorem LisO.out {B u : Bool} {X : List Int} {w w' : World} {e : Ending} (h : LisO B X w e w') (hu : B = u) : OutL u (onL u X) w e w' := by
  subst hu
  obtain ⟨ad, cap, rfl, hr, hb⟩ := h
  obtain ⟨a, c, e, hrd⟩ := hr.shape
  injection e with e _ _
  subst e
  exact ⟨_, _, rfl, hrd, hb⟩
def TwoB (a b : Bool) (w : World) (e : Ending) (w' : World) : Prop := e = .returned (.tuple #[.bool a, .bool b]) ∧ Below w.heap.size w w'
theorem onL_le {u : Bool} {X : List Int} (h : X.length ≤ 7) : (onL u X).length ≤ 7 := by
  cases u
  · exact Nat.zero_le _
  · exact h
theorem two_of {B u q r : Bool} {C : Prop} {w w' : World} {e : Ending} (he : e = .returned (.tuple #[.bool B, .bool q])) (hb : B = true ↔ C) (hu : u = true ↔ C) (hq : q = r) (hw : Below w.heap.size w w') : TwoB u r w e w' := by
  subst he; rw [bool_eq hb hu, hq]; exact ⟨rfl, hw⟩
/-- a list of values is a vector of the question. -/
theorem qu_tab {M : List (List Int)} {x : Int} {V : Nat → Int} (hs : sqB M = true) (hx : -1000000 ≤ x ∧ x ≤ 1000000) (hf : ∀ j, j < M.length → V j ≠ 1000000000) (ha : (tab M.length V).all numB = true) : quB M x (tab M.length V) = true ∧ ∀ j, j < M.length → -1000000 ≤ V j ∧ V j ≤ 1000000 := by
  have hal : allB (tab M.length V) (-1000000) 1000000 = true := by rw [all_fin hf]; exact ha
  refine ⟨?_, fun j hj => ?_⟩
  · rw [qu_vec]
    unfold vecM
    rw [hs, hal, tab_length, decide_eq_true rfl, inB_t.2 hx]
    rfl
  · have := allB_t.1 hal j (by rw [tab_length]; exact hj)
    rw [tab_getD hj] at this
    exact this
theorem vOf_tab {n : Nat} {V : Nat → Int} {j : Nat} (hj : j < n) : vOf (tab n V) j = V j := tab_getD hj 0
theorem eig_tab {n : Nat} {m : Nat → Nat → Int} {x : Int} {V : Nat → Int} (h : eigP n m x V) : eigP n m x (vOf (tab n V)) := fun i hi => by
  rw [vOf_tab hi, ← h i hi]
  exact mnF_congr rfl fun k hk => by rw [vOf_tab hk]
theorem prv_tab {n : Nat} {m : Nat → Nat → Int} {x : Int} {V : Nat → Int} (h : prvP n m x V) : prvP n m x (vOf (tab n V)) := fun i k hi hk ha => by
  rw [vOf_tab hi, vOf_tab hk]
  exact h i k hi hk ha
theorem evPack (adm : Option Addr) (cm : Nat) (M : List (List Int)) (hsm : sm7 M) : ∃ (u : Bool) (P : List Int) (x : Int), P.length ≤ 7 ∧
    (∀ w, RdM w adm M → Calls Tryz.prog 5 #[.slice adm M.length cm] w (OutL u P w)) ∧
    (∀ w, RdM w adm M → Calls Tryz.prog 6 #[.slice adm M.length cm] w (OutL u P w)) ∧
    (u = true → (∀ w, RdM w adm M → Calls Tryz.prog 8 #[.slice adm M.length cm] w fun e w' => e = .returned (.tuple #[.agg #[.int .i64 x, .int .i64 1], .bool true]) ∧ Below w.heap.size w w') ∧
      (∀ w a c, RdM w adm M → RdI w a P → Calls Tryz.prog 9 #[.slice adm M.length cm, .int .i64 x, .slice a P.length c] w (TwoB true true w)) ∧
      (∀ w a c, RdM w adm M → RdI w a P → Calls Tryz.prog 10 #[.slice adm M.length cm, .int .i64 x, .slice a P.length c] w (TwoB true true w))) := by
  obtain ⟨u, hu⟩ := boolOf (sqB M = true ∧ EvP M.length (entM M) ∧ (tab M.length (eiV M.length (entM M))).all numB = true)
  refine ⟨u, onL u (tab M.length (eiV M.length (entM M))), (lmF M.length (entM M)).n, onL_le (by rw [tab_length]; exact hsm.1), fun w h => (iEigenvector_c adm cm M w h (sm7_smM hsm)).mono fun e w' ⟨B, h1, h2⟩ => h2.out (bool_eq h1 hu), fun w h => (sEigenvector_c adm cm M w h (sm7_smM hsm)).mono fun e w' ⟨B, h1, h2⟩ => h2.out (bool_eq h1 hu), fun h => ?_⟩
  subst h
  obtain ⟨hs, hev, hall⟩ := hu.1 rfl
  obtain ⟨hn, -, hnum⟩ := sq_facts hs
  have hnum : ∀ a b, a < M.length → b < M.length → numB (entM M a b) = true := hnum
  obtain ⟨hq, hbd⟩ := qu_tab hs (ev_facts hnum hev.ne hev.den).1 (ev_fin hn.2 hnum hev) hall
  rw [show ∀ X : List Int, onL true X = X from fun _ => rfl]
  refine ⟨fun w h => (sLeastMean_c adm cm M w h (sm7_smM hsm) hs hev.ne).mono fun e w' ⟨h1, h2⟩ => ⟨?_, h2⟩, fun w a c hm hp => ?_, fun w a c hm hp => ?_⟩
  · rw [h1]
    unfold frV
    rw [hev.den]
  · refine (iIsEigen_c adm cm M _ a c _ w hm (sm7_smM hsm) hp (by rw [tab_length]; omega)).mono fun e w' ⟨B, h1, h2, h3⟩ => two_of h1 h2 (C := _) ⟨fun _ => ⟨hq, eig_tab (ev_eigen hn.2 hnum hev hbd)⟩, fun _ => rfl⟩ hq h3
  · refine (iProves_c adm cm M _ a c _ w hm (sm7_smM hsm) hp (by rw [tab_length]; omega)).mono fun e w' ⟨B, h1, h2, h3⟩ => two_of h1 h2 (C := _) ⟨fun _ => ⟨hq, prv_tab (lst_proves hnum (ev_facts hnum hev.ne hev.den).1 (ev_lst hn.2 hnum hev) (ev_fin hn.2 hnum hev))⟩, fun _ => rfl⟩ hq h3
theorem poPack (adm : Option Addr) (cm : Nat) (M : List (List Int)) (x : Int) (hsm : sm7 M) : ∃ (u : Bool) (P : List Int), P.length ≤ 7 ∧
    (∀ w, RdM w adm M → Calls Tryz.prog 12 #[.slice adm M.length cm, .int .i64 x] w (OutL u P w)) ∧
    (∀ w, RdM w adm M → Calls Tryz.prog 13 #[.slice adm M.length cm, .int .i64 x] w (OutL u P w)) ∧
    (u = true → ∀ w a c, RdM w adm M → RdI w a P → Calls Tryz.prog 10 #[.slice adm M.length cm, .int .i64 x, .slice a P.length c] w (TwoB true true w)) := by
  obtain ⟨u, hu⟩ := boolOf ((sqB M = true ∧ inB x (-1000000) 1000000 = true) ∧ cirP M.length (entM M) x ∧ (tab M.length (poV M.length (entM M) x)).all numB = true)
  refine ⟨u, onL u (tab M.length (poV M.length (entM M) x)), onL_le (by rw [tab_length]; exact hsm.1), fun w h => (iPotential_c adm cm M x w h (sm7_smM hsm)).mono fun e w' ⟨B, h1, h2⟩ => h2.out (bool_eq h1 hu), fun w h => (sPotential_c adm cm M x w h (sm7_smM hsm)).mono fun e w' ⟨B, h1, h2⟩ => h2.out (bool_eq h1 hu), fun h => ?_⟩
  subst h
  obtain ⟨⟨hs, hx⟩, hc, hall⟩ := hu.1 rfl
  have hx := inB_t.1 hx
  obtain ⟨hn, -, hnum⟩ := sq_facts hs
  have hnum : ∀ a b, a < M.length → b < M.length → numB (entM M a b) = true := hnum
  obtain ⟨hq, hbd⟩ := qu_tab hs hx (po_fin hn.2 hnum hx hc) hall
  rw [show ∀ X : List Int, onL true X = X from fun _ => rfl]
  intro w a c hm hp
  refine (iProves_c adm cm M _ a c _ w hm (sm7_smM hsm) hp (by rw [tab_length]; omega)).mono fun e w' ⟨B, h1, h2, h3⟩ => two_of h1 h2 (C := _) ⟨fun _ => ⟨hq, prv_tab (po_proves hn.2 hnum hx hc)⟩, fun _ => rfl⟩ hq h3
theorem eiPack (adm : Option Addr) (cm : Nat) (M : List (List Int)) (x : Int) (adp : Option Addr) (cp : Nat) (p : List Int) (hsm : sm7 M) (hp7 : p.length ≤ 7) : ∃ B Q : Bool,
    (∀ w, RdM w adm M → RdI w adp p → Calls Tryz.prog 9 #[.slice adm M.length cm, .int .i64 x, .slice adp p.length cp] w (TwoB B Q w)) ∧
    (∀ w, RdM w adm M → RdI w adp p → Calls Tryz.prog 15 #[.slice adm M.length cm, .int .i64 x, .slice adp p.length cp] w (TwoB B Q w)) := by
  obtain ⟨u, hu⟩ := boolOf (quB M x p = true ∧ eigP M.length (entM M) x (vOf p))
  exact ⟨u, quB M x p, fun w hm hp => (iIsEigen_c adm cm M x adp cp p w hm (sm7_smM hsm) hp (by omega)).mono fun e w' ⟨B, h1, h2, h3⟩ => two_of h1 h2 hu rfl h3, fun w hm hp => (sIsEigen_c adm cm M x adp cp p w hm (sm7_smM hsm) hp (by omega)).mono fun e w' ⟨B, h1, h2, h3⟩ => two_of h1 h2 hu rfl h3⟩
/-- the least mean isn't less than what is proved. -/
theorem mean_ge {n : Nat} {m : Nat → Nat → Int} {y : Int} {v : Nat → Int} (hn6 : n ≤ 6) (hm : ∀ a b, a < n → b < n → numB (m a b) = true) (hy : -1000000 ≤ y ∧ y ≤ 1000000) (hp : prvP n m y v) (hne : lmB n m ≠ []) : y * (lmF n m).d ≤ (lmF n m).n ∧ wrap64 (y * (lmF n m).d) = y * (lmF n m).d := by
  have hmem : lmB n m ∈ allC n m n := mnC_mem hne
  have h1 := proves_cir hp (allC_cir hmem)
  have hfb := frB_t.1 (meC_frB hm hn6 (allC_cr hmem))
  rw [lmF_ne hne]
  have hl : 0 < ((lmB n m).length : Int) := by have := List.length_pos_iff.2 hne; omega
  obtain ⟨s, hs, e1, e2, _⟩ := low_pos (n := sumC m (lmB n m)) hl
  rw [show lowF (sumC m (lmB n m)) ((lmB n m).length : Int) = meC m (lmB n m) from rfl] at e1 e2
  generalize meC m (lmB n m) = F at e1 e2 hfb ⊢
  rw [e1, e2] at h1
  have h2 : s * (y * F.d) ≤ s * F.n := by rw [← Int.mul_assoc, Int.mul_comm s y, Int.mul_assoc]; exact h1
  refine ⟨Int.le_of_mul_le_mul_left h2 hs, ?_⟩
  have b1 := Int.mul_le_mul_of_nonneg_right hy.2 (show 0 ≤ F.d by omega)
  have b2 := Int.mul_le_mul_of_nonneg_right hy.1 (show 0 ≤ F.d by omega)
  unfold wrap64
  omega
theorem prPack (adm : Option Addr) (cm : Nat) (M : List (List Int)) (y : Int) (adp : Option Addr) (cp : Nat) (p : List Int) (hsm : sm7 M) (hp7 : p.length ≤ 7) : ∃ B Q : Bool,
    (∀ w, RdM w adm M → RdI w adp p → Calls Tryz.prog 10 #[.slice adm M.length cm, .int .i64 y, .slice adp p.length cp] w (TwoB B Q w)) ∧
    (∀ w, RdM w adm M → RdI w adp p → Calls Tryz.prog 17 #[.slice adm M.length cm, .int .i64 y, .slice adp p.length cp] w (TwoB B Q w)) ∧
    (Q = true → B = true → ∃ (a d Z : Int) (k : Bool), (∀ w, RdM w adm M → Calls Tryz.prog 18 #[.slice adm M.length cm] w fun e w' => e = .returned (.tuple #[.agg #[.int .i64 a, .int .i64 d], .bool k]) ∧ Below w.heap.size w w') ∧ wrap64 (y * d) = Z ∧ (k = true → decide (a < Z) = false)) := by
  obtain ⟨u, hu⟩ := boolOf (quB M y p = true ∧ prvP M.length (entM M) y (vOf p))
  refine ⟨u, quB M y p, fun w hm hp => (iProves_c adm cm M y adp cp p w hm (sm7_smM hsm) hp (by omega)).mono fun e w' ⟨B, h1, h2, h3⟩ => two_of h1 h2 hu rfl h3, fun w hm hp => (sProves_c adm cm M y adp cp p w hm (sm7_smM hsm) hp (by omega)).mono fun e w' ⟨B, h1, h2, h3⟩ => two_of h1 h2 hu rfl h3, fun _ h => ?_⟩
  obtain ⟨hq, hpr⟩ := hu.1 h
  obtain ⟨hs, hy, -, -⟩ := qu_facts hq
  obtain ⟨hn, -, hnum⟩ := sq_facts hs
  have hnum : ∀ a b, a < M.length → b < M.length → numB (entM M a b) = true := hnum
  refine ⟨(lmF M.length (entM M)).n, (lmF M.length (entM M)).d, _, decide (lmB M.length (entM M) ≠ []), fun w h => (iLeastMean_c adm cm M w h (sm7_smM hsm)).mono fun e w' ⟨h1, h2⟩ => ⟨?_, h2⟩, rfl, fun h => ?_⟩
  · rw [h1, hs, if_pos rfl]
    rfl
  · obtain ⟨g1, g2⟩ := mean_ge hn.2 hnum hy hpr (of_decide_eq_true h)
    rw [g2]
    exact decide_eq_false (by omega)
end Go.Proofs.YtjkfighooijblaaGreat
