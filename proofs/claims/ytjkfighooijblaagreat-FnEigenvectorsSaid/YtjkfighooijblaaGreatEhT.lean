/-
  Matrices of small numbers that the cursor draws. By an AI agent.
-/
import Derived.Test.YtjkfighooijblaaGreatEhP
import Derived.Test.YtjkfighooijblaaGreatWyU
namespace Go.Proofs.YtjkfighooijblaaGreat
open Go.RowKit

def ArcN (c n : Nat) (w : World) (s : Value) (wc : World) : Prop := ∃ N : Nat, s = .int .i64 N ∧ 1 ≤ N ∧ N ≤ 6 ∧ Cur wc c n ∧ Chg c w wc
def ArcB (c n : Nat) (w : World) (s : Value) (wc : World) : Prop := ∃ b : Bool, s = .bool b ∧ Cur wc c n ∧ Chg c w wc
def ArcY (c n : Nat) (w : World) (s : Value) (wc : World) : Prop := ∃ y : Int, s = .int .i64 y ∧ Cur wc c n ∧ Chg c w wc

set_option maxHeartbeats 6400000 in
set_option maxRecDepth 100000 in
theorem arcs_c (c n : Nat) (w : World) (h : Cur w c n) (hn : n ≤ 4611686018427330000) :
    Calls Tryz.prog 53 #[.pointer (some ⟨c, 0, none⟩)] w (MatD smD c (n + 1000) w) := by
  have hcl := h.lt
  have H := Lib.hid h; clear h
  go_enter Tryz.func53, Tryz.ntmps53
  go_wp2_with fail
  refine (pick_c 4 c n w H.out (by omega)).mono ?_
  rintro e w1 ⟨x, rfl, hx, hcu, hch⟩
  obtain ⟨N0, hN⟩ : ∃ N : Nat, 1 + x = (N : Int) := ⟨(1 + x).toNat, by omega⟩
  have e1 : IntKind.i64.wrap (1 + x) = (N0 : Int) := by rw [i64_small (by omega) (by omega)]; exact hN
  have hN04 : 1 ≤ N0 ∧ N0 ≤ 4 := by omega
  have hz1 := hch.size
  have HU := Lib.hid hcu; have HF := Lib.hid hch
  clear hcu hch hx hN
  go_wp2_with fail
  refine (one_c 16 c (n + 2) w1 HU.out (by omega)).mono ?_
  rintro e w2 ⟨bb, rfl, hcu, hch⟩
  have hz2 := hch.size
  have HU2 := Lib.hid hcu; have HF2 := Lib.hid (HF.out.trans hch)
  clear hcu hch HU HF H
  go_upto_if 14 with fail
  go_cut [3] from 3 to 3 (fun s wc => ArcN c (n + 4) w s wc)
  case first =>
    cases bb
    · go_wp2_with fail
      go_meet
      exact ⟨N0, rfl, by omega, by omega, HU2.out, HF2.out⟩
    · go_wp2_with fail
      go_meet
      exact ⟨6, rfl, by omega, by omega, HU2.out, HF2.out⟩
  case rest =>
    obtain ⟨N, rfl, hN1, hN6, hcu, hch⟩ := hcut
    obtain ⟨w3, rfl⟩ : ∃ x : World, x = wc := ⟨_, rfl⟩
    have HU3 := Lib.hid hcu; have HF3 := Lib.hid hch
    have hz3 := hch.size
    clear hcu hch HU2 HF2 e1 hN04 hz1 hz2
    go_wp2_with fail
    refine (one_c 2 c (n + 4) w3 HU3.out (by omega)).mono ?_
    rintro e wV ⟨few, rfl, hcu, hch⟩
    have HUV := Lib.hid hcu; have HFV := Lib.hid (HF3.out.trans hch)
    have hzV : w.heap.size ≤ wV.heap.size := by have := hch.size; omega
    have hcV : c < wV.heap.size := by omega
    clear hcu hch HU3 HF3
    go_wp2_with fail
    go_loopw [5, 6] (fun v i wr => ∃ (k : Nat) (M : List (List Int)) (vs : List Value), k ≤ N ∧ i = .int .i64 k ∧ (shM k N M ∧ capM M vs) ∧ MatO wr wV.heap.size v M vs ∧ Cur wr c (n + 10 + 24 * k) ∧ Chg c wV wr) (fun _ i _ => N - (intOf i).toNat)
    case atStart => exact ⟨0, [], [], Nat.zero_le _, rfl, ⟨⟨rfl, fun i hi => absurd hi (Nat.not_lt_zero _)⟩, fun i hi => absurd hi (Nat.not_lt_zero _)⟩, MatO.nil _ _, HUV.out.mono (by omega), Chg.refl _ _⟩
    case round =>
      obtain ⟨wE, rfl⟩ : ∃ x : World, x = wr := ⟨_, rfl⟩
      obtain ⟨k, M, vs, hk, rfl, hsh, hmat, hcu, hch⟩ := hrel
      obtain ⟨adv, cav, rfl, _⟩ := hmat.shape
      have hsz := hch.size
      rw [hsh.1.1] at hmat ⊢
      have HSH := Lib.hid hsh; have HM := Lib.hid hmat; have HU := Lib.hid hcu; have HF := Lib.hid hch
      clear hsh hmat hcu hch
      by_cases hlt : k < N
      case pos =>
        have x1 : (0 : Int) ≤ (k : Int) := by omega
        have x2 : (k : Int) < (N : Int) := by omega
        go_wp2_with fail
        go_loopw [7, 8] (fun v i wr => ∃ (j : Nat) (xs : List Int), j ≤ N ∧ i = .int .i64 j ∧ xs.length = j ∧ RowI wr wE.heap.size v xs ∧ Cur wr c (n + 10 + 24 * k + 4 * j) ∧ Chg c wE wr) (fun _ i _ => N - (intOf i).toNat)
        case atStart => exact ⟨0, [], Nat.zero_le _, rfl, rfl, RowI.nil _ _, HU.out, Chg.refl _ _⟩
        case round =>
          obtain ⟨wI, rfl⟩ : ∃ x : World, x = wr := ⟨_, rfl⟩
          obtain ⟨j, xs, hj, rfl, hxl, hrow, hcu, hch⟩ := hrel
          obtain ⟨adr, car, rfl, hcar⟩ := row_cap hrow
          have HCAR := Lib.hid hcar
          clear hcar
          rw [hxl] at hrow ⊢
          have HXL := Lib.hid hxl
          have hsz2 := hch.size
          have HR := Lib.hid hrow; have HU2 := Lib.hid hcu; have HF2 := Lib.hid hch
          clear hrow hcu hch hxl
          by_cases hlj : j < N
          case pos =>
            have x3 : (0 : Int) ≤ (j : Int) := by omega
            have x4 : (j : Int) < (N : Int) := by omega
            go_wp2_with fail
            refine (small_c c (n + 10 + 24 * k + 4 * j) wI HU2.out (by omega)).mono ?_
            rintro e w4 ⟨C, rfl, -, hcu, hch⟩
            have hsz4 := hch.size
            have HU4 := Lib.hid hcu; have HF4 := Lib.hid hch
            clear hcu hch
            go_upto_region 14 with fail
            go_cut [41] from 29 to 41 (fun s wc => ArcB c (n + 10 + 24 * k + 4 * j + 4) w4 s wc)
            case first =>
              cases few
              · go_wp2_with fail
                go_meet
                exact ⟨false, rfl, HU4.out.mono (by omega), Chg.refl _ _⟩
              · go_wp2_with fail
                refine (one_c 2 c (n + 10 + 24 * k + 4 * j + 2) w4 HU4.out (by omega)).mono ?_
                rintro e w5 ⟨ob, rfl, hcu, hch⟩
                have HU5 := Lib.hid hcu; have HF5 := Lib.hid hch
                clear hcu hch
                cases ob
                · go_wp2_with fail
                  go_meet
                  exact ⟨false, rfl, HU5.out.mono (by omega), HF5.out⟩
                · obtain ⟨t, ht⟩ : ∃ t, (k + 1) % N = t := ⟨_, rfl⟩
                  have r1 : Int.tmod ((k : Int) + 1) (N : Int) = (t : Int) := by rw [rem_next, ht]
                  have r2 : IntKind.i64.wrap ((k : Int) + 1) = (k : Int) + 1 := i64_small (by omega) (by omega)
                  have r3 : ((N : Int) == 0) = false := beq_eq_false_iff_ne.2 (by omega)
                  have r4 : N ≠ 0 := by omega
                  obtain ⟨u, hu⟩ : ∃ u, ((j : Int) != (t : Int)) = u := ⟨_, rfl⟩
                  clear ht
                  go_wp2_with fail
                  go_meet
                  exact ⟨u, by first | rw [hu] | rw [← hu], HU5.out.mono (by omega), HF5.out⟩
            case rest =>
              obtain ⟨bt, rfl, hcu, hch⟩ := hcut
              obtain ⟨w5, rfl⟩ : ∃ x : World, x = wc := ⟨_, rfl⟩
              have hsz5 := hch.size
              have HU5 := Lib.hid hcu; have HF5 := Lib.hid (HF4.out.trans hch)
              clear hcu hch HU4 HF4
              go_upto_if 41 with fail
              go_cut [9] from 9 to 9 (fun s wc => ArcY c (n + 10 + 24 * k + 4 * j + 4) wI s wc)
              case first =>
                cases bt
                · go_wp2_with fail
                  go_meet
                  exact ⟨C, rfl, HU5.out, HF5.out⟩
                · go_wp2_with fail
                  go_meet
                  exact ⟨1000000000, rfl, HU5.out, HF5.out⟩
              case rest =>
                obtain ⟨Y, rfl, hcu, hch⟩ := hcut
                obtain ⟨w6, rfl⟩ : ∃ x : World, x = wc := ⟨_, rfl⟩
                have hsz6 := hch.size
                have HR6 := Lib.hid (row_chg HR.out hch (by omega))
                have HU6 := Lib.hid hcu
                have HF6 := Lib.hid (HF2.out.trans hch)
                have HSZE := Lib.hid (show wE.heap.size ≤ w6.heap.size by omega)
                clear hcu hch HU5 HF5
                go_wp2_with (at_builtin; refine wpList_appN rfl _ _ rfl wE.heap.size _ 0 1 _ xs [Y] (j + 1) (by rw [HXL.out]; rfl) rfl rfl (RowI.alloc' HR6.out) (rdI_one _ _ _ rfl) (by have := HXL.out; omega) (by simp) (Nat.le_trans HSZE.out (by simp)) ?_; intro v5 wm hown hsh hbm hgr)
                obtain ⟨hu5, hf5⟩ := draw_app (Below.refl _ _) HU6.out HF6.out (by omega) hbm hgr.size
                have HR5 := Lib.hid hown
                have HU7 := Lib.hid hu5
                have HF7 := Lib.hid hf5
                clear hown hsh hbm hgr hu5 hf5
                go_wp2_with fail
                go_roundw
                case rel => exact ⟨j + 1, xs ++ [Y], by omega, by go_num, by rw [List.length_append, HXL.out]; rfl, HR5.out, HU7.out.mono (by omega), HF7.out⟩
                case measure => simp [intOf]; omega
          case neg =>
            obtain rfl : j = N := by omega
            have HM2 := Lib.hid (HM.out.chg HF2.out hcV)
            have HLOW := Lib.hid HM.out.low
            have HX := Lib.hid (CellO.of_row (HR.out.low (B' := wV.heap.size) hsz))
            have HB := Lib.hid (RowI.blk HR.out)
            have hcp := capM_snoc (a := adr) HSH.out.2 HM.out.len HCAR.out
            rw [HXL.out] at hcp
            have HSH5 := Lib.hid (And.intro (shM_snoc HSH.out.1 HXL.out) hcp)
            clear hcp
            go_wp2_with (at_builtin; refine wpList_appG rfl _ _ rfl wV.heap.size wE.heap.size wI.heap.size _ (.slice adr j car) M vs xs (k + 1) (by rw [HSH.out.1.1]) rfl rfl (by simp [go_sem]) (HM2.out.below ((Below.refl _ _).alloc (Nat.le_refl _) _)) (HX.out.below ((Below.refl _ _).alloc (Nat.le_refl _) _)) HB.out HLOW.out (by have := HSH.out.1.1; omega) (by simp; omega) ?_; intro ad5 cap5 wm hmat5 hbm hgz)
            have hb9 : Below wV.heap.size wI wm := ((Below.refl wV.heap.size wI).alloc (by omega) (.cells #[.slice adr j car] 25)).trans hbm
            have hsz5 : wI.heap.size ≤ wm.heap.size := by simp at hgz; omega
            have HM5 := Lib.hid hmat5
            have HU5 := Lib.hid (HU2.out.under hb9 hcV)
            have HF5 := Lib.hid ((HF.out.trans HF2.out).under hb9 (Nat.le_refl _) hsz5)
            clear hmat5 hbm hb9
            go_wp2_with fail
            go_roundw
            case rel => exact ⟨k + 1, _, _, by omega, by go_num, HSH5.out, HM5.out, HU5.out.mono (by omega), HF5.out⟩
            case measure => simp [intOf]; omega
      case neg =>
        obtain rfl : k = N := by omega
        have HMW := Lib.hid (HM.out.mono (B' := w.heap.size) (by omega))
        have HFW := Lib.hid (HFV.out.trans HF.out)
        have HML := Lib.hid HSH.out.1.1
        have HUW := Lib.hid (HU.out.mono (show n + 10 + 24 * k ≤ n + 200 by omega))
        obtain ⟨g, cav', eg, hg, _, _⟩ := HMW.out.cells (by rw [HML.out]; omega)
        injection eg with eg q1 q2
        subst eg
        clear q1 q2
        clear HM HF HUV HFV HU
        go_wp2_with fail
        refine (pick_c 30 c (n + 200) wE HUW.out (by omega)).mono ?_
        rintro e w4 ⟨x, rfl, hx, hcu, hch⟩
        have hz4 := hch.size
        have HM4 := Lib.hid (HMW.out.chg hch hcl)
        have HU4 := Lib.hid hcu; have HF4 := Lib.hid (HFW.out.trans hch)
        clear hcu hch HMW HFW HUW
        by_cases h0 : x = 0
        case pos =>
          subst h0
          go_wp2_with fail
          refine (anyMatrix_c c (n + 200 + 2) w4 HU4.out (by omega)).mono ?_
          rintro e w6 ⟨ad6, cap6, M6, vs6, rfl, hp6, hmat6, hcu, hch⟩
          have HP6 := Lib.hid hp6
          have HM6 := Lib.hid (hmat6.mono (B' := w.heap.size) (by omega)); have HU6 := Lib.hid hcu; have HF6 := Lib.hid (HF4.out.trans hch)
          clear hp6 hmat6 hcu hch
          go_wp2_with fail
          go_ret
          exact ⟨ad6, cap6, M6, ⟨vs6, rfl, HP6.out, HM6.out, HU6.out.mono (by omega), HF6.out⟩⟩
        case neg =>
          have e0 : (x == 0) = false := beq_eq_false_iff_ne.2 h0
          have HDL := Lib.hid (fun i (hi : i < k) => HSH.out.1.2 i hi)
          have hx2 : 0 < k := by omega
          have hx1 : (0 : Int) < (k : Int) := by omega
          have hcw4 : c < w4.heap.size := by omega
          by_cases h1 : x = 1
          case pos =>
            subst h1
            obtain ⟨bq, oq, cq, hvq⟩ := HM4.out.rowE (i := 0) (by rw [HML.out]; exact hx2) (by rw [HDL.out 0 hx2]; exact hx2)
            rw [HDL.out 0 hx2] at hvq
            have HVQ := Lib.hid hvq
            obtain ⟨n4, hB4, hb4', hbg4, -, -⟩ := HM4.out.rowY (by rw [HML.out]; exact hx2) (HDL.out 0 hx2) hx2 HVQ.out
            clear hvq
            go_wp2_with fail
            go_region_held3 (fun w' => w'.cell? ⟨g, 0, none⟩ = some (.slice (some ⟨bq, oq, none⟩) k cq)) (with_reducible repeat' (first | assumption | apply cell_alloc' | apply cell_drew' | (refine cell_set' hbg4.symm ?_)))
              (first
                | (go_at_call 41; (with_reducible refine (pick_c (k : Int) c (n + 200 + 2) _ (by first | exact HU4.out | exact HU4.out.below (Below.refl _ _).drew) (by omega)).mono ?_); rintro e W1 ⟨y, rfl, hy, hcu, hch⟩; obtain ⟨p, rfl⟩ : ∃ p : Nat, y = (p : Int) := ⟨y.toNat, by omega⟩; have hpR : p < k := (by omega); have HMP := Lib.hid (MatO.chg (by first | exact HM4.out | exact HM4.out.below (Below.refl _ _).drew) hch hcl); have HUP := Lib.hid hcu; have HFP := Lib.hid (HF4.out.trans (Chg.trans (Chg.of_below (Below.refl _ _).drew) hch)); have nP : W1.cell? ⟨g, 0, none⟩ = some (.slice (some ⟨bq, oq, none⟩) k cq) := (HMP.out.rowY (by rw [HML.out]; exact hx2) (HDL.out 0 hx2) hx2 HVQ.out).1; have hzP := hch.size; have hp0 : (0 : Int) ≤ (p : Int) := (by omega); have hp1 : (p : Int) < (k : Int) := (by omega); clear hcu hch hy)
                | (go_at_call 42; (with_reducible refine (anyNum_c c (n + 200 + 2 + 2) _ HUP.out (by omega)).mono ?_); rintro e W3 ⟨z, rfl, -, hcu, hch⟩; have HMB := Lib.hid (HMP.out.chg hch hcl); have HUB := Lib.hid hcu; have HFB := Lib.hid (HFP.out.trans hch); obtain ⟨nB, hBb, hbB, hbg, hcell, hset⟩ := HMB.out.rowY (by rw [HML.out]; exact hx2) (HDL.out 0 hx2) hx2 HVQ.out; obtain ⟨mB, fB⟩ := hcell p hpR; have HST := Lib.hid (hset p z hpR); have hzB := hch.size; clear hcu hch hcell hset)
                | fail)
            all_goals
              have hb9 : Below w.heap.size W3 (W3.setCell ⟨bq, oq + p, none⟩ (.int .i64 z)) := (Below.refl w.heap.size W3).setCell (p := ⟨bq, oq + p, none⟩) hBb (.int .i64 z)
              have HU9 := Lib.hid (HUB.out.under hb9 hcl)
              have HF9 := Lib.hid (HFB.out.under hb9 (Nat.le_refl _) (by simp [World.setCell]))
              have HS9 := Lib.hid (smD_set (vs' := vs) (i := 0) (xs := (M.getD 0 []).set p z) (smD_sh (vs := vs) HSH.out.1 (by omega) (by omega)) (by rw [List.length_set, HDL.out 0 hx2]; omega))
              clear hb9
              go_wp2_with fail
              go_ret
              exact ⟨_, cav, _, ⟨_, by rw [List.length_set, HML.out]; rfl, HS9.out, by rw [List.length_set, HML.out]; exact HST.out, HU9.out.mono (by omega), HF9.out⟩⟩
          case neg =>
            have e1 : (x == 1) = false := beq_eq_false_iff_ne.2 h1
            by_cases h2 : x = 2
            case pos =>
              subst h2
              go_wp2_with fail
              refine (pick_c (k : Int) c (n + 200 + 2) w4 HU4.out (by omega)).mono ?_
              rintro e w6 ⟨y, rfl, hy, hcu, hch⟩
              obtain ⟨q, rfl⟩ : ∃ q : Nat, y = (q : Int) := ⟨y.toNat, by omega⟩
              have hqR : q < k := by omega
              have HM6 := Lib.hid (HM4.out.chg hch hcl); have HU6 := Lib.hid hcu; have HF6 := Lib.hid (HF4.out.trans hch)
              obtain ⟨bq, oq, cq, hvq⟩ := HM6.out.rowE (i := q) (by rw [HML.out]; exact hqR) (by rw [HDL.out q hqR]; exact hx2)
              rw [HDL.out q hqR] at hvq
              obtain ⟨nB, hBb, hbB, hbg, hcell, hset⟩ := HM6.out.rowY (by rw [HML.out]; exact hqR) (HDL.out q hqR) hx2 hvq
              obtain ⟨mB, fB⟩ := hcell 0 hx2
              have hst := hset 0 1000000000 hx2
              rw [Nat.add_zero] at mB fB hst
              have HST := Lib.hid hst
              have hp0 : (0 : Int) ≤ (q : Int) := by omega
              have hp1 : (q : Int) < (k : Int) := by omega
              have hb9 : Below w.heap.size w6 (w6.setCell ⟨bq, oq, none⟩ (.int .i64 1000000000)) := (Below.refl w.heap.size w6).setCell (p := ⟨bq, oq, none⟩) hBb (.int .i64 1000000000)
              have HU9 := Lib.hid (HU6.out.under hb9 hcl)
              have HF9 := Lib.hid (HF6.out.under hb9 (Nat.le_refl _) (by simp [World.setCell]))
              have HS9 := Lib.hid (smD_set (vs' := vs) (i := q) (xs := (M.getD q []).set 0 1000000000) (smD_sh (vs := vs) HSH.out.1 (by omega) (by omega)) (by rw [List.length_set, HDL.out q hqR]; omega))
              clear hcu hch hcell hset hst hvq hb9 hy
              go_wp2_with fail
              go_ret
              exact ⟨_, cav, _, ⟨_, by rw [List.length_set, HML.out]; rfl, HS9.out, by rw [List.length_set, HML.out]; exact HST.out, HU9.out.mono (by omega), HF9.out⟩⟩
            case neg =>
              have e2 : (x == 2) = false := beq_eq_false_iff_ne.2 h2
              have HS9 := Lib.hid (smD_sh (vs := vs) HSH.out.1 (by omega) (by omega))
              go_wp2_with fail
              go_ret
              exact ⟨_, cav, M, ⟨vs, by rw [HML.out]; rfl, HS9.out, by rw [HML.out]; exact HM4.out, HU4.out.mono (by omega), HF4.out⟩⟩
end Go.Proofs.YtjkfighooijblaaGreat
