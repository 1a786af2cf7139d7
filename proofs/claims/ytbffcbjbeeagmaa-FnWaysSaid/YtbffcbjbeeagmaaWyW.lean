/-
  Steps that the cursor draws. Printed by gen_wyW.py. By an AI agent.
-/
import Derived.Test.YtbffcbjbeeagmaaWyV
namespace Go.Proofs.Ytbffcbjbeeagmaa
open Go.RowKit

theorem draw_app {c m : Nat} {wE w3 W wm : World} {o : Obj} (hbW : Below w3.heap.size w3 W) (hU : Cur w3 c m) (hF : Chg c wE w3) (hc : c < wE.heap.size) (hbm : Below wE.heap.size (W.alloc o) wm) (hgr : (W.alloc o).heap.size ≤ wm.heap.size) : Cur wm c m ∧ Chg c wE wm := by
  have hs : wE.heap.size ≤ W.heap.size := Nat.le_trans hF.size hbW.size
  have hb9 := ((Below.refl wE.heap.size W).alloc hs o).trans hbm
  have hs2 : W.heap.size ≤ wm.heap.size := by simp at hgr; omega
  exact ⟨(hU.below hbW).under hb9 hc, (hF.trans (Chg.of_below hbW)).under hb9 (Nat.le_refl _) hs2⟩
set_option maxHeartbeats 400000 in
theorem l1Abs_c (n : Int) (w : World) (h : -1000000000000 ≤ n ∧ n ≤ 1000000000000) :
    Calls Try.prog 82 #[.int .i64 n] w fun e w' => e = .returned (.int .i64 (mstZ n (-n))) ∧ w = w' := by
  have e1 : IntKind.i64.wrap (-n) = -n := i64_small (by omega) (by omega)
  have C := Lib.hid (fun w => l1Most_c n (-n) w)
  generalize mstZ n (-n) = z at C ⊢
  go_enter Try.func82, Try.ntmps82
  go_wp2_with fail
  refine (C.out _).mono ?_
  rintro e w' ⟨rfl, rfl⟩
  go_wp2_with fail
  go_ret
  exact ⟨rfl, rfl⟩
set_option maxHeartbeats 6400000 in
set_option maxRecDepth 100000 in
theorem steps_c (c n : Nat) (w : World) (h : Cur w c n) (hn : n ≤ 4611686018427330000) :
    Calls Try.prog 33 #[.pointer (some ⟨c, 0, none⟩)] w (MatD smD c (n + 1000) w) := by
  have hcl := h.lt
  have H := Lib.hid h; clear h
  go_enter Try.func33, Try.ntmps33
  go_wp2_with fail
  refine (pick_c 4 c n w H.out (by omega)).mono ?_
  rintro e w1 ⟨x, rfl, hx, hcu, hch⟩
  obtain ⟨N0, hN⟩ : ∃ N : Nat, 1 + x = (N : Int) := ⟨(1 + x).toNat, by omega⟩
  have e1 : IntKind.i64.wrap (1 + x) = (N0 : Int) := by rw [i64_small (by omega) (by omega)]; exact hN
  have hN04 : 1 ≤ N0 ∧ N0 ≤ 4 := by omega
  have hz1 := hch.size
  have HU := Lib.hid hcu; have HF := Lib.hid hch
  clear hcu hch hx hN
  go_wp2_with fail
  refine (one_c 12 c (n + 2) w1 HU.out (by omega)).mono ?_
  rintro e w2 ⟨bb, rfl, hcu, hch⟩
  have hz2 := hch.size
  have HU2 := Lib.hid hcu; have HF2 := Lib.hid (HF.out.trans hch)
  clear hcu hch HU HF H
  cases bb
  case false =>
    go_wp2_with fail
    refine (vector_c N0 c (n + 4) w2 HU2.out (by omega) (by omega)).mono ?_
    rintro e wV ⟨pv, ps, rfl, hps, hrowp, hcu, hch⟩
    obtain ⟨adp, capp, rfl, _⟩ := row_cap hrowp
    rw [hps] at hrowp ⊢
    have hzV := hch.size
    have HPV := Lib.hid (hrowp.low (B' := w.heap.size) (by omega)); have HPS := Lib.hid hps
    have HUV := Lib.hid hcu; have HFV := Lib.hid (HF2.out.trans hch)
    clear hrowp hps hcu hch HU2 HF2
    have hx0 : 0 < N0 := by omega
    go_wp2_with fail
    go_loopw [5, 6] (fun v i wr => ∃ (k : Nat) (M : List (List Int)) (vs : List Value), k ≤ N0 ∧ i = .int .i64 k ∧ (shM k N0 M ∧ capM M vs) ∧ MatO wr wV.heap.size v M vs ∧ Cur wr c (n + 64 + 12 * k) ∧ Chg c wV wr) (fun _ i _ => N0 - (intOf i).toNat)
    case atStart => exact ⟨0, [], [], Nat.zero_le _, rfl, ⟨⟨rfl, fun i hi => absurd hi (Nat.not_lt_zero _)⟩, fun i hi => absurd hi (Nat.not_lt_zero _)⟩, MatO.nil _ _, HUV.out, Chg.refl _ _⟩
    case round =>
      obtain ⟨wE, rfl⟩ : ∃ x : World, x = wr := ⟨_, rfl⟩
      obtain ⟨k, M, vs, hk, rfl, hsh, hmat, hcu, hch⟩ := hrel
      obtain ⟨adv, cav, rfl, _⟩ := hmat.shape
      have hsz := hch.size
      rw [hsh.1.1] at hmat ⊢
      have HSH := Lib.hid hsh; have HM := Lib.hid hmat; have HU := Lib.hid hcu; have HF := Lib.hid hch
      clear hsh hmat hcu hch
      by_cases hlt : k < N0
      case pos =>
        go_wp2_with fail
        go_loopw [7, 8] (fun v i wr => ∃ (j : Nat) (xs : List Int), j ≤ N0 ∧ i = .int .i64 j ∧ xs.length = j ∧ RowI wr wE.heap.size v xs ∧ Cur wr c (n + 64 + 12 * k + 2 * j) ∧ Chg c wE wr) (fun _ i _ => N0 - (intOf i).toNat)
        case atStart => exact ⟨0, [], Nat.zero_le _, rfl, rfl, RowI.nil _ _, HU.out, Chg.refl _ _⟩
        case round =>
          obtain ⟨wI, rfl⟩ : ∃ x : World, x = wr := ⟨_, rfl⟩
          obtain ⟨j, xs, hj, rfl, hxl, hrow, hcu, hch⟩ := hrel
          obtain ⟨adr, car, rfl, hcar⟩ := row_cap hrow
          have HCAR := Lib.hid hcar
          clear hcar
          rw [hxl] at hrow ⊢
          have HXL := Lib.hid hxl
          have hsz2 := hch.size
          have HR := Lib.hid hrow; have HU2 := Lib.hid hcu; have HF2 := Lib.hid hch
          clear hrow hcu hch hxl
          by_cases hlj : j < N0
          case pos =>
            go_wp2_with fail
            refine (among_c wI.heap.size 7 [0, 1, 2, 5, 9, 1000000000, 1000000000] c (n + 64 + 12 * k + 2 * j) _ (HU2.out.below ((Below.refl _ _).alloc (Nat.le_refl _) _)) (by omega) (by simp) (by simp) (by omega) (Own.newA wI _ 3 rfl)).mono ?_
            rintro e w3 ⟨C, rfl, hmem, hcu, hch⟩
            have hC : C = 1000000000 ∨ (0 ≤ C ∧ C ≤ 9) := by simp at hmem; omega
            have hch2 := Chg.trans (Chg.of_below (b := c) ((Below.refl wI.heap.size wI).alloc (Nat.le_refl _) _)) hch
            have hsz3 := hch2.size
            have HR3 := Lib.hid (row_chg HR.out hch2 (by omega))
            have HU3 := Lib.hid hcu
            have HF3 := Lib.hid (HF2.out.trans hch2)
            have HP3 := Lib.hid (CellO.rd (CellO.of_row (row_chg HPV.out ((HF.out.trans HF2.out).trans hch2) hcl)))
            clear hcu hch hch2 hmem
            obtain ⟨bp, op, rfl, hbp, q1⟩ := HP3.out k (by rw [HPS.out]; exact hlt)
            have q2 := HP3.out.at (j := j) (by rw [HPS.out]; exact hlj)
            have x1 : (0 : Int) ≤ (k : Int) := by omega
            have x2 : (k : Int) < (N0 : Int) := by omega
            have x3 : (0 : Int) ≤ (j : Int) := by omega
            have x4 : (j : Int) < (N0 : Int) := by omega
            generalize ps.getD k 0 = A at q1
            generalize ps.getD j 0 = B at q2
            have CFA := Lib.hid (fun w => poFin_c A w)
            have CFB := Lib.hid (fun w => poFin_c B w)
            by_cases hC9 : C = 1000000000
            case pos =>
              subst hC9
              clear hC CFA CFB
              go_wp2_with fail
              go_quiet (fail)
              have hszE : ∀ W, Below w3.heap.size w3 W → wE.heap.size ≤ W.heap.size := fun W h => by have := h.size; omega
              have HSZE := Lib.hid hszE; clear hszE
              go_wp2_with (at_builtin; refine wpList_appN rfl _ _ rfl wE.heap.size _ 0 1 _ xs [1000000000] (j + 1) (by rw [HXL.out]; rfl) rfl rfl (RowI.alloc' (RowI.below (by exact HR3.out) (by with_reducible repeat (first | exact Below.refl _ _ | apply bdrewN)))) (rdI_one _ _ _ rfl) (by have := HXL.out; omega) (by simp) (Nat.le_trans (HSZE.out _ (by with_reducible repeat (first | exact Below.refl _ _ | apply bdrewN))) (by simp)) ?_; intro v5 wm hown hsh hbm hgr)
              obtain ⟨hu5, hf5⟩ := draw_app (by with_reducible repeat (first | exact Below.refl _ _ | apply bdrewN)) HU3.out HF3.out (by omega) hbm hgr.size
              have HR5 := Lib.hid hown
              have HU5 := Lib.hid hu5
              have HF5 := Lib.hid hf5
              clear hown hsh hbm hgr hu5 hf5
              go_wp2_with fail
              go_roundw
              case rel => exact ⟨j + 1, xs ++ [1000000000], by omega, by go_num, by rw [List.length_append, HXL.out]; rfl, HR5.out, HU5.out.mono (by omega), HF5.out⟩
              case measure => simp [intOf]; omega
            case neg =>
              have hC0 : 0 ≤ C ∧ C ≤ 9 := by omega
              have g1 : (C != 1000000000) = true := bne_iff_ne.2 hC9
              clear hC hC9
              cases hfA : finB A
              case false =>
                rw [hfA] at CFA
                clear hfA CFB
                go_wp2_with fail
                go_quiet (first | (go_at_call 79; exact Calls.quiet_of_same ((CFA.out _).mono (fun e w' h => ⟨h.1, h.2.symm⟩))) | (go_at_call 79; exact Calls.quiet_of_same ((CFA.out _).mono (fun e w' h => ⟨h.1, h.2.symm⟩)))  | fail)
                have hszE : ∀ W, Below w3.heap.size w3 W → wE.heap.size ≤ W.heap.size := fun W h => by have := h.size; omega
                have HSZE := Lib.hid hszE; clear hszE
                go_wp2_with (at_builtin; refine wpList_appN rfl _ _ rfl wE.heap.size _ 0 1 _ xs [C] (j + 1) (by rw [HXL.out]; rfl) rfl rfl (RowI.alloc' (RowI.below (by exact HR3.out) (by with_reducible repeat (first | exact Below.refl _ _ | apply bdrewN)))) (rdI_one _ _ _ rfl) (by have := HXL.out; omega) (by simp) (Nat.le_trans (HSZE.out _ (by with_reducible repeat (first | exact Below.refl _ _ | apply bdrewN))) (by simp)) ?_; intro v5 wm hown hsh hbm hgr)
                obtain ⟨hu5, hf5⟩ := draw_app (by with_reducible repeat (first | exact Below.refl _ _ | apply bdrewN)) HU3.out HF3.out (by omega) hbm hgr.size
                have HR5 := Lib.hid hown
                have HU5 := Lib.hid hu5
                have HF5 := Lib.hid hf5
                clear hown hsh hbm hgr hu5 hf5
                go_wp2_with fail
                go_roundw
                case rel => exact ⟨j + 1, xs ++ [C], by omega, by go_num, by rw [List.length_append, HXL.out]; rfl, HR5.out, HU5.out.mono (by omega), HF5.out⟩
                case measure => simp [intOf]; omega
              case true =>
                rw [hfA] at CFA
                have hbA := inB_t.1 hfA
                cases hfB : finB B
                case false =>
                  rw [hfB] at CFB
                  clear hfA hfB
                  go_wp2_with fail
                  go_quiet (first | (go_at_call 79; exact Calls.quiet_of_same ((CFA.out _).mono (fun e w' h => ⟨h.1, h.2.symm⟩))) | (go_at_call 79; exact Calls.quiet_of_same ((CFB.out _).mono (fun e w' h => ⟨h.1, h.2.symm⟩)))  | fail)
                  have hszE : ∀ W, Below w3.heap.size w3 W → wE.heap.size ≤ W.heap.size := fun W h => by have := h.size; omega
                  have HSZE := Lib.hid hszE; clear hszE
                  go_wp2_with (at_builtin; refine wpList_appN rfl _ _ rfl wE.heap.size _ 0 1 _ xs [C] (j + 1) (by rw [HXL.out]; rfl) rfl rfl (RowI.alloc' (RowI.below (by exact HR3.out) (by with_reducible repeat (first | exact Below.refl _ _ | apply bdrewN)))) (rdI_one _ _ _ rfl) (by have := HXL.out; omega) (by simp) (Nat.le_trans (HSZE.out _ (by with_reducible repeat (first | exact Below.refl _ _ | apply bdrewN))) (by simp)) ?_; intro v5 wm hown hsh hbm hgr)
                  obtain ⟨hu5, hf5⟩ := draw_app (by with_reducible repeat (first | exact Below.refl _ _ | apply bdrewN)) HU3.out HF3.out (by omega) hbm hgr.size
                  have HR5 := Lib.hid hown
                  have HU5 := Lib.hid hu5
                  have HF5 := Lib.hid hf5
                  clear hown hsh hbm hgr hu5 hf5
                  go_wp2_with fail
                  go_roundw
                  case rel => exact ⟨j + 1, xs ++ [C], by omega, by go_num, by rw [List.length_append, HXL.out]; rfl, HR5.out, HU5.out.mono (by omega), HF5.out⟩
                  case measure => simp [intOf]; omega
                case true =>
                  rw [hfB] at CFB
                  have hbB := inB_t.1 hfB
                  have e2 : IntKind.i64.wrap (B - A) = B - A := i64_small (by omega) (by omega)
                  have CAB := Lib.hid (fun w => l1Abs_c (B - A) w (by omega))
                  obtain ⟨V, hV⟩ : ∃ V, C + (B - A) = V := ⟨_, rfl⟩
                  have e3 : IntKind.i64.wrap (C + (B - A)) = V := by rw [i64_small (by omega) (by omega)]; exact hV
                  clear hV hfA hfB
                  by_cases hm : mstZ (B - A) (-(B - A)) < 100
                  case pos =>
                    have g2 : decide (mstZ (B - A) (-(B - A)) < 100) = true := decide_eq_true hm
                    generalize mstZ (B - A) (-(B - A)) = Z at CAB g2
                    clear hm
                    go_wp2_with fail
                    go_quiet (first | (go_at_call 79; exact Calls.quiet_of_same ((CFA.out _).mono (fun e w' h => ⟨h.1, h.2.symm⟩))) | (go_at_call 79; exact Calls.quiet_of_same ((CFB.out _).mono (fun e w' h => ⟨h.1, h.2.symm⟩))) | (go_at_call 82; exact Calls.quiet_of_same ((CAB.out _).mono (fun e w' h => ⟨h.1, h.2.symm⟩))) | fail)
                    go_wp2_with fail
                    go_quiet (fail)
                    have hszE : ∀ W, Below w3.heap.size w3 W → wE.heap.size ≤ W.heap.size := fun W h => by have := h.size; omega
                    have HSZE := Lib.hid hszE; clear hszE
                    go_wp2_with (at_builtin; refine wpList_appN rfl _ _ rfl wE.heap.size _ 0 1 _ xs [V] (j + 1) (by rw [HXL.out]; rfl) rfl rfl (RowI.alloc' (RowI.below (by exact HR3.out) (by with_reducible repeat (first | exact Below.refl _ _ | apply bdrewN)))) (rdI_one _ _ _ rfl) (by have := HXL.out; omega) (by simp) (Nat.le_trans (HSZE.out _ (by with_reducible repeat (first | exact Below.refl _ _ | apply bdrewN))) (by simp)) ?_; intro v5 wm hown hsh hbm hgr)
                    obtain ⟨hu5, hf5⟩ := draw_app (by with_reducible repeat (first | exact Below.refl _ _ | apply bdrewN)) HU3.out HF3.out (by omega) hbm hgr.size
                    have HR5 := Lib.hid hown
                    have HU5 := Lib.hid hu5
                    have HF5 := Lib.hid hf5
                    clear hown hsh hbm hgr hu5 hf5
                    go_wp2_with fail
                    go_roundw
                    case rel => exact ⟨j + 1, xs ++ [V], by omega, by go_num, by rw [List.length_append, HXL.out]; rfl, HR5.out, HU5.out.mono (by omega), HF5.out⟩
                    case measure => simp [intOf]; omega
                  case neg =>
                    have g2 : decide (mstZ (B - A) (-(B - A)) < 100) = false := decide_eq_false hm
                    generalize mstZ (B - A) (-(B - A)) = Z at CAB g2
                    clear hm
                    go_wp2_with fail
                    go_quiet (first | (go_at_call 79; exact Calls.quiet_of_same ((CFA.out _).mono (fun e w' h => ⟨h.1, h.2.symm⟩))) | (go_at_call 79; exact Calls.quiet_of_same ((CFB.out _).mono (fun e w' h => ⟨h.1, h.2.symm⟩))) | (go_at_call 82; exact Calls.quiet_of_same ((CAB.out _).mono (fun e w' h => ⟨h.1, h.2.symm⟩))) | fail)
                    have hszE : ∀ W, Below w3.heap.size w3 W → wE.heap.size ≤ W.heap.size := fun W h => by have := h.size; omega
                    have HSZE := Lib.hid hszE; clear hszE
                    go_wp2_with (at_builtin; refine wpList_appN rfl _ _ rfl wE.heap.size _ 0 1 _ xs [C] (j + 1) (by rw [HXL.out]; rfl) rfl rfl (RowI.alloc' (RowI.below (by exact HR3.out) (by with_reducible repeat (first | exact Below.refl _ _ | apply bdrewN)))) (rdI_one _ _ _ rfl) (by have := HXL.out; omega) (by simp) (Nat.le_trans (HSZE.out _ (by with_reducible repeat (first | exact Below.refl _ _ | apply bdrewN))) (by simp)) ?_; intro v5 wm hown hsh hbm hgr)
                    obtain ⟨hu5, hf5⟩ := draw_app (by with_reducible repeat (first | exact Below.refl _ _ | apply bdrewN)) HU3.out HF3.out (by omega) hbm hgr.size
                    have HR5 := Lib.hid hown
                    have HU5 := Lib.hid hu5
                    have HF5 := Lib.hid hf5
                    clear hown hsh hbm hgr hu5 hf5
                    go_wp2_with fail
                    go_roundw
                    case rel => exact ⟨j + 1, xs ++ [C], by omega, by go_num, by rw [List.length_append, HXL.out]; rfl, HR5.out, HU5.out.mono (by omega), HF5.out⟩
                    case measure => simp [intOf]; omega
          case neg =>
            obtain rfl : j = N0 := by omega
            have hcV : c < wV.heap.size := by omega
            have HM2 := Lib.hid (HM.out.chg HF2.out hcV)
            have HLOW := Lib.hid HM.out.low
            have HX := Lib.hid (CellO.of_row (HR.out.low (B' := wV.heap.size) hsz))
            have HB := Lib.hid (RowI.blk HR.out)
            have hcp := capM_snoc (a := adr) HSH.out.2 HM.out.len HCAR.out
            rw [HXL.out] at hcp
            have HSH5 := Lib.hid (And.intro (shM_snoc HSH.out.1 HXL.out) hcp)
            clear hcp
            go_wp2_with (at_builtin; refine wpList_appG rfl _ _ rfl wV.heap.size wE.heap.size wI.heap.size _ (.slice adr j car) M vs xs (k + 1) (by rw [HSH.out.1.1]) rfl rfl (by simp [go_sem]) (HM2.out.below ((Below.refl _ _).alloc (Nat.le_refl _) _)) (HX.out.below ((Below.refl _ _).alloc (Nat.le_refl _) _)) HB.out HLOW.out (by have := HSH.out.1.1; omega) (by simp; omega) ?_; intro ad5 cap5 wm hmat5 hbm hgz)
            have hb9 : Below wV.heap.size wI wm := ((Below.refl wV.heap.size wI).alloc (by omega) (.cells #[.slice adr j car] 29)).trans hbm
            have hsz5 : wI.heap.size ≤ wm.heap.size := by simp at hgz; omega
            have HM5 := Lib.hid hmat5
            have HU5 := Lib.hid (HU2.out.under hb9 hcV)
            have HF5 := Lib.hid ((HF.out.trans HF2.out).under hb9 (Nat.le_refl _) hsz5)
            clear hmat5 hbm hb9
            go_wp2_with fail
            go_roundw
            case rel => exact ⟨k + 1, _, _, by omega, by go_num, HSH5.out, HM5.out, HU5.out.mono (by omega), HF5.out⟩
            case measure => simp [intOf]; omega
      case neg =>
        obtain rfl : k = N0 := by omega
        have HMW := Lib.hid (HM.out.mono (B' := w.heap.size) (by omega))
        have HFW := Lib.hid (HFV.out.trans HF.out)
        have HML := Lib.hid HSH.out.1.1
        obtain ⟨g, cav', eg, hg, _, _⟩ := HMW.out.cells (by rw [HML.out]; omega)
        injection eg with eg q1 q2
        subst eg
        clear q1 q2
        clear HM HF HPV HPS HUV HFV
        go_wp2_with fail
        refine (pick_c 12 c (n + 64 + 12 * k) wE HU.out (by omega)).mono ?_
        rintro e w4 ⟨x, rfl, hx, hcu, hch⟩
        have hz4 := hch.size
        have HM4 := Lib.hid (HMW.out.chg hch hcl)
        have HU4 := Lib.hid hcu; have HF4 := Lib.hid (HFW.out.trans hch)
        clear hcu hch HMW HFW HU
        by_cases h0 : x = 0
        case pos =>
          subst h0
          have HDL := Lib.hid (fun i (hi : i < k) => HSH.out.1.2 i hi)
          have hx1 : (0 : Int) < (k : Int) := by omega
          have hx2 : 0 < k := by omega
          have hcw4 : c < w4.heap.size := by omega
          obtain ⟨F, hF⟩ : ∃ F : Nat → Value, ∀ i, vs.getD i undef = F i := ⟨_, fun _ => rfl⟩
          have HFV := Lib.hid hF
          clear hF
          have n4 : ∀ i, i < k → w4.cell? ⟨g, i, none⟩ = some (F i) := fun i hi => by rw [← HFV.out]; exact HM4.out.outerM HML.out i hi
          go_wp2_with fail
          go_region_held3 (fun w' => ∀ i, i < k → w'.cell? ⟨g, i, none⟩ = some (F i)) (first | assumption | (intro i hi; with_reducible repeat' (first | (apply_assumption; assumption) | apply cell_alloc' | apply cell_drew' | (refine cell_set' hbg.symm ?_))))
            (first
              | (go_at_call 53; (with_reducible refine (pick_c (k : Int) c (n + 64 + 12 * k + 2) _ (by first | exact HU4.out | exact HU4.out.drew') (by omega)).mono ?_); rintro e W1 ⟨y, rfl, hy, hcu, hch⟩; obtain ⟨q, rfl⟩ : ∃ q : Nat, y = (q : Int) := ⟨y.toNat, by omega⟩; have hqR : q < k := (by omega); have HMA := Lib.hid (MatO.chg (by first | exact HM4.out | exact HM4.out.below (Below.refl _ _).drew) hch hcl); have HUA := Lib.hid hcu; have HFA := Lib.hid (HF4.out.trans (Chg.trans (Chg.of_below (Below.refl _ _).drew) hch)); obtain ⟨bq, oq, cq, hvq⟩ := HMA.out.rowE (i := q) (by rw [HML.out]; exact hqR) (by rw [HDL.out q hqR]; exact hx2); rw [HDL.out q hqR] at hvq; have HVQ := Lib.hid hvq; rw [HFV.out] at hvq; have nA : ∀ i, i < k → W1.cell? ⟨g, i, none⟩ = some (F i) := (fun i hi => by rw [← HFV.out]; exact HMA.out.outerM HML.out i hi); have hzA := hch.size; have hq0 : (0 : Int) ≤ (q : Int) := (by omega); have hq1 : (q : Int) < (k : Int) := (by omega); clear hcu hch hy)
              | (go_at_call 53; (with_reducible refine (pick_c (k : Int) c (n + 64 + 12 * k + 2 + 2) _ HUA.out (by omega)).mono ?_); rintro e W2 ⟨y, rfl, hy, hcu, hch⟩; obtain ⟨p, rfl⟩ : ∃ p : Nat, y = (p : Int) := ⟨y.toNat, by omega⟩; have hpR : p < k := (by omega); have HMP := Lib.hid (HMA.out.chg hch hcl); have HUP := Lib.hid hcu; have HFP := Lib.hid (HFA.out.trans hch); have nP : ∀ i, i < k → W2.cell? ⟨g, i, none⟩ = some (F i) := (fun i hi => by rw [← HFV.out]; exact HMP.out.outerM HML.out i hi); have hzP := hch.size; have hp0 : (0 : Int) ≤ (p : Int) := (by omega); have hp1 : (p : Int) < (k : Int) := (by omega); clear hcu hch hy)
              | (go_at_call 83; (with_reducible refine (anyNum_c c (n + 64 + 12 * k + 2 + 2 + 2) _ HUP.out (by omega)).mono ?_); rintro e W3 ⟨z, rfl, -, hcu, hch⟩; have HMB := Lib.hid (HMP.out.chg hch hcl); have HUB := Lib.hid hcu; have HFB := Lib.hid (HFP.out.trans hch); have nB : ∀ i, i < k → W3.cell? ⟨g, i, none⟩ = some (F i) := (fun i hi => by rw [← HFV.out]; exact HMB.out.outerM HML.out i hi); obtain ⟨_, hBb, hbB, hbg, hcell, hset⟩ := HMB.out.rowY (by rw [HML.out]; exact hqR) (HDL.out q hqR) (by omega) HVQ.out; obtain ⟨mB, fB⟩ := hcell p hpR; have HST := Lib.hid (hset p z hpR); have hzB := hch.size; clear hcu hch hcell hset)
              | fail)
          all_goals
            have hb9 : Below w.heap.size W3 (W3.setCell ⟨bq, oq + p, none⟩ (.int .i64 z)) := (Below.refl w.heap.size W3).setCell (p := ⟨bq, oq + p, none⟩) hBb (.int .i64 z)
            have HU9 := Lib.hid (HUB.out.under hb9 hcl)
            have HF9 := Lib.hid (HFB.out.under hb9 (Nat.le_refl _) (by simp [World.setCell]))
            have HS9 := Lib.hid (smD_set (vs' := vs) (i := q) (xs := (M.getD q []).set p z) (smD_sh (vs := vs) HSH.out.1 (by omega) (by omega)) (by rw [List.length_set, HDL.out q hqR]; omega))
            clear hb9
            go_wp2_with fail
            go_ret
            exact ⟨_, cav, _, ⟨_, by rw [List.length_set, HML.out]; rfl, HS9.out, by rw [List.length_set, HML.out]; exact HST.out, HU9.out.mono (by omega), HF9.out⟩⟩
        case neg =>
          have e0 : (x == 0) = false := beq_eq_false_iff_ne.2 h0
          by_cases h1 : x = 1
          case pos =>
            subst h1
            go_wp2_with fail
            refine (anyMatrix_c c (n + 64 + 12 * k + 2) w4 HU4.out (by omega)).mono ?_
            rintro e w6 ⟨ad6, cap6, M6, vs6, rfl, hp6, hmat6, hcu, hch⟩
            have HP6 := Lib.hid hp6
            have HM6 := Lib.hid (hmat6.mono (B' := w.heap.size) (by omega)); have HU6 := Lib.hid hcu; have HF6 := Lib.hid (HF4.out.trans hch)
            clear hp6 hmat6 hcu hch
            go_wp2_with fail
            go_ret
            exact ⟨ad6, cap6, M6, ⟨vs6, rfl, HP6.out, HM6.out, HU6.out.mono (by omega), HF6.out⟩⟩
          case neg =>
            have e1 : (x == 1) = false := beq_eq_false_iff_ne.2 h1
            have HS9 := Lib.hid (smD_sh (vs := vs) HSH.out.1 (by omega) (by omega))
            go_wp2_with fail
            go_ret
            exact ⟨_, cav, M, ⟨vs, by rw [HML.out]; rfl, HS9.out, by rw [HML.out]; exact HM4.out, HU4.out.mono (by omega), HF4.out⟩⟩
  case true =>
    clear e1 hN04
    go_wp2_with fail
    obtain ⟨N1, hN1⟩ : ∃ N1 : Nat, N1 = 6 := ⟨6, rfl⟩
    have hN2 : (6 : Int) = (N1 : Int) := by omega
    rw [hN2]
    have hN3 : 1 ≤ N1 ∧ N1 ≤ 6 := by omega
    clear hN1 hN2
    refine (vector_c N1 c (n + 4) w2 HU2.out (by omega) (by omega)).mono ?_
    rintro e wV ⟨pv, ps, rfl, hps, hrowp, hcu, hch⟩
    obtain ⟨adp, capp, rfl, _⟩ := row_cap hrowp
    rw [hps] at hrowp ⊢
    have hzV := hch.size
    have HPV := Lib.hid (hrowp.low (B' := w.heap.size) (by omega)); have HPS := Lib.hid hps
    have HUV := Lib.hid hcu; have HFV := Lib.hid (HF2.out.trans hch)
    clear hrowp hps hcu hch HU2 HF2
    have hx0 : 0 < N1 := by omega
    go_wp2_with fail
    go_loopw [5, 6] (fun v i wr => ∃ (k : Nat) (M : List (List Int)) (vs : List Value), k ≤ N1 ∧ i = .int .i64 k ∧ (shM k N1 M ∧ capM M vs) ∧ MatO wr wV.heap.size v M vs ∧ Cur wr c (n + 64 + 12 * k) ∧ Chg c wV wr) (fun _ i _ => N1 - (intOf i).toNat)
    case atStart => exact ⟨0, [], [], Nat.zero_le _, rfl, ⟨⟨rfl, fun i hi => absurd hi (Nat.not_lt_zero _)⟩, fun i hi => absurd hi (Nat.not_lt_zero _)⟩, MatO.nil _ _, HUV.out, Chg.refl _ _⟩
    case round =>
      obtain ⟨wE, rfl⟩ : ∃ x : World, x = wr := ⟨_, rfl⟩
      obtain ⟨k, M, vs, hk, rfl, hsh, hmat, hcu, hch⟩ := hrel
      obtain ⟨adv, cav, rfl, _⟩ := hmat.shape
      have hsz := hch.size
      rw [hsh.1.1] at hmat ⊢
      have HSH := Lib.hid hsh; have HM := Lib.hid hmat; have HU := Lib.hid hcu; have HF := Lib.hid hch
      clear hsh hmat hcu hch
      by_cases hlt : k < N1
      case pos =>
        go_wp2_with fail
        go_loopw [7, 8] (fun v i wr => ∃ (j : Nat) (xs : List Int), j ≤ N1 ∧ i = .int .i64 j ∧ xs.length = j ∧ RowI wr wE.heap.size v xs ∧ Cur wr c (n + 64 + 12 * k + 2 * j) ∧ Chg c wE wr) (fun _ i _ => N1 - (intOf i).toNat)
        case atStart => exact ⟨0, [], Nat.zero_le _, rfl, rfl, RowI.nil _ _, HU.out, Chg.refl _ _⟩
        case round =>
          obtain ⟨wI, rfl⟩ : ∃ x : World, x = wr := ⟨_, rfl⟩
          obtain ⟨j, xs, hj, rfl, hxl, hrow, hcu, hch⟩ := hrel
          obtain ⟨adr, car, rfl, hcar⟩ := row_cap hrow
          have HCAR := Lib.hid hcar
          clear hcar
          rw [hxl] at hrow ⊢
          have HXL := Lib.hid hxl
          have hsz2 := hch.size
          have HR := Lib.hid hrow; have HU2 := Lib.hid hcu; have HF2 := Lib.hid hch
          clear hrow hcu hch hxl
          by_cases hlj : j < N1
          case pos =>
            go_wp2_with fail
            refine (among_c wI.heap.size 7 [0, 1, 2, 5, 9, 1000000000, 1000000000] c (n + 64 + 12 * k + 2 * j) _ (HU2.out.below ((Below.refl _ _).alloc (Nat.le_refl _) _)) (by omega) (by simp) (by simp) (by omega) (Own.newA wI _ 3 rfl)).mono ?_
            rintro e w3 ⟨C, rfl, hmem, hcu, hch⟩
            have hC : C = 1000000000 ∨ (0 ≤ C ∧ C ≤ 9) := by simp at hmem; omega
            have hch2 := Chg.trans (Chg.of_below (b := c) ((Below.refl wI.heap.size wI).alloc (Nat.le_refl _) _)) hch
            have hsz3 := hch2.size
            have HR3 := Lib.hid (row_chg HR.out hch2 (by omega))
            have HU3 := Lib.hid hcu
            have HF3 := Lib.hid (HF2.out.trans hch2)
            have HP3 := Lib.hid (CellO.rd (CellO.of_row (row_chg HPV.out ((HF.out.trans HF2.out).trans hch2) hcl)))
            clear hcu hch hch2 hmem
            obtain ⟨bp, op, rfl, hbp, q1⟩ := HP3.out k (by rw [HPS.out]; exact hlt)
            have q2 := HP3.out.at (j := j) (by rw [HPS.out]; exact hlj)
            have x1 : (0 : Int) ≤ (k : Int) := by omega
            have x2 : (k : Int) < (N1 : Int) := by omega
            have x3 : (0 : Int) ≤ (j : Int) := by omega
            have x4 : (j : Int) < (N1 : Int) := by omega
            generalize ps.getD k 0 = A at q1
            generalize ps.getD j 0 = B at q2
            have CFA := Lib.hid (fun w => poFin_c A w)
            have CFB := Lib.hid (fun w => poFin_c B w)
            by_cases hC9 : C = 1000000000
            case pos =>
              subst hC9
              clear hC CFA CFB
              go_wp2_with fail
              go_quiet (fail)
              have hszE : ∀ W, Below w3.heap.size w3 W → wE.heap.size ≤ W.heap.size := fun W h => by have := h.size; omega
              have HSZE := Lib.hid hszE; clear hszE
              go_wp2_with (at_builtin; refine wpList_appN rfl _ _ rfl wE.heap.size _ 0 1 _ xs [1000000000] (j + 1) (by rw [HXL.out]; rfl) rfl rfl (RowI.alloc' (RowI.below (by exact HR3.out) (by with_reducible repeat (first | exact Below.refl _ _ | apply bdrewN)))) (rdI_one _ _ _ rfl) (by have := HXL.out; omega) (by simp) (Nat.le_trans (HSZE.out _ (by with_reducible repeat (first | exact Below.refl _ _ | apply bdrewN))) (by simp)) ?_; intro v5 wm hown hsh hbm hgr)
              obtain ⟨hu5, hf5⟩ := draw_app (by with_reducible repeat (first | exact Below.refl _ _ | apply bdrewN)) HU3.out HF3.out (by omega) hbm hgr.size
              have HR5 := Lib.hid hown
              have HU5 := Lib.hid hu5
              have HF5 := Lib.hid hf5
              clear hown hsh hbm hgr hu5 hf5
              go_wp2_with fail
              go_roundw
              case rel => exact ⟨j + 1, xs ++ [1000000000], by omega, by go_num, by rw [List.length_append, HXL.out]; rfl, HR5.out, HU5.out.mono (by omega), HF5.out⟩
              case measure => simp [intOf]; omega
            case neg =>
              have hC0 : 0 ≤ C ∧ C ≤ 9 := by omega
              have g1 : (C != 1000000000) = true := bne_iff_ne.2 hC9
              clear hC hC9
              cases hfA : finB A
              case false =>
                rw [hfA] at CFA
                clear hfA CFB
                go_wp2_with fail
                go_quiet (first | (go_at_call 79; exact Calls.quiet_of_same ((CFA.out _).mono (fun e w' h => ⟨h.1, h.2.symm⟩))) | (go_at_call 79; exact Calls.quiet_of_same ((CFA.out _).mono (fun e w' h => ⟨h.1, h.2.symm⟩)))  | fail)
                have hszE : ∀ W, Below w3.heap.size w3 W → wE.heap.size ≤ W.heap.size := fun W h => by have := h.size; omega
                have HSZE := Lib.hid hszE; clear hszE
                go_wp2_with (at_builtin; refine wpList_appN rfl _ _ rfl wE.heap.size _ 0 1 _ xs [C] (j + 1) (by rw [HXL.out]; rfl) rfl rfl (RowI.alloc' (RowI.below (by exact HR3.out) (by with_reducible repeat (first | exact Below.refl _ _ | apply bdrewN)))) (rdI_one _ _ _ rfl) (by have := HXL.out; omega) (by simp) (Nat.le_trans (HSZE.out _ (by with_reducible repeat (first | exact Below.refl _ _ | apply bdrewN))) (by simp)) ?_; intro v5 wm hown hsh hbm hgr)
                obtain ⟨hu5, hf5⟩ := draw_app (by with_reducible repeat (first | exact Below.refl _ _ | apply bdrewN)) HU3.out HF3.out (by omega) hbm hgr.size
                have HR5 := Lib.hid hown
                have HU5 := Lib.hid hu5
                have HF5 := Lib.hid hf5
                clear hown hsh hbm hgr hu5 hf5
                go_wp2_with fail
                go_roundw
                case rel => exact ⟨j + 1, xs ++ [C], by omega, by go_num, by rw [List.length_append, HXL.out]; rfl, HR5.out, HU5.out.mono (by omega), HF5.out⟩
                case measure => simp [intOf]; omega
              case true =>
                rw [hfA] at CFA
                have hbA := inB_t.1 hfA
                cases hfB : finB B
                case false =>
                  rw [hfB] at CFB
                  clear hfA hfB
                  go_wp2_with fail
                  go_quiet (first | (go_at_call 79; exact Calls.quiet_of_same ((CFA.out _).mono (fun e w' h => ⟨h.1, h.2.symm⟩))) | (go_at_call 79; exact Calls.quiet_of_same ((CFB.out _).mono (fun e w' h => ⟨h.1, h.2.symm⟩)))  | fail)
                  have hszE : ∀ W, Below w3.heap.size w3 W → wE.heap.size ≤ W.heap.size := fun W h => by have := h.size; omega
                  have HSZE := Lib.hid hszE; clear hszE
                  go_wp2_with (at_builtin; refine wpList_appN rfl _ _ rfl wE.heap.size _ 0 1 _ xs [C] (j + 1) (by rw [HXL.out]; rfl) rfl rfl (RowI.alloc' (RowI.below (by exact HR3.out) (by with_reducible repeat (first | exact Below.refl _ _ | apply bdrewN)))) (rdI_one _ _ _ rfl) (by have := HXL.out; omega) (by simp) (Nat.le_trans (HSZE.out _ (by with_reducible repeat (first | exact Below.refl _ _ | apply bdrewN))) (by simp)) ?_; intro v5 wm hown hsh hbm hgr)
                  obtain ⟨hu5, hf5⟩ := draw_app (by with_reducible repeat (first | exact Below.refl _ _ | apply bdrewN)) HU3.out HF3.out (by omega) hbm hgr.size
                  have HR5 := Lib.hid hown
                  have HU5 := Lib.hid hu5
                  have HF5 := Lib.hid hf5
                  clear hown hsh hbm hgr hu5 hf5
                  go_wp2_with fail
                  go_roundw
                  case rel => exact ⟨j + 1, xs ++ [C], by omega, by go_num, by rw [List.length_append, HXL.out]; rfl, HR5.out, HU5.out.mono (by omega), HF5.out⟩
                  case measure => simp [intOf]; omega
                case true =>
                  rw [hfB] at CFB
                  have hbB := inB_t.1 hfB
                  have e2 : IntKind.i64.wrap (B - A) = B - A := i64_small (by omega) (by omega)
                  have CAB := Lib.hid (fun w => l1Abs_c (B - A) w (by omega))
                  obtain ⟨V, hV⟩ : ∃ V, C + (B - A) = V := ⟨_, rfl⟩
                  have e3 : IntKind.i64.wrap (C + (B - A)) = V := by rw [i64_small (by omega) (by omega)]; exact hV
                  clear hV hfA hfB
                  by_cases hm : mstZ (B - A) (-(B - A)) < 100
                  case pos =>
                    have g2 : decide (mstZ (B - A) (-(B - A)) < 100) = true := decide_eq_true hm
                    generalize mstZ (B - A) (-(B - A)) = Z at CAB g2
                    clear hm
                    go_wp2_with fail
                    go_quiet (first | (go_at_call 79; exact Calls.quiet_of_same ((CFA.out _).mono (fun e w' h => ⟨h.1, h.2.symm⟩))) | (go_at_call 79; exact Calls.quiet_of_same ((CFB.out _).mono (fun e w' h => ⟨h.1, h.2.symm⟩))) | (go_at_call 82; exact Calls.quiet_of_same ((CAB.out _).mono (fun e w' h => ⟨h.1, h.2.symm⟩))) | fail)
                    go_wp2_with fail
                    go_quiet (fail)
                    have hszE : ∀ W, Below w3.heap.size w3 W → wE.heap.size ≤ W.heap.size := fun W h => by have := h.size; omega
                    have HSZE := Lib.hid hszE; clear hszE
                    go_wp2_with (at_builtin; refine wpList_appN rfl _ _ rfl wE.heap.size _ 0 1 _ xs [V] (j + 1) (by rw [HXL.out]; rfl) rfl rfl (RowI.alloc' (RowI.below (by exact HR3.out) (by with_reducible repeat (first | exact Below.refl _ _ | apply bdrewN)))) (rdI_one _ _ _ rfl) (by have := HXL.out; omega) (by simp) (Nat.le_trans (HSZE.out _ (by with_reducible repeat (first | exact Below.refl _ _ | apply bdrewN))) (by simp)) ?_; intro v5 wm hown hsh hbm hgr)
                    obtain ⟨hu5, hf5⟩ := draw_app (by with_reducible repeat (first | exact Below.refl _ _ | apply bdrewN)) HU3.out HF3.out (by omega) hbm hgr.size
                    have HR5 := Lib.hid hown
                    have HU5 := Lib.hid hu5
                    have HF5 := Lib.hid hf5
                    clear hown hsh hbm hgr hu5 hf5
                    go_wp2_with fail
                    go_roundw
                    case rel => exact ⟨j + 1, xs ++ [V], by omega, by go_num, by rw [List.length_append, HXL.out]; rfl, HR5.out, HU5.out.mono (by omega), HF5.out⟩
                    case measure => simp [intOf]; omega
                  case neg =>
                    have g2 : decide (mstZ (B - A) (-(B - A)) < 100) = false := decide_eq_false hm
                    generalize mstZ (B - A) (-(B - A)) = Z at CAB g2
                    clear hm
                    go_wp2_with fail
                    go_quiet (first | (go_at_call 79; exact Calls.quiet_of_same ((CFA.out _).mono (fun e w' h => ⟨h.1, h.2.symm⟩))) | (go_at_call 79; exact Calls.quiet_of_same ((CFB.out _).mono (fun e w' h => ⟨h.1, h.2.symm⟩))) | (go_at_call 82; exact Calls.quiet_of_same ((CAB.out _).mono (fun e w' h => ⟨h.1, h.2.symm⟩))) | fail)
                    have hszE : ∀ W, Below w3.heap.size w3 W → wE.heap.size ≤ W.heap.size := fun W h => by have := h.size; omega
                    have HSZE := Lib.hid hszE; clear hszE
                    go_wp2_with (at_builtin; refine wpList_appN rfl _ _ rfl wE.heap.size _ 0 1 _ xs [C] (j + 1) (by rw [HXL.out]; rfl) rfl rfl (RowI.alloc' (RowI.below (by exact HR3.out) (by with_reducible repeat (first | exact Below.refl _ _ | apply bdrewN)))) (rdI_one _ _ _ rfl) (by have := HXL.out; omega) (by simp) (Nat.le_trans (HSZE.out _ (by with_reducible repeat (first | exact Below.refl _ _ | apply bdrewN))) (by simp)) ?_; intro v5 wm hown hsh hbm hgr)
                    obtain ⟨hu5, hf5⟩ := draw_app (by with_reducible repeat (first | exact Below.refl _ _ | apply bdrewN)) HU3.out HF3.out (by omega) hbm hgr.size
                    have HR5 := Lib.hid hown
                    have HU5 := Lib.hid hu5
                    have HF5 := Lib.hid hf5
                    clear hown hsh hbm hgr hu5 hf5
                    go_wp2_with fail
                    go_roundw
                    case rel => exact ⟨j + 1, xs ++ [C], by omega, by go_num, by rw [List.length_append, HXL.out]; rfl, HR5.out, HU5.out.mono (by omega), HF5.out⟩
                    case measure => simp [intOf]; omega
          case neg =>
            obtain rfl : j = N1 := by omega
            have hcV : c < wV.heap.size := by omega
            have HM2 := Lib.hid (HM.out.chg HF2.out hcV)
            have HLOW := Lib.hid HM.out.low
            have HX := Lib.hid (CellO.of_row (HR.out.low (B' := wV.heap.size) hsz))
            have HB := Lib.hid (RowI.blk HR.out)
            have hcp := capM_snoc (a := adr) HSH.out.2 HM.out.len HCAR.out
            rw [HXL.out] at hcp
            have HSH5 := Lib.hid (And.intro (shM_snoc HSH.out.1 HXL.out) hcp)
            clear hcp
            go_wp2_with (at_builtin; refine wpList_appG rfl _ _ rfl wV.heap.size wE.heap.size wI.heap.size _ (.slice adr j car) M vs xs (k + 1) (by rw [HSH.out.1.1]) rfl rfl (by simp [go_sem]) (HM2.out.below ((Below.refl _ _).alloc (Nat.le_refl _) _)) (HX.out.below ((Below.refl _ _).alloc (Nat.le_refl _) _)) HB.out HLOW.out (by have := HSH.out.1.1; omega) (by simp; omega) ?_; intro ad5 cap5 wm hmat5 hbm hgz)
            have hb9 : Below wV.heap.size wI wm := ((Below.refl wV.heap.size wI).alloc (by omega) (.cells #[.slice adr j car] 29)).trans hbm
            have hsz5 : wI.heap.size ≤ wm.heap.size := by simp at hgz; omega
            have HM5 := Lib.hid hmat5
            have HU5 := Lib.hid (HU2.out.under hb9 hcV)
            have HF5 := Lib.hid ((HF.out.trans HF2.out).under hb9 (Nat.le_refl _) hsz5)
            clear hmat5 hbm hb9
            go_wp2_with fail
            go_roundw
            case rel => exact ⟨k + 1, _, _, by omega, by go_num, HSH5.out, HM5.out, HU5.out.mono (by omega), HF5.out⟩
            case measure => simp [intOf]; omega
      case neg =>
        obtain rfl : k = N1 := by omega
        have HMW := Lib.hid (HM.out.mono (B' := w.heap.size) (by omega))
        have HFW := Lib.hid (HFV.out.trans HF.out)
        have HML := Lib.hid HSH.out.1.1
        obtain ⟨g, cav', eg, hg, _, _⟩ := HMW.out.cells (by rw [HML.out]; omega)
        injection eg with eg q1 q2
        subst eg
        clear q1 q2
        clear HM HF HPV HPS HUV HFV
        go_wp2_with fail
        refine (pick_c 12 c (n + 64 + 12 * k) wE HU.out (by omega)).mono ?_
        rintro e w4 ⟨x, rfl, hx, hcu, hch⟩
        have hz4 := hch.size
        have HM4 := Lib.hid (HMW.out.chg hch hcl)
        have HU4 := Lib.hid hcu; have HF4 := Lib.hid (HFW.out.trans hch)
        clear hcu hch HMW HFW HU
        by_cases h0 : x = 0
        case pos =>
          subst h0
          have HDL := Lib.hid (fun i (hi : i < k) => HSH.out.1.2 i hi)
          have hx1 : (0 : Int) < (k : Int) := by omega
          have hx2 : 0 < k := by omega
          have hcw4 : c < w4.heap.size := by omega
          obtain ⟨F, hF⟩ : ∃ F : Nat → Value, ∀ i, vs.getD i undef = F i := ⟨_, fun _ => rfl⟩
          have HFV := Lib.hid hF
          clear hF
          have n4 : ∀ i, i < k → w4.cell? ⟨g, i, none⟩ = some (F i) := fun i hi => by rw [← HFV.out]; exact HM4.out.outerM HML.out i hi
          go_wp2_with fail
          go_region_held3 (fun w' => ∀ i, i < k → w'.cell? ⟨g, i, none⟩ = some (F i)) (first | assumption | (intro i hi; with_reducible repeat' (first | (apply_assumption; assumption) | apply cell_alloc' | apply cell_drew' | (refine cell_set' hbg.symm ?_))))
            (first
              | (go_at_call 53; (with_reducible refine (pick_c (k : Int) c (n + 64 + 12 * k + 2) _ (by first | exact HU4.out | exact HU4.out.drew') (by omega)).mono ?_); rintro e W1 ⟨y, rfl, hy, hcu, hch⟩; obtain ⟨q, rfl⟩ : ∃ q : Nat, y = (q : Int) := ⟨y.toNat, by omega⟩; have hqR : q < k := (by omega); have HMA := Lib.hid (MatO.chg (by first | exact HM4.out | exact HM4.out.below (Below.refl _ _).drew) hch hcl); have HUA := Lib.hid hcu; have HFA := Lib.hid (HF4.out.trans (Chg.trans (Chg.of_below (Below.refl _ _).drew) hch)); obtain ⟨bq, oq, cq, hvq⟩ := HMA.out.rowE (i := q) (by rw [HML.out]; exact hqR) (by rw [HDL.out q hqR]; exact hx2); rw [HDL.out q hqR] at hvq; have HVQ := Lib.hid hvq; rw [HFV.out] at hvq; have nA : ∀ i, i < k → W1.cell? ⟨g, i, none⟩ = some (F i) := (fun i hi => by rw [← HFV.out]; exact HMA.out.outerM HML.out i hi); have hzA := hch.size; have hq0 : (0 : Int) ≤ (q : Int) := (by omega); have hq1 : (q : Int) < (k : Int) := (by omega); clear hcu hch hy)
              | (go_at_call 53; (with_reducible refine (pick_c (k : Int) c (n + 64 + 12 * k + 2 + 2) _ HUA.out (by omega)).mono ?_); rintro e W2 ⟨y, rfl, hy, hcu, hch⟩; obtain ⟨p, rfl⟩ : ∃ p : Nat, y = (p : Int) := ⟨y.toNat, by omega⟩; have hpR : p < k := (by omega); have HMP := Lib.hid (HMA.out.chg hch hcl); have HUP := Lib.hid hcu; have HFP := Lib.hid (HFA.out.trans hch); have nP : ∀ i, i < k → W2.cell? ⟨g, i, none⟩ = some (F i) := (fun i hi => by rw [← HFV.out]; exact HMP.out.outerM HML.out i hi); have hzP := hch.size; have hp0 : (0 : Int) ≤ (p : Int) := (by omega); have hp1 : (p : Int) < (k : Int) := (by omega); clear hcu hch hy)
              | (go_at_call 83; (with_reducible refine (anyNum_c c (n + 64 + 12 * k + 2 + 2 + 2) _ HUP.out (by omega)).mono ?_); rintro e W3 ⟨z, rfl, -, hcu, hch⟩; have HMB := Lib.hid (HMP.out.chg hch hcl); have HUB := Lib.hid hcu; have HFB := Lib.hid (HFP.out.trans hch); have nB : ∀ i, i < k → W3.cell? ⟨g, i, none⟩ = some (F i) := (fun i hi => by rw [← HFV.out]; exact HMB.out.outerM HML.out i hi); obtain ⟨_, hBb, hbB, hbg, hcell, hset⟩ := HMB.out.rowY (by rw [HML.out]; exact hqR) (HDL.out q hqR) (by omega) HVQ.out; obtain ⟨mB, fB⟩ := hcell p hpR; have HST := Lib.hid (hset p z hpR); have hzB := hch.size; clear hcu hch hcell hset)
              | fail)
          all_goals
            have hb9 : Below w.heap.size W3 (W3.setCell ⟨bq, oq + p, none⟩ (.int .i64 z)) := (Below.refl w.heap.size W3).setCell (p := ⟨bq, oq + p, none⟩) hBb (.int .i64 z)
            have HU9 := Lib.hid (HUB.out.under hb9 hcl)
            have HF9 := Lib.hid (HFB.out.under hb9 (Nat.le_refl _) (by simp [World.setCell]))
            have HS9 := Lib.hid (smD_set (vs' := vs) (i := q) (xs := (M.getD q []).set p z) (smD_sh (vs := vs) HSH.out.1 (by omega) (by omega)) (by rw [List.length_set, HDL.out q hqR]; omega))
            clear hb9
            go_wp2_with fail
            go_ret
            exact ⟨_, cav, _, ⟨_, by rw [List.length_set, HML.out]; rfl, HS9.out, by rw [List.length_set, HML.out]; exact HST.out, HU9.out.mono (by omega), HF9.out⟩⟩
        case neg =>
          have e0 : (x == 0) = false := beq_eq_false_iff_ne.2 h0
          by_cases h1 : x = 1
          case pos =>
            subst h1
            go_wp2_with fail
            refine (anyMatrix_c c (n + 64 + 12 * k + 2) w4 HU4.out (by omega)).mono ?_
            rintro e w6 ⟨ad6, cap6, M6, vs6, rfl, hp6, hmat6, hcu, hch⟩
            have HP6 := Lib.hid hp6
            have HM6 := Lib.hid (hmat6.mono (B' := w.heap.size) (by omega)); have HU6 := Lib.hid hcu; have HF6 := Lib.hid (HF4.out.trans hch)
            clear hp6 hmat6 hcu hch
            go_wp2_with fail
            go_ret
            exact ⟨ad6, cap6, M6, ⟨vs6, rfl, HP6.out, HM6.out, HU6.out.mono (by omega), HF6.out⟩⟩
          case neg =>
            have e1 : (x == 1) = false := beq_eq_false_iff_ne.2 h1
            have HS9 := Lib.hid (smD_sh (vs := vs) HSH.out.1 (by omega) (by omega))
            go_wp2_with fail
            go_ret
            exact ⟨_, cav, M, ⟨vs, by rw [HML.out]; rfl, HS9.out, by rw [HML.out]; exact HM4.out, HU4.out.mono (by omega), HF4.out⟩⟩

end Go.Proofs.Ytbffcbjbeeagmaa
