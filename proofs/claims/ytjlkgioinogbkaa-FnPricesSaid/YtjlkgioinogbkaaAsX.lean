/-
  The draw of a table of costs. By an AI agent.
-/
import Derived.Test.YtjlkgioinogbkaaAsU
import Derived.Test.YtjlkgioinogbkaaWyW
namespace Go.Proofs.Ytjlkgioinogbkaa
open Go.RowKit

theorem shM_set {R C : Nat} {M : List (List Int)} {x : Int} (h : shM R C M) {i : Nat} (hi : i < R) (q : Nat) : shM R C (M.set i ((M.getD i []).set q x)) := by
  refine ⟨by rw [List.length_set]; exact h.1, fun a ha => ?_⟩
  by_cases e : a = i
  · subst e
    rw [show (M.set a ((M.getD a []).set q x)).getD a [] = (M.getD a []).set q x by simp [List.getD_eq_getElem?_getD, h.1, hi], List.length_set]
    exact h.2 a ha
  · rw [List.getD_eq_getElem?_getD, List.getElem?_set_ne (by omega), ← List.getD_eq_getElem?_getD]
    exact h.2 a ha

set_option maxHeartbeats 12800000 in
set_option maxRecDepth 100000 in
theorem costTable_c (c n : Nat) (w : World) (h : Cur w c n) (hn : n ≤ 4611686018427330000) :
    Calls Try.prog 37 #[.pointer (some ⟨c, 0, none⟩)] w (MatD smD c (n + 1100) w) := by
  have hcl := h.lt
  have H := Lib.hid h; clear h
  go_enter Try.func37, Try.ntmps37
  go_wp2_with fail
  refine (pick_c 4 c n w H.out (by omega)).mono ?_
  rintro e w1 ⟨x, rfl, hx, hcu, hch⟩
  obtain ⟨k, hN⟩ : ∃ N : Nat, 1 + x = (N : Int) := ⟨(1 + x).toNat, by omega⟩
  have e1 : IntKind.i64.wrap (1 + x) = (k : Int) := by rw [i64_small (by omega) (by omega)]; exact hN
  have hk4 : 1 ≤ k ∧ k ≤ 4 := by omega
  have hz1 := hch.size
  have HU := Lib.hid hcu; have HF := Lib.hid hch
  clear hcu hch hx hN
  go_wp2_with fail
  refine (one_c 24 c (n + 2) w1 HU.out (by omega)).mono ?_
  rintro e w2 ⟨bb, rfl, hcu, hch⟩
  have hz2 := hch.size
  have HU2 := Lib.hid hcu; have HF2 := Lib.hid (HF.out.trans hch)
  clear hcu hch HU HF H
  cases bb
  case false =>
    clear e1
    go_wp2_with fail
    refine (matrix_c k k c (n + 4) w2 HU2.out (by omega) (by omega) (by omega)).mono ?_
    rintro e wV ⟨adM, cav, M0, vs, rfl, ⟨hsh0, _⟩, hmat0, hcu, hch⟩
    have hzV := hch.size
    have HM0 := Lib.hid (hmat0.mono (B' := w.heap.size) (by omega)); have HUV := Lib.hid hcu; have HFV := Lib.hid (HF2.out.trans hch); have HS0 := Lib.hid hsh0
    rw [hsh0.1] at HM0 ⊢
    obtain ⟨g, cav', eg, hg, _, _⟩ := HM0.out.cells (by rw [hsh0.1]; omega)
    rw [hsh0.1] at eg
    injection eg with eg q1 q2
    subst eg
    clear q1 q2 hsh0 hmat0 hcu hch HU2 HF2
    go_wp2_with fail
    go_loopw [17] (fun i wr => ∃ (j : Nat) (M : List (List Int)), j ≤ k ∧ i = .int .i64 j ∧ shM k k M ∧ MatO wr w.heap.size (.slice (some ⟨g, 0, none⟩) k cav) M vs ∧ Cur wr c (n + 300 + 10 * j) ∧ Chg c w wr) (fun i _ => k - (intOf i).toNat)
    case atStart => exact ⟨0, M0, Nat.zero_le _, rfl, HS0.out, HM0.out, HUV.out.mono (by omega), HFV.out⟩
    case round =>
      obtain ⟨wE, rfl⟩ : ∃ x : World, x = wr := ⟨_, rfl⟩
      obtain ⟨j, M, hj, rfl, hsh, hmat, hcu, hch⟩ := hrel
      have hsz := hch.size
      have HSH := Lib.hid hsh; have HMW := Lib.hid hmat; have HU := Lib.hid hcu; have HFW := Lib.hid hch
      have HML := Lib.hid hsh.1
      clear hsh hmat hcu hch HM0 HUV HFV HS0
      by_cases hlt : j < k
      case pos =>
        go_wp2_with fail
        refine (one_c 6 c (n + 300 + 10 * j) wE HU.out (by omega)).mono ?_
        rintro e w5 ⟨b5, rfl, hcu, hch⟩
        have HM5 := Lib.hid (HMW.out.chg hch hcl)
        have HU5 := Lib.hid hcu; have HF5 := Lib.hid (HFW.out.trans hch)
        have hz5 := hch.size
        clear hcu hch HMW HFW HU
        cases b5
        case true =>
          go_wp2_with fail
          go_roundw
          case rel => exact ⟨j + 1, M, by omega, by go_num, HSH.out, HM5.out, HU5.out.mono (by omega), HF5.out⟩
          case measure => simp [intOf]; omega
        case false =>
          have HR := Lib.hid (HSH.out.2 j hlt)
          obtain ⟨b, o, rc, er⟩ := HM5.out.rowE (i := j) (by rw [HML.out]; exact hlt) (by rw [HR.out]; omega)
          rw [HR.out] at er
          have HER := Lib.hid er
          have kA := HM5.out.outerM HML.out j hlt
          rw [er] at kA
          obtain ⟨_, hBb, hbl, hbg, hcell, _⟩ := HM5.out.rowY (by rw [HML.out]; exact hlt) HR.out (by omega) HER.out
          obtain ⟨q, hq⟩ : ∃ q : Nat, (j + 1) % k = q := ⟨_, rfl⟩
          have hqk : q < k := by rw [← hq]; exact Nat.mod_lt _ (by omega)
          have e8 : Int.tmod ((j : Int) + 1) (k : Int) = (q : Int) := by rw [rem_next, hq]
          have e7 : IntKind.i64.wrap ((j : Int) + 1) = (j : Int) + 1 := i64_small (by omega) (by omega)
          have e9 : IntKind.i64.wrap (q : Int) = (q : Int) := i64_small (by omega) (by omega)
          have g9 : ((k : Int) == 0) = false := beq_eq_false_iff_ne.2 (by omega)
          have gk : ¬ (k : Int) = 0 := by omega
          have gk0 : ¬ k = 0 := by omega
          have x1 : (0 : Int) ≤ (j : Int) := by omega
          have x2 : (j : Int) < (k : Int) := by omega
          have x3 : (0 : Int) ≤ (q : Int) := by omega
          have x4 : (q : Int) < (k : Int) := by omega
          have hgg : g ≠ c := by omega
          have hbgg : b ≠ c := by omega
          have k5 := (hcell q hqk).1
          generalize (M.getD j []).getD q 0 = X at k5
          have PK := Lib.hid (small_c c (n + 300 + 10 * j + 2) w5.drew (HU5.out.below (Below.refl _ _).drew) (by omega))
          have HM6 := Lib.hid (fun u (hu : Chg c w5 u) => HM5.out.chg hu hcl)
          clear hcell er hq
          go_wp2_with fail
          go_region_held3 (fun w' => w'.cell? ⟨g, j, none⟩ = some (.slice (some ⟨b, o, none⟩) k rc)) (with_reducible repeat' (first | assumption | apply cell_alloc' | apply cell_drew' | (refine cell_set' hbg.symm ?_)))
            (first
              | (go_at_call 63; (with_reducible refine (PK.out).mono ?_); rintro e w6 ⟨x6, rfl, hp6, hcu, hch⟩; have hch6 := (Chg.drew c w5).trans hch; have m0 := hch6.cell hgg kA; have m1 := hch6.cell hbgg k5; have HM7 := Lib.hid (HM6.out w6 hch6); have f6 := (((HM7.out.rowY (by rw [HML.out]; exact hlt) HR.out (by omega) HER.out).2.2.2.2.1) q hqk).2; have HCH6 := Lib.hid hch6; have HU7 := Lib.hid hcu; have hz6 := hch.size; clear hcu hch hch6)
              | fail)
          all_goals
            have HST := Lib.hid ((HM7.out.rowY (by rw [HML.out]; exact hlt) HR.out (by omega) HER.out).2.2.2.2.2 q x6 hqk)
            have hb9 : Below w.heap.size w6 (w6.setCell ⟨b, o + q, none⟩ (.int .i64 x6)) := (Below.refl w.heap.size w6).setCell (p := ⟨b, o + q, none⟩) hBb (.int .i64 x6)
            have HU9 := Lib.hid (HU7.out.under hb9 hcl)
            have HF9 := Lib.hid ((HF5.out.trans HCH6.out).under hb9 (Nat.le_refl _) (by simp [World.setCell]))
            have HS9 := Lib.hid (shM_set (x := x6) HSH.out hlt q)
            clear hb9
            go_wp2_with fail
            go_roundw
            case rel => exact ⟨j + 1, _, by omega, by go_num, HS9.out, HST.out, HU9.out.mono (by omega), HF9.out⟩
            case measure => simp [intOf]; omega
      case neg =>
        obtain rfl : j = k := by omega
        go_wp2_with fail
        refine (pick_c 24 c (n + 300 + 10 * j) wE HU.out (by omega)).mono ?_
        rintro e w4 ⟨x, rfl, hx, hcu, hch⟩
        have hz4 := hch.size
        have HM4 := Lib.hid (HMW.out.chg hch hcl)
        have HU4 := Lib.hid hcu; have HF4 := Lib.hid (HFW.out.trans hch)
        clear hcu hch HMW HFW HU
        by_cases h0 : x = 0
        case pos =>
          subst h0
          go_wp2_with fail
          refine (anyMatrix_c c (n + 300 + 10 * j + 2) w4 HU4.out (by omega)).mono ?_
          rintro e w6 ⟨ad6, cap6, M6, vs6, rfl, hp6, hmat6, hcu, hch⟩
          have HP6 := Lib.hid hp6
          have HM6 := Lib.hid (hmat6.mono (B' := w.heap.size) (by omega)); have HU6 := Lib.hid hcu; have HF6 := Lib.hid (HF4.out.trans hch)
          clear hp6 hmat6 hcu hch
          go_wp2_with fail
          go_ret
          exact ⟨ad6, cap6, M6, ⟨vs6, rfl, HP6.out, HM6.out, HU6.out.mono (by omega), HF6.out⟩⟩
        case neg =>
          have e0 : (x == 0) = false := beq_eq_false_iff_ne.2 h0
          by_cases h1 : x = 1
          case pos =>
            subst h1
            have HDL := Lib.hid (fun i (hi : i < j) => HSH.out.2 i hi)
            have hx1 : (0 : Int) < (j : Int) := by omega
            have hx2 : 0 < j := by omega
            have hcw4 : c < w4.heap.size := by omega
            obtain ⟨F, hF⟩ : ∃ F : Nat → Value, ∀ i, vs.getD i undef = F i := ⟨_, fun _ => rfl⟩
            have HFV := Lib.hid hF
            clear hF
            have n4 : ∀ i, i < j → w4.cell? ⟨g, i, none⟩ = some (F i) := fun i hi => by rw [← HFV.out]; exact HM4.out.outerM HML.out i hi
            go_wp2_with fail
            go_region_held3 (fun w' => ∀ i, i < j → w'.cell? ⟨g, i, none⟩ = some (F i)) (first | assumption | (intro i hi; with_reducible repeat' (first | (apply_assumption; assumption) | apply cell_alloc' | apply cell_drew' | (refine cell_set' hbg.symm ?_))))
              (first
                | (go_at_call 60; (with_reducible refine (pick_c (j : Int) c (n + 300 + 10 * j + 2) _ (by first | exact HU4.out | exact HU4.out.drew') (by omega)).mono ?_); rintro e W1 ⟨y, rfl, hy, hcu, hch⟩; obtain ⟨q, rfl⟩ : ∃ q : Nat, y = (q : Int) := ⟨y.toNat, by omega⟩; have hqR : q < j := (by omega); have HMA := Lib.hid (MatO.chg (by first | exact HM4.out | exact HM4.out.below (Below.refl _ _).drew) hch hcl); have HUA := Lib.hid hcu; have HFA := Lib.hid (HF4.out.trans (Chg.trans (Chg.of_below (Below.refl _ _).drew) hch)); obtain ⟨bq, oq, cq, hvq⟩ := HMA.out.rowE (i := q) (by rw [HML.out]; exact hqR) (by rw [HDL.out q hqR]; exact hx2); rw [HDL.out q hqR] at hvq; have HVQ := Lib.hid hvq; rw [HFV.out] at hvq; have nA : ∀ i, i < j → W1.cell? ⟨g, i, none⟩ = some (F i) := (fun i hi => by rw [← HFV.out]; exact HMA.out.outerM HML.out i hi); have hzA := hch.size; have hq0 : (0 : Int) ≤ (q : Int) := (by omega); have hq1 : (q : Int) < (j : Int) := (by omega); clear hcu hch hy)
                | (go_at_call 60; (with_reducible refine (pick_c (j : Int) c (n + 300 + 10 * j + 2 + 2) _ HUA.out (by omega)).mono ?_); rintro e W2 ⟨y, rfl, hy, hcu, hch⟩; obtain ⟨p, rfl⟩ : ∃ p : Nat, y = (p : Int) := ⟨y.toNat, by omega⟩; have hpR : p < j := (by omega); have HMP := Lib.hid (HMA.out.chg hch hcl); have HUP := Lib.hid hcu; have HFP := Lib.hid (HFA.out.trans hch); have nP : ∀ i, i < j → W2.cell? ⟨g, i, none⟩ = some (F i) := (fun i hi => by rw [← HFV.out]; exact HMP.out.outerM HML.out i hi); have hzP := hch.size; have hp0 : (0 : Int) ≤ (p : Int) := (by omega); have hp1 : (p : Int) < (j : Int) := (by omega); clear hcu hch hy)
                | (go_at_call 65; (with_reducible refine (anyNum_c c (n + 300 + 10 * j + 2 + 2 + 2) _ HUP.out (by omega)).mono ?_); rintro e W3 ⟨z, rfl, -, hcu, hch⟩; have HMB := Lib.hid (HMP.out.chg hch hcl); have HUB := Lib.hid hcu; have HFB := Lib.hid (HFP.out.trans hch); have nB : ∀ i, i < j → W3.cell? ⟨g, i, none⟩ = some (F i) := (fun i hi => by rw [← HFV.out]; exact HMB.out.outerM HML.out i hi); obtain ⟨_, hBb, hbB, hbg, hcell, hset⟩ := HMB.out.rowY (by rw [HML.out]; exact hqR) (HDL.out q hqR) (by omega) HVQ.out; obtain ⟨mB, fB⟩ := hcell p hpR; have HST := Lib.hid (hset p z hpR); have hzB := hch.size; clear hcu hch hcell hset)
                | fail)
            all_goals
              have hb9 : Below w.heap.size W3 (W3.setCell ⟨bq, oq + p, none⟩ (.int .i64 z)) := (Below.refl w.heap.size W3).setCell (p := ⟨bq, oq + p, none⟩) hBb (.int .i64 z)
              have HU9 := Lib.hid (HUB.out.under hb9 hcl)
              have HF9 := Lib.hid (HFB.out.under hb9 (Nat.le_refl _) (by simp [World.setCell]))
              have HS9 := Lib.hid (smD_set (vs' := vs) (i := q) (xs := (M.getD q []).set p z) (smD_sh (vs := vs) HSH.out (by omega) (by omega)) (by rw [List.length_set, HDL.out q hqR]; omega))
              clear hb9
              go_wp2_with fail
              go_ret
              exact ⟨_, cav, _, ⟨_, by rw [List.length_set, HML.out]; rfl, HS9.out, by rw [List.length_set, HML.out]; exact HST.out, HU9.out.mono (by omega), HF9.out⟩⟩
          case neg =>
            have e1 : (x == 1) = false := beq_eq_false_iff_ne.2 h1
            have HS9 := Lib.hid (smD_sh (vs := vs) HSH.out (by omega) (by omega))
            go_wp2_with fail
            go_ret
            exact ⟨_, cav, M, ⟨vs, by rw [HML.out]; rfl, HS9.out, by rw [HML.out]; exact HM4.out, HU4.out.mono (by omega), HF4.out⟩⟩
  case true =>
    clear e1 hk4
    go_wp2_with fail
    obtain ⟨k, hN1⟩ : ∃ N1 : Nat, N1 = 6 := ⟨6, rfl⟩
    have hN2 : (6 : Int) = (k : Int) := by omega
    rw [hN2]
    have hk6 : 1 ≤ k ∧ k ≤ 6 := by omega
    clear hN1 hN2
    refine (matrix_c k k c (n + 4) w2 HU2.out (by omega) (by omega) (by omega)).mono ?_
    rintro e wV ⟨adM, cav, M0, vs, rfl, ⟨hsh0, _⟩, hmat0, hcu, hch⟩
    have hzV := hch.size
    have HM0 := Lib.hid (hmat0.mono (B' := w.heap.size) (by omega)); have HUV := Lib.hid hcu; have HFV := Lib.hid (HF2.out.trans hch); have HS0 := Lib.hid hsh0
    rw [hsh0.1] at HM0 ⊢
    obtain ⟨g, cav', eg, hg, _, _⟩ := HM0.out.cells (by rw [hsh0.1]; omega)
    rw [hsh0.1] at eg
    injection eg with eg q1 q2
    subst eg
    clear q1 q2 hsh0 hmat0 hcu hch HU2 HF2
    go_wp2_with fail
    go_loopw [17] (fun i wr => ∃ (j : Nat) (M : List (List Int)), j ≤ k ∧ i = .int .i64 j ∧ shM k k M ∧ MatO wr w.heap.size (.slice (some ⟨g, 0, none⟩) k cav) M vs ∧ Cur wr c (n + 300 + 10 * j) ∧ Chg c w wr) (fun i _ => k - (intOf i).toNat)
    case atStart => exact ⟨0, M0, Nat.zero_le _, rfl, HS0.out, HM0.out, HUV.out.mono (by omega), HFV.out⟩
    case round =>
      obtain ⟨wE, rfl⟩ : ∃ x : World, x = wr := ⟨_, rfl⟩
      obtain ⟨j, M, hj, rfl, hsh, hmat, hcu, hch⟩ := hrel
      have hsz := hch.size
      have HSH := Lib.hid hsh; have HMW := Lib.hid hmat; have HU := Lib.hid hcu; have HFW := Lib.hid hch
      have HML := Lib.hid hsh.1
      clear hsh hmat hcu hch HM0 HUV HFV HS0
      by_cases hlt : j < k
      case pos =>
        go_wp2_with fail
        refine (one_c 6 c (n + 300 + 10 * j) wE HU.out (by omega)).mono ?_
        rintro e w5 ⟨b5, rfl, hcu, hch⟩
        have HM5 := Lib.hid (HMW.out.chg hch hcl)
        have HU5 := Lib.hid hcu; have HF5 := Lib.hid (HFW.out.trans hch)
        have hz5 := hch.size
        clear hcu hch HMW HFW HU
        cases b5
        case true =>
          go_wp2_with fail
          go_roundw
          case rel => exact ⟨j + 1, M, by omega, by go_num, HSH.out, HM5.out, HU5.out.mono (by omega), HF5.out⟩
          case measure => simp [intOf]; omega
        case false =>
          have HR := Lib.hid (HSH.out.2 j hlt)
          obtain ⟨b, o, rc, er⟩ := HM5.out.rowE (i := j) (by rw [HML.out]; exact hlt) (by rw [HR.out]; omega)
          rw [HR.out] at er
          have HER := Lib.hid er
          have kA := HM5.out.outerM HML.out j hlt
          rw [er] at kA
          obtain ⟨_, hBb, hbl, hbg, hcell, _⟩ := HM5.out.rowY (by rw [HML.out]; exact hlt) HR.out (by omega) HER.out
          obtain ⟨q, hq⟩ : ∃ q : Nat, (j + 1) % k = q := ⟨_, rfl⟩
          have hqk : q < k := by rw [← hq]; exact Nat.mod_lt _ (by omega)
          have e8 : Int.tmod ((j : Int) + 1) (k : Int) = (q : Int) := by rw [rem_next, hq]
          have e7 : IntKind.i64.wrap ((j : Int) + 1) = (j : Int) + 1 := i64_small (by omega) (by omega)
          have e9 : IntKind.i64.wrap (q : Int) = (q : Int) := i64_small (by omega) (by omega)
          have g9 : ((k : Int) == 0) = false := beq_eq_false_iff_ne.2 (by omega)
          have gk : ¬ (k : Int) = 0 := by omega
          have gk0 : ¬ k = 0 := by omega
          have x1 : (0 : Int) ≤ (j : Int) := by omega
          have x2 : (j : Int) < (k : Int) := by omega
          have x3 : (0 : Int) ≤ (q : Int) := by omega
          have x4 : (q : Int) < (k : Int) := by omega
          have hgg : g ≠ c := by omega
          have hbgg : b ≠ c := by omega
          have k5 := (hcell q hqk).1
          generalize (M.getD j []).getD q 0 = X at k5
          have PK := Lib.hid (small_c c (n + 300 + 10 * j + 2) w5.drew (HU5.out.below (Below.refl _ _).drew) (by omega))
          have HM6 := Lib.hid (fun u (hu : Chg c w5 u) => HM5.out.chg hu hcl)
          clear hcell er hq
          go_wp2_with fail
          go_region_held3 (fun w' => w'.cell? ⟨g, j, none⟩ = some (.slice (some ⟨b, o, none⟩) k rc)) (with_reducible repeat' (first | assumption | apply cell_alloc' | apply cell_drew' | (refine cell_set' hbg.symm ?_)))
            (first
              | (go_at_call 63; (with_reducible refine (PK.out).mono ?_); rintro e w6 ⟨x6, rfl, hp6, hcu, hch⟩; have hch6 := (Chg.drew c w5).trans hch; have m0 := hch6.cell hgg kA; have m1 := hch6.cell hbgg k5; have HM7 := Lib.hid (HM6.out w6 hch6); have f6 := (((HM7.out.rowY (by rw [HML.out]; exact hlt) HR.out (by omega) HER.out).2.2.2.2.1) q hqk).2; have HCH6 := Lib.hid hch6; have HU7 := Lib.hid hcu; have hz6 := hch.size; clear hcu hch hch6)
              | fail)
          all_goals
            have HST := Lib.hid ((HM7.out.rowY (by rw [HML.out]; exact hlt) HR.out (by omega) HER.out).2.2.2.2.2 q x6 hqk)
            have hb9 : Below w.heap.size w6 (w6.setCell ⟨b, o + q, none⟩ (.int .i64 x6)) := (Below.refl w.heap.size w6).setCell (p := ⟨b, o + q, none⟩) hBb (.int .i64 x6)
            have HU9 := Lib.hid (HU7.out.under hb9 hcl)
            have HF9 := Lib.hid ((HF5.out.trans HCH6.out).under hb9 (Nat.le_refl _) (by simp [World.setCell]))
            have HS9 := Lib.hid (shM_set (x := x6) HSH.out hlt q)
            clear hb9
            go_wp2_with fail
            go_roundw
            case rel => exact ⟨j + 1, _, by omega, by go_num, HS9.out, HST.out, HU9.out.mono (by omega), HF9.out⟩
            case measure => simp [intOf]; omega
      case neg =>
        obtain rfl : j = k := by omega
        go_wp2_with fail
        refine (pick_c 24 c (n + 300 + 10 * j) wE HU.out (by omega)).mono ?_
        rintro e w4 ⟨x, rfl, hx, hcu, hch⟩
        have hz4 := hch.size
        have HM4 := Lib.hid (HMW.out.chg hch hcl)
        have HU4 := Lib.hid hcu; have HF4 := Lib.hid (HFW.out.trans hch)
        clear hcu hch HMW HFW HU
        by_cases h0 : x = 0
        case pos =>
          subst h0
          go_wp2_with fail
          refine (anyMatrix_c c (n + 300 + 10 * j + 2) w4 HU4.out (by omega)).mono ?_
          rintro e w6 ⟨ad6, cap6, M6, vs6, rfl, hp6, hmat6, hcu, hch⟩
          have HP6 := Lib.hid hp6
          have HM6 := Lib.hid (hmat6.mono (B' := w.heap.size) (by omega)); have HU6 := Lib.hid hcu; have HF6 := Lib.hid (HF4.out.trans hch)
          clear hp6 hmat6 hcu hch
          go_wp2_with fail
          go_ret
          exact ⟨ad6, cap6, M6, ⟨vs6, rfl, HP6.out, HM6.out, HU6.out.mono (by omega), HF6.out⟩⟩
        case neg =>
          have e0 : (x == 0) = false := beq_eq_false_iff_ne.2 h0
          by_cases h1 : x = 1
          case pos =>
            subst h1
            have HDL := Lib.hid (fun i (hi : i < j) => HSH.out.2 i hi)
            have hx1 : (0 : Int) < (j : Int) := by omega
            have hx2 : 0 < j := by omega
            have hcw4 : c < w4.heap.size := by omega
            obtain ⟨F, hF⟩ : ∃ F : Nat → Value, ∀ i, vs.getD i undef = F i := ⟨_, fun _ => rfl⟩
            have HFV := Lib.hid hF
            clear hF
            have n4 : ∀ i, i < j → w4.cell? ⟨g, i, none⟩ = some (F i) := fun i hi => by rw [← HFV.out]; exact HM4.out.outerM HML.out i hi
            go_wp2_with fail
            go_region_held3 (fun w' => ∀ i, i < j → w'.cell? ⟨g, i, none⟩ = some (F i)) (first | assumption | (intro i hi; with_reducible repeat' (first | (apply_assumption; assumption) | apply cell_alloc' | apply cell_drew' | (refine cell_set' hbg.symm ?_))))
              (first
                | (go_at_call 60; (with_reducible refine (pick_c (j : Int) c (n + 300 + 10 * j + 2) _ (by first | exact HU4.out | exact HU4.out.drew') (by omega)).mono ?_); rintro e W1 ⟨y, rfl, hy, hcu, hch⟩; obtain ⟨q, rfl⟩ : ∃ q : Nat, y = (q : Int) := ⟨y.toNat, by omega⟩; have hqR : q < j := (by omega); have HMA := Lib.hid (MatO.chg (by first | exact HM4.out | exact HM4.out.below (Below.refl _ _).drew) hch hcl); have HUA := Lib.hid hcu; have HFA := Lib.hid (HF4.out.trans (Chg.trans (Chg.of_below (Below.refl _ _).drew) hch)); obtain ⟨bq, oq, cq, hvq⟩ := HMA.out.rowE (i := q) (by rw [HML.out]; exact hqR) (by rw [HDL.out q hqR]; exact hx2); rw [HDL.out q hqR] at hvq; have HVQ := Lib.hid hvq; rw [HFV.out] at hvq; have nA : ∀ i, i < j → W1.cell? ⟨g, i, none⟩ = some (F i) := (fun i hi => by rw [← HFV.out]; exact HMA.out.outerM HML.out i hi); have hzA := hch.size; have hq0 : (0 : Int) ≤ (q : Int) := (by omega); have hq1 : (q : Int) < (j : Int) := (by omega); clear hcu hch hy)
                | (go_at_call 60; (with_reducible refine (pick_c (j : Int) c (n + 300 + 10 * j + 2 + 2) _ HUA.out (by omega)).mono ?_); rintro e W2 ⟨y, rfl, hy, hcu, hch⟩; obtain ⟨p, rfl⟩ : ∃ p : Nat, y = (p : Int) := ⟨y.toNat, by omega⟩; have hpR : p < j := (by omega); have HMP := Lib.hid (HMA.out.chg hch hcl); have HUP := Lib.hid hcu; have HFP := Lib.hid (HFA.out.trans hch); have nP : ∀ i, i < j → W2.cell? ⟨g, i, none⟩ = some (F i) := (fun i hi => by rw [← HFV.out]; exact HMP.out.outerM HML.out i hi); have hzP := hch.size; have hp0 : (0 : Int) ≤ (p : Int) := (by omega); have hp1 : (p : Int) < (j : Int) := (by omega); clear hcu hch hy)
                | (go_at_call 65; (with_reducible refine (anyNum_c c (n + 300 + 10 * j + 2 + 2 + 2) _ HUP.out (by omega)).mono ?_); rintro e W3 ⟨z, rfl, -, hcu, hch⟩; have HMB := Lib.hid (HMP.out.chg hch hcl); have HUB := Lib.hid hcu; have HFB := Lib.hid (HFP.out.trans hch); have nB : ∀ i, i < j → W3.cell? ⟨g, i, none⟩ = some (F i) := (fun i hi => by rw [← HFV.out]; exact HMB.out.outerM HML.out i hi); obtain ⟨_, hBb, hbB, hbg, hcell, hset⟩ := HMB.out.rowY (by rw [HML.out]; exact hqR) (HDL.out q hqR) (by omega) HVQ.out; obtain ⟨mB, fB⟩ := hcell p hpR; have HST := Lib.hid (hset p z hpR); have hzB := hch.size; clear hcu hch hcell hset)
                | fail)
            all_goals
              have hb9 : Below w.heap.size W3 (W3.setCell ⟨bq, oq + p, none⟩ (.int .i64 z)) := (Below.refl w.heap.size W3).setCell (p := ⟨bq, oq + p, none⟩) hBb (.int .i64 z)
              have HU9 := Lib.hid (HUB.out.under hb9 hcl)
              have HF9 := Lib.hid (HFB.out.under hb9 (Nat.le_refl _) (by simp [World.setCell]))
              have HS9 := Lib.hid (smD_set (vs' := vs) (i := q) (xs := (M.getD q []).set p z) (smD_sh (vs := vs) HSH.out (by omega) (by omega)) (by rw [List.length_set, HDL.out q hqR]; omega))
              clear hb9
              go_wp2_with fail
              go_ret
              exact ⟨_, cav, _, ⟨_, by rw [List.length_set, HML.out]; rfl, HS9.out, by rw [List.length_set, HML.out]; exact HST.out, HU9.out.mono (by omega), HF9.out⟩⟩
          case neg =>
            have e1 : (x == 1) = false := beq_eq_false_iff_ne.2 h1
            have HS9 := Lib.hid (smD_sh (vs := vs) HSH.out (by omega) (by omega))
            go_wp2_with fail
            go_ret
            exact ⟨_, cav, M, ⟨vs, by rw [HML.out]; rfl, HS9.out, by rw [HML.out]; exact HM4.out, HU4.out.mono (by omega), HF4.out⟩⟩
end Go.Proofs.Ytjlkgioinogbkaa
