/-
  The draw of an assignment. Printed by gen_atA.py. By an AI agent.
-/
import Derived.Test.YtjlkgioinogbkaaAsZ
namespace Go.Proofs.Ytjlkgioinogbkaa
open Go.RowKit

/-- A drawn list within its capacity. -/
def AsnD (c n : Nat) (w : World) (e : Ending) (w' : World) : Prop := ∃ (ad : Option Addr) (cap : Nat) (a : List Int), e = .returned (.slice ad a.length cap) ∧ RdI w' ad a ∧ a.length ≤ cap ∧ a.length ≤ 7 ∧ Cur w' c n ∧ Chg c w w'
def lenV : Value → Nat
  | .slice _ n _ => n
  | _ => 0
theorem RowI.capA {w : World} {B n cap : Nat} {ad : Option Addr} {xs : List Int} (h : RowI w B (.slice ad n cap) xs) : xs.length ≤ cap := (CellO.of_row (show RowI w B (.slice ad n cap) xs from h)).cap
theorem RdI.dropA {w : World} {b off : Nat} {xs : List Int} (h : RdI w (some ⟨b, off, none⟩) xs) (k : Nat) : RdI w (some ⟨b, off + k, none⟩) (xs.drop k) := fun j hj => by
  have hj' : k + j < xs.length := by rw [List.length_drop] at hj; omega
  obtain ⟨b', off', e, hl, c0⟩ := h (k + j) hj'
  have e' : (xs.drop k).getD j 0 = xs.getD (k + j) 0 := by simp [List.getD_eq_getElem?_getD]
  cases e
  exact ⟨b, off + k, rfl, hl, by rw [e', show off + k + j = off + (k + j) by omega]; exact c0⟩
set_option maxRecDepth 100000 in
theorem cutA_tail {b q cc c : Nat} {xs : List Int} (hl : xs.length = q) (hc : c < q) (hcc : q ≤ cc) :
    ∃ off2 cap2, (∀ w' : World, (Instr.slice 26 (.slice (some ⟨b, 0, none⟩) q cc) (some (.int .i64 ((c : Int) + 1))) none none).run Try.prog w' = .ok (.slice (some ⟨b, off2, none⟩) (q - (c + 1)) cap2) w') ∧ ∀ u : World, RdI u (some ⟨b, 0, none⟩) xs → RdI u (some ⟨b, off2, none⟩) (xs.drop (c + 1)) := by
  have h1 : ((c : Int) + 1).toNat = c + 1 := by omega
  by_cases hc1 : cc = c + 1
  · refine ⟨0, 0, fun w' => ?_, fun u _ => ?_⟩
    · rw [run_slice_l w' _ _ _ _ Try.underlying26 _ _ (by omega) (by omega)]
      simp [go_sem, hc1, h1]
    · have : xs.drop (c + 1) = [] := List.drop_eq_nil_of_le (by omega)
      rw [this]
      exact RdI.nil _ _
  · refine ⟨0 + (c + 1), cc - (c + 1), fun w' => ?_, fun u hr => hr.dropA (c + 1)⟩
    rw [run_slice_l w' _ _ _ _ Try.underlying26 _ _ (by omega) (by omega)]
    simp [go_sem, hc1, h1]
set_option maxRecDepth 100000 in
theorem cutA_head {b q cc c : Nat} (hc : c < q) (hcc : q ≤ cc) (w' : World) : (Instr.slice 26 (.slice (some ⟨b, 0, none⟩) q cc) none (some (.int .i64 (c : Int))) none).run Try.prog w' = .ok (.slice (some ⟨b, 0, none⟩) c cc) w' := by
  rw [run_slice_h w' _ _ _ _ Try.underlying26 _ _ (by omega) (by omega)]
  simp [go_sem]
theorem ownA_c {wm : World} {g q cg k off2 cap2 : Nat} {L : List Int} (hl : L.length = q) (hk : k < q) (hcg : q ≤ cg) (h7 : q ≤ 100000) (ho : Own wm g 3 (ints L)) (hd : ∀ u : World, RdI u (some ⟨g, 0, none⟩) L → RdI u (some ⟨g, off2, none⟩) (L.drop (k + 1))) (u : World) (hb : Below wm.heap.size wm u) :
    Calls Try.prog 68 #[.slice (some ⟨g, 0, none⟩) k cg] u fun e W1 => ∃ v1, e = .returned v1 ∧ RowI W1 wm.heap.size v1 (L.take k) ∧ ReadsN W1 (.slice (some ⟨g, off2, none⟩) (q - (k + 1)) cap2) (L.drop (k + 1)) ∧ Below wm.heap.size wm W1 := by
  have hou := ho.belowAll hb
  have hlt : (L.take k).length = k := by rw [List.length_take]; omega
  have h1 := l1OwnZ_c 0 (some ⟨g, 0, none⟩) cg (L.take k) u ⟨_, cg, rfl, by omega, Or.inr ⟨g, 0, L, rfl, Nat.zero_le _, hou, fun j hj => by
    have hj' : j < k ∧ j < L.length := by rw [List.length_take] at hj; omega
    refine ⟨by omega, ?_⟩
    rw [Nat.zero_add]
    simp [List.getD_eq_getElem?_getD, hj'.1]⟩⟩ (by omega)
  rw [hlt] at h1
  refine h1.mono ?_
  rintro e W1 ⟨v1, rfl, hr, hb1⟩
  exact ⟨v1, rfl, hr.low hb.size, ⟨g, off2, cap2, by rw [List.length_drop, hl], hd _ ((ho.belowAll (ball hb hb1)).rd)⟩, ball hb hb1⟩
theorem asn_end {w W1 : World} {c n m k g cap N : Nat} {A : List Int} {y : Int} (hcl : c < w.heap.size) (h7 : N ≤ 7) (hBg : w.heap.size ≤ g) (hA : A.length = N) (hcp : N ≤ cap)
    (hcu : Cur W1 c m) (hch : Chg c w W1) (ho : Own W1 g 3 (ints A)) (hm : m ≤ n) :
    AsnD c n w (.returned (.slice (some ⟨g, 0, none⟩) N cap)) (W1.setCell ⟨g, k, none⟩ (.int .i64 y)) := by
  have hbw : Below w.heap.size W1 (W1.setCell ⟨g, k, none⟩ (.int .i64 y)) := (Below.refl w.heap.size W1).setCell (p := ⟨g, k, none⟩) hBg (.int .i64 y)
  have ho := ho.set k (.int .i64 y)
  rw [ints_set] at ho
  exact ⟨some ⟨g, 0, none⟩, cap, A.set k y, by rw [List.length_set, hA], ho.rd, by rw [List.length_set, hA]; exact hcp, by rw [List.length_set, hA]; exact h7, (hcu.under hbw hcl).mono hm, hch.under hbw (Nat.le_refl _) (by simp)⟩
set_option maxHeartbeats 6400000 in
set_option maxRecDepth 100000 in
theorem assignment_c (ad : Option Addr) (cap : Nat) (M : List (List Int)) (c n : Nat) (w : World) (hr : RdM w ad M) (hl : smM M) (h7 : M.length ≤ 7) (h : Cur w c n) (hn : n ≤ 4611686018427350000) :
    Calls Try.prog 39 #[.pointer (some ⟨c, 0, none⟩), .slice ad M.length cap] w (AsnD c (n + 40) w) := by
  have hcl := h.lt
  have H := Lib.hid h; clear h
  have C1 := Lib.hid (sBestO_c ad cap M w hr hl)
  have HLN := Lib.hid (fun (h : baB M = true) => show (bsL M).length = M.length from by
    unfold baB at h
    rw [Bool.and_eq_true] at h
    exact bsL_len h.1)
  clear hr hl
  generalize bsL M = U at C1 HLN
  generalize baB M = B at C1 HLN
  generalize bsC M = X0 at C1
  generalize M.length = N at C1 HLN h7 ⊢
  go_enter Try.func39, Try.ntmps39
  go_wp2_with fail
  refine C1.out.mono ?_
  rintro e w1 ⟨a1, c1, rfl, hrd, hb1⟩
  have HU := Lib.hid (H.out.below hb1)
  have HF := Lib.hid (Chg.of_below (b := c) hb1)
  have HRD := Lib.hid hrd
  have hz1 := hb1.size
  clear hrd C1
  cases B
  case false =>
    clear HLN HRD
    go_wp2_with fail
    have HWw1 := Lib.hid (show w.heap.size ≤ w1.heap.size from by omega)
    go_loopw [8, 26] (fun v i wr => ∃ (k : Nat) (L : List Int), k ≤ N ∧ i = .int .i64 k ∧ L.length = k ∧ RowI wr w1.heap.size v L ∧ Below w1.heap.size w1 wr) (fun _ i _ => N - (intOf i).toNat)
    case atStart => exact ⟨0, [], Nat.zero_le _, rfl, rfl, RowI.nil _ _, Below.refl _ _⟩
    case round =>
      obtain ⟨wE, rfl⟩ : ∃ x : World, x = wr := ⟨_, rfl⟩
      obtain ⟨k, L, hk, rfl, hLk, hrow, hbel⟩ := hrel
      obtain ⟨ad8, cap8, rfl, _⟩ := hrow.shape
      have HLK := Lib.hid hLk
      rw [hLk] at hrow ⊢
      have HR := Lib.hid hrow
      have hsz := hbel.size
      clear hrow hLk
      by_cases hlt : k < N
      case pos =>
        go_wp2_with (at_builtin; refine wpList_appN rfl _ _ rfl w1.heap.size _ 0 1 _ L [(k : Int)] (k + 1) (by rw [HLK.out]; rfl) rfl rfl (RowI.alloc' (show RowI wE _ (.slice ad8 k cap8) L from HR.out)) (rdI_one _ _ _ rfl) (by rw [HLK.out]; omega) (by simp) (by simp; omega) ?_; intro v5 wm hown hsh hbm hgr)
        have hb3 := (bal_alloc (o := .cells #[.int .i64 (k : Int)] 3) hbel).trans hbm
        have HO5 := Lib.hid hown; clear hown hsh hgr hbm
        go_wp2_with fail
        go_roundw
        case rel => exact ⟨k + 1, L ++ [(k : Int)], by omega, by go_num, by rw [List.length_append, HLK.out]; rfl, HO5.out, hb3⟩
        case measure => simp [intOf]; omega
      case neg =>
        obtain rfl : k = N := by omega
        have HUE := Lib.hid (HU.out.below hbel)
        have HFE := Lib.hid (HF.out.trans (Chg.of_below (b := c) hbel))
        have hcw : c < w1.heap.size := by have := HWw1.out; omega
        go_wp2_with fail
        go_loopw [8, 9] (fun v8 v9 wr => ∃ (L A : List Int) (R : Nat), L.length + A.length = k ∧ RowI wr R v8 L ∧ RowI wr w.heap.size v9 A ∧ w.heap.size ≤ R ∧ (∀ q, v9.ownBlock = some q → q < R) ∧ R ≤ wr.heap.size ∧ Cur wr c (n + 2 * A.length) ∧ Chg c w wr) (fun v8 _ _ => lenV v8)
        case atStart => exact ⟨L, [], w1.heap.size, by rw [HLK.out]; rfl, HR.out, RowI.nil _ _, HWw1.out, (fun q hq => by cases hq), hsz, HUE.out, HFE.out⟩
        case round =>
          obtain ⟨wA, rfl⟩ : ∃ x : World, x = wr := ⟨_, rfl⟩
          clear HUE HFE HR HLK hsz hbel
          obtain ⟨L2, A, R, hLA, hrow, hra, hwR, hqR, hRw, hcu, hch⟩ := hrel
          obtain ⟨ad2, cap2, rfl, _⟩ := hrow.shape
          obtain ⟨ad9, cap9, rfl, hrd9⟩ := hra.shape
          have HU2 := Lib.hid hcu; have HF2 := Lib.hid hch
          have hz2 := hch.size
          clear hcu hch
          by_cases h0 : L2.length = 0
          case pos =>
            have hAN : A.length = k := by omega
            have HAN := Lib.hid hAN
            rw [hAN] at hra HU2 ⊢
            rw [h0]
            have hcp9 := hra.capA
            rw [hAN] at hcp9
            have HRA := Lib.hid hra; have HRD9 := Lib.hid hrd9
            clear hrow hra hrd9 hLA hAN h0 hlt
            by_cases hk0 : k = 0
            case pos =>
              subst hk0
              go_wp2_with fail
              refine bodyPost_ret (v := .slice ad9 0 cap9) (by simp [results, Try.results39, go_sem]) rfl ?_
              exact ⟨ad9, cap9, A, by rw [HAN.out], HRD9.out, by rw [HAN.out]; exact hcp9, by rw [HAN.out]; exact h7, HU2.out.mono (by omega), HF2.out⟩
            case neg =>
              go_wp2_with fail
              refine (one_c 12 c (n + 2 * k) wA HU2.out (by omega)).mono ?_
              rintro e w5 ⟨b5, rfl, hcu, hch⟩
              have HU5 := Lib.hid hcu; have HF5 := Lib.hid (HF2.out.trans hch)
              have hra5 := row_chg HRA.out hch hcl
              have HRA5 := Lib.hid hra5
              have hz5 := hch.size
              clear hcu hch
              cases b5
              case false =>
                have hrd5 : RdI w5 ad9 A := CellO.rd (B := w.heap.size) (n := k) (cap := cap9) (CellO.of_row hra5)
                have HRD5 := Lib.hid hrd5
                clear hra5 hrd5
                go_wp2_with fail
                refine bodyPost_ret (v := .slice ad9 k cap9) (by simp [results, Try.results39, go_sem]) rfl ?_
                exact ⟨ad9, cap9, A, by rw [HAN.out], HRD5.out, by rw [HAN.out]; exact hcp9, by rw [HAN.out]; exact h7, HU5.out.mono (by omega), HF5.out⟩
              case true =>
                obtain ⟨g, capg, eg, hBg⟩ := RowI.own (w := w5) (B := w.heap.size) (v := .slice ad9 k cap9) (xs := A) hra5 (by rw [HAN.out]; omega)
                rw [HAN.out] at eg
                injection eg with eg q1 q2
                subst eg
                clear q1 q2 hra5
                have HOG := Lib.hid (row_ownI (B := w.heap.size) (n := k) (cap := cap9) (xs := A) HRA5.out)
                go_wp2_with fail
                refine (pick_c (k : Int) c (n + 2 * k + 2) w5 HU5.out (by omega)).mono ?_
                rintro e w6 ⟨x, rfl, hx, hcu, hch⟩
                obtain ⟨j, rfl⟩ : ∃ j : Nat, x = (j : Int) := ⟨x.toNat, by omega⟩
                have hjk : j < k := by omega
                have HU6 := Lib.hid hcu; have HF6 := Lib.hid (HF5.out.trans hch)
                have HO6 := Lib.hid (HOG.out.chg hch (by omega))
                have hz6 := hch.size
                have hgl := HO6.out.lt
                clear hcu hch hx
                have HA6 := Lib.hid (HU6.out.below ((Below.refl _ _).alloc (Nat.le_refl _) (.cells #[.int .i64 0, .int .i64 (k : Int), .int .i64 (-1)] 3)))
                have HN6 := Lib.hid (Own.newA w6 #[.int .i64 0, .int .i64 (k : Int), .int .i64 (-1)] 3 rfl)
                go_wp2_with fail
                refine (among_c w6.heap.size 3 [0, (k : Int), -1] c (n + 2 * k + 2 + 2) _ HA6.out (by omega) (by simp) (by simp) (by omega) HN6.out).mono ?_
                rintro e w7 ⟨z, rfl, _, hcu, hch⟩
                have hch7 := (Chg.alloc c w6 (.cells #[.int .i64 0, .int .i64 (k : Int), .int .i64 (-1)] 3)).trans hch
                have HU7 := Lib.hid hcu; have HF7 := Lib.hid (HF6.out.trans hch7)
                have ho7 := HO6.out.chg hch7 (by omega)
                have m7 := ho7.cell? (i := j) (ints_get (by rw [HAN.out]; exact hjk))
                have f7 := ho7.frozen j
                have HO7 := Lib.hid ho7
                generalize A.getD j 0 = Y at m7
                have x1 : (0 : Int) ≤ (j : Int) := by omega
                have x2 : (j : Int) < (k : Int) := by omega
                clear hcu hch hch7 ho7
                go_wp2_with fail
                refine bodyPost_ret (v := .slice (some ⟨g, 0, none⟩) k cap9) (by simp [results, Try.results39, go_sem]) rfl ?_
                exact asn_end hcl h7 hBg HAN.out hcp9 HU7.out HF7.out HO7.out (by omega)
          case neg =>
            obtain ⟨q, hq⟩ : ∃ q, L2.length = q := ⟨_, rfl⟩
            obtain ⟨g, cg, eg, hBg⟩ := hrow.own (by omega)
            injection eg with eg e1 e2
            subst eg
            clear e1
            have hcg := hrow.capA
            have hog := row_ownI (B := R) (n := L2.length) (cap := cap2) (xs := L2) hrow
            have HQ := Lib.hid hq
            rw [hq] at hcg h0 hLA ⊢
            clear e2
            have HOG := Lib.hid hog
            obtain ⟨p, hp⟩ : ∃ p, A.length = p := ⟨_, rfl⟩
            rw [hp] at hra HU2 hLA hqR ⊢
            have HP := Lib.hid hp
            have HRA := Lib.hid hra
            clear hog hrow hq hp hra hrd9 hlt
            go_wp2_with fail
            refine (pick_c (q : Int) c (n + 2 * p) wA HU2.out (by omega)).mono ?_
            rintro e w5 ⟨x, rfl, hx, hcu, hch⟩
            obtain ⟨j, rfl⟩ : ∃ j : Nat, x = (j : Int) := ⟨x.toNat, by omega⟩
            have hjq : j < q := by omega
            have HU5 := Lib.hid hcu; have HF5 := Lib.hid (HF2.out.trans hch)
            have HRA5 := Lib.hid (row_chg HRA.out hch hcl)
            have ho5 := HOG.out.chg hch (by omega)
            have HO5 := Lib.hid ho5
            have hz5 := hch.size
            have k5 := ho5.cell? (i := j) (ints_get (by rw [HQ.out]; exact hjq))
            generalize L2.getD j 0 = Y at k5
            have x1 : (0 : Int) ≤ (j : Int) := by omega
            have x2 : (j : Int) < (q : Int) := by omega
            clear hcu hch hx ho5
            go_wp2_with (at_builtin; refine wpList_appN rfl _ _ rfl w.heap.size w5.heap.size 0 1 (.slice ad9 p cap9) A [Y] (p + 1) (by rw [HP.out]; rfl) rfl rfl (RowI.alloc' (show RowI w5 _ (.slice ad9 p cap9) A from HRA5.out)) (rdI_one _ _ _ rfl) (by rw [HP.out]; omega) (by simp) (by simp; omega) ?_; intro v5 wm hown hsh hbm hgr)
            have how := (HO5.out.alloc (.cells #[.int .i64 Y] 3)).grown hgr (fun e => by have := hqR g e; omega)
            have hb5 : Below w.heap.size w5 wm := ((Below.refl w.heap.size w5).alloc (by omega) (.cells #[.int .i64 Y] 3)).trans hbm
            have HUM := Lib.hid (HU5.out.under hb5 hcl)
            have hzm := hb5.size
            have HFM := Lib.hid (HF5.out.under hb5 (Nat.le_refl _) hzm)
            have HRM := Lib.hid hown
            obtain ⟨g9, cp9, rfl, _⟩ := hsh (by omega)
            have hgm : g9 < wm.heap.size := (World.ownsRow.lt hown g9 rfl).2
            obtain ⟨off2, cpt, htl, hrdt⟩ := cutA_tail (b := g) (c := j) HQ.out hjq hcg
            have hhd := cutA_head (b := g) (c := j) hjq hcg
            have HOW := Lib.hid (ownA_c (cap2 := cpt) HQ.out hjq hcg (by omega) how hrdt)
            have HTK := Lib.hid (show (L2.take j).length = j by rw [List.length_take, HQ.out]; omega)
            have HDK := Lib.hid (show (L2.drop (j + 1)).length = q - (j + 1) by rw [List.length_drop, HQ.out])
            have ej : IntKind.i64.wrap ((j : Int) + 1) = (j : Int) + 1 := i64_small (by omega) (by omega)
            clear hown hsh hgr hbm how hrdt
            go_wp2_with fail
            go_region_law (first
              | (go_simp; go_at_call 68; (refine (HOW.out _ (by repeat (first | exact Below.refl _ _ | apply Below.drew))).mono ?_); rintro e W1 ⟨v1, rfl, hr1, hx1, hb1'⟩; have HR1 := Lib.hid hr1; have HX1 := Lib.hid hx1; have HB1 := Lib.hid hb1'; have hzW := hb1'.size; clear hr1 hx1 hb1')
              | (refine step_appI (by rfl) _ _ (by rfl) wm.heap.size v1 (.slice (some ⟨g, off2, none⟩) (q - (j + 1)) cpt) (L2.take j) (L2.drop (j + 1)) (by rfl) (by rfl) HR1.out HX1.out (by rw [HTK.out]; omega) (by rw [HDK.out]; omega) hzW ?_; intro v6 w6 hown6 hbm6 hgr6)
              | fail)
            all_goals
              obtain ⟨Q, hQ⟩ : ∃ Q, L2.take j ++ L2.drop (j + 1) = Q := ⟨_, rfl⟩
              have hQl : Q.length = q - 1 := by rw [← hQ, List.length_append, HTK.out, HDK.out]; omega
              rw [hQ] at hown6
              obtain ⟨a6, c6, rfl, _⟩ := hown6.shape
              rw [hQl] at hown6 ⊢
              have HR6 := Lib.hid hown6; have HQL := Lib.hid hQl
              have hb6 := HB1.out.trans hbm6
              have hz6 := hb6.size
              have HU6 := Lib.hid (HUM.out.below hb6); have HF6 := Lib.hid (HFM.out.trans (Chg.of_below (b := c) hb6))
              have HRM6 := Lib.hid (HRM.out.below hb6)
              clear hown6 hbm6 hgr6 hQl hQ hb6
              go_simp
              go_wp2_with fail
              go_roundw
              case rel => exact ⟨Q, A ++ [Y], wm.heap.size, by rw [List.length_append, HP.out, HQL.out]; simp; omega, HR6.out, HRM6.out, by omega, (fun q hq => by cases hq; exact hgm), hz6, by rw [List.length_append, HP.out]; exact HU6.out.mono (by simp; omega), HF6.out⟩
              case measure => simp [lenV]; omega
  case true =>
    have hlu : (onL true U).length = N := HLN.out rfl
    rw [hlu]
    go_wp2_with fail
    refine (one_c 2 c n w1 HU.out (by omega)).mono ?_
    rintro e wB ⟨b2, rfl, hcu, hch⟩
    have HUB := Lib.hid hcu; have HFB := Lib.hid (HF.out.trans hch)
    have hzB := hch.size
    cases b2
    case true =>
      have hce := HRD.out.of_block (w' := wB) fun q hq => hch.block q (HRD.out.lt hq).2 (by have := (HRD.out.lt hq).1; omega)
      have HRB := Lib.hid hce.rd; have hcp := hce.cap
      clear hcu hch hce
      go_wp2_with fail
      refine bodyPost_ret (v := .slice a1 N c1) (by simp [results, Try.results39, go_sem]) rfl ?_
      exact ⟨a1, c1, onL true U, by rw [hlu], HRB.out, by exact hcp, by rw [hlu]; exact h7, HUB.out.mono (by omega), HFB.out⟩
    case false =>
      clear hcu hch HRD hlu
      go_wp2_with fail
      have HWwB := Lib.hid (show w.heap.size ≤ wB.heap.size from by omega)
      go_loopw [8, 26] (fun v i wr => ∃ (k : Nat) (L : List Int), k ≤ N ∧ i = .int .i64 k ∧ L.length = k ∧ RowI wr wB.heap.size v L ∧ Below wB.heap.size wB wr) (fun _ i _ => N - (intOf i).toNat)
      case atStart => exact ⟨0, [], Nat.zero_le _, rfl, rfl, RowI.nil _ _, Below.refl _ _⟩
      case round =>
        obtain ⟨wE, rfl⟩ : ∃ x : World, x = wr := ⟨_, rfl⟩
        obtain ⟨k, L, hk, rfl, hLk, hrow, hbel⟩ := hrel
        obtain ⟨ad8, cap8, rfl, _⟩ := hrow.shape
        have HLK := Lib.hid hLk
        rw [hLk] at hrow ⊢
        have HR := Lib.hid hrow
        have hsz := hbel.size
        clear hrow hLk
        by_cases hlt : k < N
        case pos =>
          go_wp2_with (at_builtin; refine wpList_appN rfl _ _ rfl wB.heap.size _ 0 1 _ L [(k : Int)] (k + 1) (by rw [HLK.out]; rfl) rfl rfl (RowI.alloc' (show RowI wE _ (.slice ad8 k cap8) L from HR.out)) (rdI_one _ _ _ rfl) (by rw [HLK.out]; omega) (by simp) (by simp; omega) ?_; intro v5 wm hown hsh hbm hgr)
          have hb3 := (bal_alloc (o := .cells #[.int .i64 (k : Int)] 3) hbel).trans hbm
          have HO5 := Lib.hid hown; clear hown hsh hgr hbm
          go_wp2_with fail
          go_roundw
          case rel => exact ⟨k + 1, L ++ [(k : Int)], by omega, by go_num, by rw [List.length_append, HLK.out]; rfl, HO5.out, hb3⟩
          case measure => simp [intOf]; omega
        case neg =>
          obtain rfl : k = N := by omega
          have HUE := Lib.hid (HUB.out.below hbel)
          have HFE := Lib.hid (HFB.out.trans (Chg.of_below (b := c) hbel))
          have hcw : c < wB.heap.size := by have := HWwB.out; omega
          go_wp2_with fail
          go_loopw [8, 9] (fun v8 v9 wr => ∃ (L A : List Int) (R : Nat), L.length + A.length = k ∧ RowI wr R v8 L ∧ RowI wr w.heap.size v9 A ∧ w.heap.size ≤ R ∧ (∀ q, v9.ownBlock = some q → q < R) ∧ R ≤ wr.heap.size ∧ Cur wr c ((n + 2) + 2 * A.length) ∧ Chg c w wr) (fun v8 _ _ => lenV v8)
          case atStart => exact ⟨L, [], wB.heap.size, by rw [HLK.out]; rfl, HR.out, RowI.nil _ _, HWwB.out, (fun q hq => by cases hq), hsz, HUE.out, HFE.out⟩
          case round =>
            obtain ⟨wA, rfl⟩ : ∃ x : World, x = wr := ⟨_, rfl⟩
            clear HUE HFE HR HLK hsz hbel
            obtain ⟨L2, A, R, hLA, hrow, hra, hwR, hqR, hRw, hcu, hch⟩ := hrel
            obtain ⟨ad2, cap2, rfl, _⟩ := hrow.shape
            obtain ⟨ad9, cap9, rfl, hrd9⟩ := hra.shape
            have HU2 := Lib.hid hcu; have HF2 := Lib.hid hch
            have hz2 := hch.size
            clear hcu hch
            by_cases h0 : L2.length = 0
            case pos =>
              have hAN : A.length = k := by omega
              have HAN := Lib.hid hAN
              rw [hAN] at hra HU2 ⊢
              rw [h0]
              have hcp9 := hra.capA
              rw [hAN] at hcp9
              have HRA := Lib.hid hra; have HRD9 := Lib.hid hrd9
              clear hrow hra hrd9 hLA hAN h0 hlt
              by_cases hk0 : k = 0
              case pos =>
                subst hk0
                go_wp2_with fail
                refine bodyPost_ret (v := .slice ad9 0 cap9) (by simp [results, Try.results39, go_sem]) rfl ?_
                exact ⟨ad9, cap9, A, by rw [HAN.out], HRD9.out, by rw [HAN.out]; exact hcp9, by rw [HAN.out]; exact h7, HU2.out.mono (by omega), HF2.out⟩
              case neg =>
                go_wp2_with fail
                refine (one_c 12 c ((n + 2) + 2 * k) wA HU2.out (by omega)).mono ?_
                rintro e w5 ⟨b5, rfl, hcu, hch⟩
                have HU5 := Lib.hid hcu; have HF5 := Lib.hid (HF2.out.trans hch)
                have hra5 := row_chg HRA.out hch hcl
                have HRA5 := Lib.hid hra5
                have hz5 := hch.size
                clear hcu hch
                cases b5
                case false =>
                  have hrd5 : RdI w5 ad9 A := CellO.rd (B := w.heap.size) (n := k) (cap := cap9) (CellO.of_row hra5)
                  have HRD5 := Lib.hid hrd5
                  clear hra5 hrd5
                  go_wp2_with fail
                  refine bodyPost_ret (v := .slice ad9 k cap9) (by simp [results, Try.results39, go_sem]) rfl ?_
                  exact ⟨ad9, cap9, A, by rw [HAN.out], HRD5.out, by rw [HAN.out]; exact hcp9, by rw [HAN.out]; exact h7, HU5.out.mono (by omega), HF5.out⟩
                case true =>
                  obtain ⟨g, capg, eg, hBg⟩ := RowI.own (w := w5) (B := w.heap.size) (v := .slice ad9 k cap9) (xs := A) hra5 (by rw [HAN.out]; omega)
                  rw [HAN.out] at eg
                  injection eg with eg q1 q2
                  subst eg
                  clear q1 q2 hra5
                  have HOG := Lib.hid (row_ownI (B := w.heap.size) (n := k) (cap := cap9) (xs := A) HRA5.out)
                  go_wp2_with fail
                  refine (pick_c (k : Int) c ((n + 2) + 2 * k + 2) w5 HU5.out (by omega)).mono ?_
                  rintro e w6 ⟨x, rfl, hx, hcu, hch⟩
                  obtain ⟨j, rfl⟩ : ∃ j : Nat, x = (j : Int) := ⟨x.toNat, by omega⟩
                  have hjk : j < k := by omega
                  have HU6 := Lib.hid hcu; have HF6 := Lib.hid (HF5.out.trans hch)
                  have HO6 := Lib.hid (HOG.out.chg hch (by omega))
                  have hz6 := hch.size
                  have hgl := HO6.out.lt
                  clear hcu hch hx
                  have HA6 := Lib.hid (HU6.out.below ((Below.refl _ _).alloc (Nat.le_refl _) (.cells #[.int .i64 0, .int .i64 (k : Int), .int .i64 (-1)] 3)))
                  have HN6 := Lib.hid (Own.newA w6 #[.int .i64 0, .int .i64 (k : Int), .int .i64 (-1)] 3 rfl)
                  go_wp2_with fail
                  refine (among_c w6.heap.size 3 [0, (k : Int), -1] c ((n + 2) + 2 * k + 2 + 2) _ HA6.out (by omega) (by simp) (by simp) (by omega) HN6.out).mono ?_
                  rintro e w7 ⟨z, rfl, _, hcu, hch⟩
                  have hch7 := (Chg.alloc c w6 (.cells #[.int .i64 0, .int .i64 (k : Int), .int .i64 (-1)] 3)).trans hch
                  have HU7 := Lib.hid hcu; have HF7 := Lib.hid (HF6.out.trans hch7)
                  have ho7 := HO6.out.chg hch7 (by omega)
                  have m7 := ho7.cell? (i := j) (ints_get (by rw [HAN.out]; exact hjk))
                  have f7 := ho7.frozen j
                  have HO7 := Lib.hid ho7
                  generalize A.getD j 0 = Y at m7
                  have x1 : (0 : Int) ≤ (j : Int) := by omega
                  have x2 : (j : Int) < (k : Int) := by omega
                  clear hcu hch hch7 ho7
                  go_wp2_with fail
                  refine bodyPost_ret (v := .slice (some ⟨g, 0, none⟩) k cap9) (by simp [results, Try.results39, go_sem]) rfl ?_
                  exact asn_end hcl h7 hBg HAN.out hcp9 HU7.out HF7.out HO7.out (by omega)
            case neg =>
              obtain ⟨q, hq⟩ : ∃ q, L2.length = q := ⟨_, rfl⟩
              obtain ⟨g, cg, eg, hBg⟩ := hrow.own (by omega)
              injection eg with eg e1 e2
              subst eg
              clear e1
              have hcg := hrow.capA
              have hog := row_ownI (B := R) (n := L2.length) (cap := cap2) (xs := L2) hrow
              have HQ := Lib.hid hq
              rw [hq] at hcg h0 hLA ⊢
              clear e2
              have HOG := Lib.hid hog
              obtain ⟨p, hp⟩ : ∃ p, A.length = p := ⟨_, rfl⟩
              rw [hp] at hra HU2 hLA hqR ⊢
              have HP := Lib.hid hp
              have HRA := Lib.hid hra
              clear hog hrow hq hp hra hrd9 hlt
              go_wp2_with fail
              refine (pick_c (q : Int) c ((n + 2) + 2 * p) wA HU2.out (by omega)).mono ?_
              rintro e w5 ⟨x, rfl, hx, hcu, hch⟩
              obtain ⟨j, rfl⟩ : ∃ j : Nat, x = (j : Int) := ⟨x.toNat, by omega⟩
              have hjq : j < q := by omega
              have HU5 := Lib.hid hcu; have HF5 := Lib.hid (HF2.out.trans hch)
              have HRA5 := Lib.hid (row_chg HRA.out hch hcl)
              have ho5 := HOG.out.chg hch (by omega)
              have HO5 := Lib.hid ho5
              have hz5 := hch.size
              have k5 := ho5.cell? (i := j) (ints_get (by rw [HQ.out]; exact hjq))
              generalize L2.getD j 0 = Y at k5
              have x1 : (0 : Int) ≤ (j : Int) := by omega
              have x2 : (j : Int) < (q : Int) := by omega
              clear hcu hch hx ho5
              go_wp2_with (at_builtin; refine wpList_appN rfl _ _ rfl w.heap.size w5.heap.size 0 1 (.slice ad9 p cap9) A [Y] (p + 1) (by rw [HP.out]; rfl) rfl rfl (RowI.alloc' (show RowI w5 _ (.slice ad9 p cap9) A from HRA5.out)) (rdI_one _ _ _ rfl) (by rw [HP.out]; omega) (by simp) (by simp; omega) ?_; intro v5 wm hown hsh hbm hgr)
              have how := (HO5.out.alloc (.cells #[.int .i64 Y] 3)).grown hgr (fun e => by have := hqR g e; omega)
              have hb5 : Below w.heap.size w5 wm := ((Below.refl w.heap.size w5).alloc (by omega) (.cells #[.int .i64 Y] 3)).trans hbm
              have HUM := Lib.hid (HU5.out.under hb5 hcl)
              have hzm := hb5.size
              have HFM := Lib.hid (HF5.out.under hb5 (Nat.le_refl _) hzm)
              have HRM := Lib.hid hown
              obtain ⟨g9, cp9, rfl, _⟩ := hsh (by omega)
              have hgm : g9 < wm.heap.size := (World.ownsRow.lt hown g9 rfl).2
              obtain ⟨off2, cpt, htl, hrdt⟩ := cutA_tail (b := g) (c := j) HQ.out hjq hcg
              have hhd := cutA_head (b := g) (c := j) hjq hcg
              have HOW := Lib.hid (ownA_c (cap2 := cpt) HQ.out hjq hcg (by omega) how hrdt)
              have HTK := Lib.hid (show (L2.take j).length = j by rw [List.length_take, HQ.out]; omega)
              have HDK := Lib.hid (show (L2.drop (j + 1)).length = q - (j + 1) by rw [List.length_drop, HQ.out])
              have ej : IntKind.i64.wrap ((j : Int) + 1) = (j : Int) + 1 := i64_small (by omega) (by omega)
              clear hown hsh hgr hbm how hrdt
              go_wp2_with fail
              go_region_law (first
                | (go_simp; go_at_call 68; (refine (HOW.out _ (by repeat (first | exact Below.refl _ _ | apply Below.drew))).mono ?_); rintro e W1 ⟨v1, rfl, hr1, hx1, hb1'⟩; have HR1 := Lib.hid hr1; have HX1 := Lib.hid hx1; have HB1 := Lib.hid hb1'; have hzW := hb1'.size; clear hr1 hx1 hb1')
                | (refine step_appI (by rfl) _ _ (by rfl) wm.heap.size v1 (.slice (some ⟨g, off2, none⟩) (q - (j + 1)) cpt) (L2.take j) (L2.drop (j + 1)) (by rfl) (by rfl) HR1.out HX1.out (by rw [HTK.out]; omega) (by rw [HDK.out]; omega) hzW ?_; intro v6 w6 hown6 hbm6 hgr6)
                | fail)
              all_goals
                obtain ⟨Q, hQ⟩ : ∃ Q, L2.take j ++ L2.drop (j + 1) = Q := ⟨_, rfl⟩
                have hQl : Q.length = q - 1 := by rw [← hQ, List.length_append, HTK.out, HDK.out]; omega
                rw [hQ] at hown6
                obtain ⟨a6, c6, rfl, _⟩ := hown6.shape
                rw [hQl] at hown6 ⊢
                have HR6 := Lib.hid hown6; have HQL := Lib.hid hQl
                have hb6 := HB1.out.trans hbm6
                have hz6 := hb6.size
                have HU6 := Lib.hid (HUM.out.below hb6); have HF6 := Lib.hid (HFM.out.trans (Chg.of_below (b := c) hb6))
                have HRM6 := Lib.hid (HRM.out.below hb6)
                clear hown6 hbm6 hgr6 hQl hQ hb6
                go_simp
                go_wp2_with fail
                go_roundw
                case rel => exact ⟨Q, A ++ [Y], wm.heap.size, by rw [List.length_append, HP.out, HQL.out]; simp; omega, HR6.out, HRM6.out, by omega, (fun q hq => by cases hq; exact hgm), hz6, by rw [List.length_append, HP.out]; exact HU6.out.mono (by simp; omega), HF6.out⟩
                case measure => simp [lenV]; omega
end Go.Proofs.Ytjlkgioinogbkaa
