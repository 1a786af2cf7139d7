/-
  The draws of ranked matrices, of matrices of rank one and of vectors. Printed by gen_rkV.py. By an AI agent.
-/
import Derived.Test.YtnbenpalneodlaaRkU
import Derived.Test.YtnbenpalneodlaaWyV
import Derived.Test.YtnbenpalneodlaaOpen
import Derived.Deep.DeepCutAuto
namespace Go.Proofs.Ytnbenpalneodlaa
open Go.RowKit

def bdN (k : Nat) (xs : List Int) : Prop := ∀ i, i < xs.length → -(1000000000 + 10 * (k : Int)) ≤ xs.getD i 0 ∧ xs.getD i 0 ≤ 1000000000 + 10 * (k : Int)
def rkd (k C : Nat) (M : List (List Int)) : Prop := M.length = k ∧ ∀ i, i < k → (M.getD i []).length = C ∧ bdN k (M.getD i [])
theorem bdN_mono {k : Nat} {xs : List Int} (h : bdN k xs) : bdN (k + 1) xs := fun i hi => by have := h i hi; omega
theorem rkd_snoc {k C : Nat} {M : List (List Int)} {xs : List Int} (h : rkd k C M) (hl : xs.length = C) (hb : bdN (k + 1) xs) : rkd (k + 1) C (M ++ [xs]) := by
  refine ⟨by rw [List.length_append, h.1]; rfl, fun i hi => ?_⟩
  by_cases e : i < k
  · rw [List.getD_eq_getElem?_getD, List.getElem?_append_left (by rw [h.1]; exact e), ← List.getD_eq_getElem?_getD]
    exact ⟨(h.2 i e).1, bdN_mono (h.2 i e).2⟩
  · obtain rfl : i = k := by omega
    have : (M ++ [xs]).getD i [] = xs := by rw [← h.1]; simp [List.getD_eq_getElem?_getD]
    rw [this]
    exact ⟨hl, hb⟩
theorem bdN_snoc {k : Nat} {xs : List Int} {x : Int} (h : bdN k xs) (hx : -(1000000000 + 10 * (k : Int)) ≤ x ∧ x ≤ 1000000000 + 10 * (k : Int)) : bdN k (xs ++ [x]) := by
  intro i hi
  rw [List.length_append, List.length_singleton] at hi
  by_cases e : i < xs.length
  · rw [List.getD_eq_getElem?_getD, List.getElem?_append_left e, ← List.getD_eq_getElem?_getD]
    exact h i e
  · obtain rfl : i = xs.length := by omega
    simp only [List.getD_eq_getElem?_getD, List.getElem?_concat_length, Option.getD_some]
    exact hx
def sm7 (M : List (List Int)) : Prop := M.length ≤ 7 ∧ ∀ i, i < M.length → (M.getD i []).length ≤ 7
theorem sm7_smM {M : List (List Int)} (h : sm7 M) : smM M := ⟨by have := h.1; omega, fun i hi => by have := h.2 i hi; omega⟩
def RnD (c : Nat) (w : World) (e : Ending) (w' : World) : Prop := ∃ ad cap M, e = .returned (.slice ad (List.length M) cap) ∧ sm7 M ∧ RdM w' ad M ∧ Chg c w w'
def MatR (w : World) (e : Ending) (w' : World) : Prop := ∃ ad cap M, e = .returned (.slice ad (List.length M) cap) ∧ sm7 M ∧ RdM w' ad M ∧ Below w.heap.size w w'

set_option maxHeartbeats 12800000 in
set_option maxRecDepth 100000 in
theorem ranked_c (c n : Nat) (w : World) (h : Cur w c n) (hn : n ≤ 4611686018427330000) :
    Calls Try.prog 34 #[.pointer (some ⟨c, 0, none⟩)] w (RnD c w) := by
  have hcl := h.lt
  have H := Lib.hid h; clear h
  go_enter Try.func34, Try.ntmps34
  go_wp2_with fail
  refine (pick_c 4 c n w H.out (by omega)).mono ?_
  rintro e w1 ⟨x, rfl, hx, hcu, hch⟩
  obtain ⟨R, hR⟩ : ∃ R : Nat, 1 + x = (R : Int) := ⟨(1 + x).toNat, by omega⟩
  have e1 : IntKind.i64.wrap (1 + x) = (R : Int) := by rw [i64_small (by omega) (by omega)]; exact hR
  have hR4 : 1 ≤ R ∧ R ≤ 4 := by omega
  have HU := Lib.hid hcu; have HF0 := Lib.hid hch
  clear hcu hch hx hR
  go_wp2_with fail
  refine (pick_c 4 c (n + 2) w1 HU.out (by omega)).mono ?_
  rintro e w2 ⟨y, rfl, hy, hcu, hch⟩
  obtain ⟨C0, hC0⟩ : ∃ R : Nat, 1 + y = (R : Int) := ⟨(1 + y).toNat, by omega⟩
  have e2 : IntKind.i64.wrap (1 + y) = (C0 : Int) := by rw [i64_small (by omega) (by omega)]; exact hC0
  have hC4 : 1 ≤ C0 ∧ C0 ≤ 4 := by omega
  have HU1 := Lib.hid hcu; have HF1 := Lib.hid (HF0.out.trans hch)
  clear hcu hch hy hC0
  go_wp2_with fail
  refine (one_c 2 c (n + 2 + 2) w2 HU1.out (by omega)).mono ?_
  rintro e w3 ⟨bb, rfl, hcu, hch⟩
  have HU3 := Lib.hid hcu; have HF3 := Lib.hid (HF1.out.trans hch)
  clear hcu hch HU HU1 HF0 HF1 H
  go_upto_if 19 with fail
  go_cut [4] from 19 to 20 (fun s wc => (∃ C : Nat, (1 ≤ C ∧ C ≤ 4) ∧ s = .int .i64 C) ∧ w3 = wc)
  case first =>
    cases bb
    · go_wp2_with fail
      go_meet
      exact ⟨⟨C0, hC4, rfl⟩, rfl⟩
    · go_wp2_with fail
      go_meet
      exact ⟨⟨R, hR4, rfl⟩, rfl⟩
  case rest =>
    obtain ⟨⟨C, hC, rfl⟩, rfl⟩ := hcut
    clear e1 e2 hC4
    go_wp2_with fail
    go_loopw [5, 6] (fun v i wr => ∃ (k : Nat) (M : List (List Int)) (vs : List Value), k ≤ R ∧ i = .int .i64 k ∧ rkd k C M ∧ MatO wr w.heap.size v M vs ∧ Cur wr c (n + 6 + 200 * k) ∧ Chg c w wr) (fun _ i _ => R - (intOf i).toNat)
    case atStart => exact ⟨0, [], [], Nat.zero_le _, rfl, ⟨rfl, fun i hi => absurd hi (Nat.not_lt_zero _)⟩, MatO.nil _ _, HU3.out.mono (by omega), HF3.out⟩
    case round =>
      obtain ⟨wE, rfl⟩ : ∃ x : World, x = wr := ⟨_, rfl⟩
      obtain ⟨k, M, vs, hk, rfl, hsh, hmat, hcu, hch⟩ := hrel
      obtain ⟨adv, cav, rfl, _⟩ := hmat.shape
      have hsz := hch.size
      rw [hsh.1] at hmat ⊢
      have HSH := Lib.hid hsh; have HM := Lib.hid hmat; have HU := Lib.hid hcu; have HF := Lib.hid hch
      clear hsh hmat hcu hch
      by_cases hlt : k < R
      case neg =>
        obtain rfl : k = R := by omega
        go_wp2_with fail
        refine (one_c 20 c (n + 6 + 200 * k) wE HU.out (by omega)).mono ?_
        rintro e w5 ⟨b5, rfl, hcu, hch⟩
        have HU5 := Lib.hid hcu; have HF5 := Lib.hid (HF.out.trans hch)
        have HM5 := Lib.hid (HM.out.chg hch hcl).rd
        clear hcu hch
        cases b5
        · go_wp2_with fail
          go_ret
          exact ⟨adv, cav, M, by rw [HSH.out.1]; rfl, ⟨by rw [HSH.out.1]; omega, fun i hi => by rw [HSH.out.1] at hi; rw [(HSH.out.2 i hi).1]; omega⟩, HM5.out, HF5.out⟩
        · go_wp2_with fail
          refine (anyMatrix_c c (n + 6 + 200 * k + 2) w5 HU5.out (by omega)).mono ?_
          rintro e w6 ⟨ad6, cap6, M6, vs6, rfl, hsm, hmat6, hcu, hch⟩
          have HM6 := Lib.hid hmat6.rd; have HF6 := Lib.hid (HF5.out.trans hch); have HS6 := Lib.hid (show sm7 M6 from hsm)
          clear hmat6 hcu hch hsm
          go_wp2_with fail
          go_ret
          exact ⟨ad6, cap6, M6, rfl, HS6.out, HM6.out, HF6.out⟩
      case pos =>
        go_wp2_with fail
        go_loopw [7, 8] (fun v i wr => ∃ (j : Nat) (xs : List Int), j ≤ C ∧ i = .int .i64 j ∧ xs.length = j ∧ bdN (k + 1) xs ∧ RowI wr wE.heap.size v xs ∧ Cur wr c (n + 6 + 200 * k + 20 * j) ∧ Chg c wE wr) (fun _ i _ => C - (intOf i).toNat)
        case atStart => exact ⟨0, [], Nat.zero_le _, rfl, rfl, (fun i hi => by simp at hi), RowI.nil _ _, HU.out, Chg.refl _ _⟩
        case round =>
          obtain ⟨wI, rfl⟩ : ∃ x : World, x = wr := ⟨_, rfl⟩
          obtain ⟨j, xs, hj, rfl, hxl, hbx, hrow, hcu, hch⟩ := hrel
          obtain ⟨adr, car, rfl, _⟩ := hrow.shape
          rw [hxl] at hrow ⊢
          have hsz2 := hch.size
          have HR := Lib.hid hrow; have HU2 := Lib.hid hcu; have HF2 := Lib.hid hch; have HXL := Lib.hid hxl; have HBX := Lib.hid hbx
          clear hrow hcu hch hxl hbx
          by_cases hlj : j < C
          case pos =>
            go_wp2_with fail
            refine (small_c c (n + 6 + 200 * k + 20 * j) wI HU2.out (by omega)).mono ?_
            rintro e wq1 ⟨s1, rfl, hs1, hcu, hch⟩
            have HUq1 := Lib.hid hcu
            have HFq1 := Lib.hid (hch)
            clear hcu hch
            go_wp2_with fail
            refine (small_c c (n + 6 + 200 * k + 20 * j + 2) wq1 HUq1.out (by omega)).mono ?_
            rintro e wq2 ⟨s2, rfl, hs2, hcu, hch⟩
            have HUq2 := Lib.hid hcu
            have HFq2 := Lib.hid (HFq1.out.trans hch)
            clear hcu hch
            go_wp2_with fail
            refine (small_c c (n + 6 + 200 * k + 20 * j + 2 + 2) wq2 HUq2.out (by omega)).mono ?_
            rintro e wq3 ⟨s3, rfl, hs3, hcu, hch⟩
            have HUq3 := Lib.hid hcu
            have HFq3 := Lib.hid (HFq2.out.trans hch)
            clear hcu hch
            go_wp2_with fail
            refine (small_c c (n + 6 + 200 * k + 20 * j + 2 + 2 + 2) wq3 HUq3.out (by omega)).mono ?_
            rintro e wq4 ⟨s4, rfl, hs4, hcu, hch⟩
            have HUq4 := Lib.hid hcu
            have HFq4 := Lib.hid (HFq3.out.trans hch)
            clear hcu hch
            go_wp2_with fail
            refine (small_c c (n + 6 + 200 * k + 20 * j + 2 + 2 + 2 + 2) wq4 HUq4.out (by omega)).mono ?_
            rintro e wq5 ⟨s5, rfl, hs5, hcu, hch⟩
            have HUq5 := Lib.hid hcu
            have HFq5 := Lib.hid (HFq4.out.trans hch)
            clear hcu hch
            have hoA := Own.newA wq5 #[.int .i64 s1, .int .i64 s2, .int .i64 s3, .int .i64 s4, .int .i64 s5, .int .i64 1000000000] 3 rfl
            have HOA := Lib.hid (show Own _ wq5.heap.size 3 (ints [s1, s2, s3, s4, s5, 1000000000]) from hoA)
            have hba := bal_alloc (o := .cells #[.int .i64 s1, .int .i64 s2, .int .i64 s3, .int .i64 s4, .int .i64 s5, .int .i64 1000000000] 3) (Below.refl wq5.heap.size wq5)
            have HUA := Lib.hid (HUq5.out.below hba)
            have HFA := Lib.hid (HFq5.out.trans (Chg.of_below (b := c) hba))
            have hcq : c < wq5.heap.size := HUq5.out.lt
            clear hoA hba
            go_wp2_with fail
            refine (among_c wq5.heap.size 6 [s1, s2, s3, s4, s5, 1000000000] c (n + 6 + 200 * k + 20 * j + 2 + 2 + 2 + 2 + 2) _ HUA.out (by omega) (by simp) (by simp) (by omega) HOA.out).mono ?_
            rintro e w3' ⟨z, rfl, hz, hcu, hch⟩
            have hzb : -(1000000000 + 10 * ((k + 1 : Nat) : Int)) ≤ z ∧ z ≤ 1000000000 + 10 * ((k + 1 : Nat) : Int) := by
              simp only [List.mem_cons, List.not_mem_nil, or_false] at hz
              omega
            have HFz := Lib.hid (HFA.out.trans hch)
            have HR3 := Lib.hid (row_chg HR.out HFz.out (by omega))
            have HU3 := Lib.hid hcu
            have HF3 := Lib.hid (HF2.out.trans HFz.out)
            have hsz3 := HFz.out.size
            have HBZ := Lib.hid (bdN_snoc HBX.out hzb)
            clear hcu hch hz hzb hs1 hs2 hs3 hs4 hs5
            go_wp2_with (at_builtin; refine wpList_appN rfl _ _ rfl wE.heap.size _ 0 1 (.slice adr j car) xs [z] (j + 1) (by rw [HXL.out]; rfl) rfl rfl (RowI.alloc' (show RowI w3' _ (.slice adr j car) xs from HR3.out)) (rdI_one _ _ _ rfl) (by rw [HXL.out]; omega) (by simp) (by simp; omega) ?_; intro v5 wm hown hsh hbm hgr)
            have hb9 : Below wE.heap.size w3' wm := ((Below.refl wE.heap.size w3').alloc (by omega) (.cells #[.int .i64 z] 3)).trans hbm
            have hsz5 : w3'.heap.size ≤ wm.heap.size := by have := hgr.size; simp at this; omega
            have HR5 := Lib.hid hown
            have HU5 := Lib.hid (HU3.out.under hb9 (by omega))
            have HF5 := Lib.hid (HF3.out.under hb9 (Nat.le_refl _) hsz5)
            clear hown hsh hbm hgr hb9
            go_wp2_with fail
            go_roundw
            case rel => exact ⟨j + 1, xs ++ [z], by omega, by go_num, by rw [List.length_append, HXL.out]; rfl, HBZ.out, HR5.out, HU5.out.mono (by omega), HF5.out⟩
            case measure => simp [intOf]; omega
          case neg =>
            obtain rfl : j = C := by omega
            by_cases hk0 : k = 0
            case pos =>
              have g0 : decide ((0 : Int) < (k : Int)) = false := decide_eq_false (by omega)
              have g1 : ¬ (0 : Int) < (k : Int) := by omega
              have HM2 := Lib.hid (HM.out.chg HF2.out hcl)
              have HLOW := Lib.hid HM.out.low
              have HX := Lib.hid (CellO.of_row (RowI.low (show RowI wI wE.heap.size (.slice adr j car) xs from HR.out) hsz))
              have HBK := Lib.hid (RowI.blk (show RowI wI wE.heap.size (.slice adr j car) xs from HR.out))
              have hszW := HF2.out.size
              go_wp2_with (at_builtin; refine wpList_appG rfl _ _ rfl w.heap.size wE.heap.size wI.heap.size _ (.slice adr j car) M vs xs (k + 1) (by rw [HSH.out.1]) rfl rfl (by simp [go_sem]) (HM2.out.below ((Below.refl _ _).alloc (Nat.le_refl _) _)) (HX.out.below ((Below.refl _ _).alloc (Nat.le_refl _) _)) HBK.out HLOW.out (by have := HSH.out.1; omega) (by simp; omega) ?_; intro ad5 cap5 wm hmat5 hbm hgz)
              have hb9 : Below w.heap.size wI wm := ((Below.refl w.heap.size wI).alloc (by omega) (.cells #[.slice adr j car] 23)).trans hbm
              have hsz5 : wI.heap.size ≤ wm.heap.size := by simp at hgz; omega
              have HM5 := Lib.hid hmat5
              have HU5 := Lib.hid (HU2.out.under hb9 (by omega))
              have HF5 := Lib.hid ((HF.out.trans HF2.out).under hb9 (Nat.le_refl _) hsz5)
              have HSH5 := Lib.hid (rkd_snoc HSH.out HXL.out HBX.out)
              clear hmat5 hbm hb9
              go_wp2_with fail
              go_roundw
              case rel => subst hk0; exact ⟨0 + 1, _, _, by omega, by go_num, HSH5.out, HM5.out, HU5.out.mono (by omega), HF5.out⟩
              case measure => simp [intOf]; omega
            case neg =>
              have g0 : decide ((0 : Int) < (k : Int)) = true := decide_eq_true (by omega)
              have g1 : (0 : Int) < (k : Int) := by omega
              go_wp2_with fail
              refine (one_c 3 c (n + 6 + 200 * k + 20 * j) wI HU2.out (by omega)).mono ?_
              rintro e wB ⟨b3, rfl, hcu, hch⟩
              have HUB := Lib.hid hcu; have HFB := Lib.hid (HF2.out.trans hch)
              have HRB := Lib.hid (row_chg HR.out hch (by omega))
              clear hcu hch
              cases b3
              case false =>
                have HM2 := Lib.hid (HM.out.chg HFB.out hcl)
                have HLOW := Lib.hid HM.out.low
                have HX := Lib.hid (CellO.of_row (RowI.low (show RowI wB wE.heap.size (.slice adr j car) xs from HRB.out) hsz))
                have HBK := Lib.hid (RowI.blk (show RowI wB wE.heap.size (.slice adr j car) xs from HRB.out))
                have hszW := HFB.out.size
                go_wp2_with (at_builtin; refine wpList_appG rfl _ _ rfl w.heap.size wE.heap.size wB.heap.size _ (.slice adr j car) M vs xs (k + 1) (by rw [HSH.out.1]) rfl rfl (by simp [go_sem]) (HM2.out.below ((Below.refl _ _).alloc (Nat.le_refl _) _)) (HX.out.below ((Below.refl _ _).alloc (Nat.le_refl _) _)) HBK.out HLOW.out (by have := HSH.out.1; omega) (by simp; omega) ?_; intro ad5 cap5 wm hmat5 hbm hgz)
                have hb9 : Below w.heap.size wB wm := ((Below.refl w.heap.size wB).alloc (by omega) (.cells #[.slice adr j car] 23)).trans hbm
                have hsz5 : wB.heap.size ≤ wm.heap.size := by simp at hgz; omega
                have HM5 := Lib.hid hmat5
                have HU5 := Lib.hid (HUB.out.under hb9 (by omega))
                have HF5 := Lib.hid ((HF.out.trans HFB.out).under hb9 (Nat.le_refl _) hsz5)
                have HSH5 := Lib.hid (rkd_snoc HSH.out HXL.out HBX.out)
                clear hmat5 hbm hb9
                go_wp2_with fail
                go_roundw
                case rel => exact ⟨k + 1, _, _, by omega, by go_num, HSH5.out, HM5.out, HU5.out.mono (by omega), HF5.out⟩
                case measure => simp [intOf]; omega
              case true =>
                go_wp2_with fail
                refine (pick_c 4 c (n + 6 + 200 * k + 20 * j + 2) wB HUB.out (by omega)).mono ?_
                rintro e wC ⟨by', rfl, hby, hcu, hch⟩
                have HUC := Lib.hid hcu; have HFC := Lib.hid (HFB.out.trans hch)
                clear hcu hch HRB HR
                have hmC := (HM.out.chg HFC.out hcl).rd
                obtain ⟨q, hq⟩ : ∃ q, k = q + 1 := ⟨k - 1, by omega⟩
                obtain ⟨bM, oM, a0, c0, rfl, hbM, e0, hr0⟩ := hmC q (by rw [HSH.out.1]; omega)
                have hrl := (HSH.out.2 q (by omega)).1
                have hrb := (HSH.out.2 q (by omega)).2
                generalize M.getD q [] = r at e0 hr0 hrl hrb
                rw [hrl] at e0
                have eq1 : IntKind.i64.wrap ((k : Int) - 1) = (q : Int) := by rw [i64_small (by omega) (by omega)]; omega
                have z1 : (0 : Int) ≤ (q : Int) := by omega
                have z2 : (q : Int) < (k : Int) := by omega
                have HRr := Lib.hid hr0; have HRL := Lib.hid hrl; have HRB2 := Lib.hid hrb
                have hszC := HFC.out.size
                clear hmC hr0 hrl hrb hq
                go_wp2_with fail
                go_loopw [7, 61] (fun v i wr => ∃ (t : Nat) (ys : List Int), t ≤ j ∧ i = .int .i64 t ∧ ys.length = t ∧ bdN (k + 1) ys ∧ RowI wr wC.heap.size v ys ∧ Below wC.heap.size wC wr) (fun _ i _ => j - (intOf i).toNat)
                case atStart => exact ⟨0, [], Nat.zero_le _, rfl, rfl, (fun i hi => by simp at hi), RowI.nil _ _, Below.refl _ _⟩
                case round =>
                  obtain ⟨wD, rfl⟩ : ∃ x : World, x = wr := ⟨_, rfl⟩
                  obtain ⟨t, ys, ht, rfl, hyl, hby2, hrow, hbD⟩ := hrel
                  obtain ⟨ady, cay, rfl, _⟩ := hrow.shape
                  rw [hyl] at hrow ⊢
                  have HRY := Lib.hid hrow; have HYL := Lib.hid hyl; have HBY := Lib.hid hby2
                  have hszD := hbD.size
                  clear hrow hyl hby2
                  by_cases htl : t < j
                  case pos =>
                    obtain ⟨b7, o7, rfl, hb7, c7⟩ := HRr.out t (by rw [HRL.out]; exact htl)
                    have c7 := bcell hbD hb7 c7
                    have hX := HRB2.out t (by rw [HRL.out]; exact htl)
                    generalize r.getD t 0 = X at c7 hX
                    have CP := Lib.hid (fun w => nuPlus_c X by' w (by omega))
                    have hpz : -(1000000000 + 10 * ((k + 1 : Nat) : Int)) ≤ prodZ X by' ∧ prodZ X by' ≤ 1000000000 + 10 * ((k + 1 : Nat) : Int) := by
                      unfold prodZ
                      split <;> omega
                    generalize prodZ X by' = Z at CP hpz
                    have HBZ := Lib.hid (bdN_snoc HBY.out hpz)
                    have y1 : (0 : Int) ≤ (t : Int) := by omega
                    have y2 : (t : Int) < (j : Int) := by omega
                    clear hX hpz e0
                    go_wp2_with fail
                    refine (CP.out _).mono ?_
                    rintro e w' ⟨rfl, rfl⟩
                    go_wp2_with (at_builtin; refine wpList_appN rfl _ _ rfl wC.heap.size _ 0 1 (.slice ady t cay) ys [Z] (t + 1) (by rw [HYL.out]; rfl) rfl rfl (RowI.alloc' (show RowI wD _ (.slice ady t cay) ys from HRY.out)) (rdI_one _ _ _ rfl) (by rw [HYL.out]; omega) (by simp) (by simp; omega) ?_; intro v5 wm hown hsh hbm hgr)
                    have hb3 := (bal_alloc (o := .cells #[.int .i64 Z] 3) hbD).trans hbm
                    have HO5 := Lib.hid hown
                    clear hown hsh hgr hbm
                    go_wp2_with fail
                    go_roundw
                    case rel => exact ⟨t + 1, ys ++ [Z], by omega, by go_num, by rw [List.length_append, HYL.out]; rfl, HBZ.out, HO5.out, hb3⟩
                    case measure => simp [intOf]; omega
                  case neg =>
                    obtain rfl : t = j := by omega
                    have HUD := Lib.hid (HUC.out.below hbD)
                    have HFD := Lib.hid (HFC.out.trans (Chg.of_below (b := c) hbD))
                    have HRD := Lib.hid (show RowI wD wE.heap.size (.slice ady t cay) ys from RowI.low HRY.out hszC)
                    clear e0
                    have HM2 := Lib.hid (HM.out.chg HFD.out hcl)
                    have HLOW := Lib.hid HM.out.low
                    have HX := Lib.hid (CellO.of_row (RowI.low (show RowI wD wE.heap.size (.slice ady t cay) ys from HRD.out) hsz))
                    have HBK := Lib.hid (RowI.blk (show RowI wD wE.heap.size (.slice ady t cay) ys from HRD.out))
                    have hszW := HFD.out.size
                    go_wp2_with (at_builtin; refine wpList_appG rfl _ _ rfl w.heap.size wE.heap.size wD.heap.size _ (.slice ady t cay) M vs ys (k + 1) (by rw [HSH.out.1]) rfl rfl (by simp [go_sem]) (HM2.out.below ((Below.refl _ _).alloc (Nat.le_refl _) _)) (HX.out.below ((Below.refl _ _).alloc (Nat.le_refl _) _)) HBK.out HLOW.out (by have := HSH.out.1; omega) (by simp; omega) ?_; intro ad5 cap5 wm hmat5 hbm hgz)
                    have hb9 : Below w.heap.size wD wm := ((Below.refl w.heap.size wD).alloc (by omega) (.cells #[.slice ady t cay] 23)).trans hbm
                    have hsz5 : wD.heap.size ≤ wm.heap.size := by simp at hgz; omega
                    have HM5 := Lib.hid hmat5
                    have HU5 := Lib.hid (HUD.out.under hb9 (by omega))
                    have HF5 := Lib.hid ((HF.out.trans HFD.out).under hb9 (Nat.le_refl _) hsz5)
                    have HSH5 := Lib.hid (rkd_snoc HSH.out HYL.out HBY.out)
                    clear hmat5 hbm hb9
                    go_wp2_with fail
                    go_roundw
                    case rel => exact ⟨k + 1, _, _, by omega, by go_num, HSH5.out, HM5.out, HU5.out.mono (by omega), HF5.out⟩
                    case measure => simp [intOf]; omega
end Go.Proofs.Ytnbenpalneodlaa
