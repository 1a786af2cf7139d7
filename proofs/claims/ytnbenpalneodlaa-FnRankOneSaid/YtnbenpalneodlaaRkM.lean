/-
  The transposed of any matrix: the program's and the reference's. Printed by gen_rkM.py. By an AI agent.
-/
import Derived.Test.YtnbenpalneodlaaRkL
namespace Go.Proofs.Ytnbenpalneodlaa
open Go.RowKit

theorem TrO.rdG {w : World} {B g C R : Nat} {F : Nat → Nat → Int} {vs : List Value} (h : TrO w B g C (fun i => tab R (F i)) vs) (h0 : 0 < R) : RdM w (some ⟨g, 0, none⟩) (toG C R F) := by
  intro i hi
  rw [toG_len] at hi
  have hrow := h.each i hi
  obtain ⟨gr, cr, e, _⟩ := hrow.shp (by rw [tab_length]; exact h0)
  have hc : w.cell? ⟨g, i, none⟩ = some (vs.getD i undef) := h.out.cell? (by simp [List.getD, h.len, hi])
  rw [e] at hc hrow
  obtain ⟨_, _, e2, hrd⟩ := hrow.shape
  injection e2 with e2 _ _
  subst e2
  exact ⟨g, 0, _, cr, rfl, h.out.lt, by rw [Nat.zero_add, toG_row F hi]; exact hc, by rw [toG_row F hi]; exact hrd⟩
set_option maxHeartbeats 3200000 in
set_option maxRecDepth 100000 in
theorem transposedG_c (R C : Nat) (ad : Option Addr) (cap : Nat) (F : Nat → Nat → Int) (w : World) (hr : RdM w ad (toG R C F)) (hR : 1 ≤ R ∧ R ≤ 6) (hC : 1 ≤ C ∧ C ≤ 6) :
    Calls Try.prog 33 #[.slice ad R cap] w fun e w' => ∃ g, e = .returned (.slice (some ⟨g, 0, none⟩) C C) ∧ (∃ vs, TrO w' w.heap.size g C (fun i => tab R fun j => F j i) vs) ∧ Below w.heap.size w w' := by
  obtain ⟨bM, oM, rfl, hbM, hrowM⟩ := hr.rowG (by omega) (by omega)
  obtain ⟨b0, o0, c0, e0, _, _⟩ := hrowM 0 (by omega)
  rw [Nat.add_zero] at e0
  have HRW := Lib.hid hrowM
  clear hr hrowM
  have hmk := run_makeN (P := Try.prog) 26 23 (.slice none 0 0) 1 24 Try.underlying26 Try.infoM C (by omega) (by omega)
  simp only [Value.cells, Nat.mul_one] at hmk
  have hst := TrO.start w C (madeCells #[.slice none 0 0] C) (toList_madeCells_one _ _)
  have hb0 : Below w.heap.size w (w.alloc (.cells (madeCells #[.slice none 0 0] C) 23)) := (Below.refl _ _).alloc (Nat.le_refl _) _
  have x0 : 0 < R := by omega
  go_enter Try.func33, Try.ntmps33
  go_wp2_with fail
  generalize w.alloc (.cells (madeCells #[.slice none 0 0] C) 23) = w1 at hst hb0 ⊢
  have HST := Lib.hid hst
  clear hst hmk e0
  go_loopw [15] (fun i wr => ∃ (a : Nat) (vs : List Value), a ≤ R ∧ i = .int .i64 a ∧ TrO wr w.heap.size w.heap.size C (trR F a 0) vs ∧ Below w.heap.size w wr) (fun i _ => R - (intOf i).toNat)
  case atStart => exact ⟨0, _, Nat.zero_le _, rfl, HST.out.congr (fun i _ => by unfold trR; rw [if_neg (by omega)]; rfl), hb0⟩
  case round =>
    obtain ⟨wI, rfl⟩ : ∃ x : World, x = wr := ⟨_, rfl⟩
    obtain ⟨a, vs, ha, rfl, htr, hbel⟩ := hrel
    have HT := Lib.hid htr; clear htr HST
    by_cases hla : a < R
    case neg =>
      obtain rfl : a = R := by omega
      have hfin := HT.out.congr (R' := fun i => tab a fun j => F j i) (fun i _ => by unfold trR; rw [if_neg (by omega)])
      have HF := Lib.hid hfin; clear hfin
      go_wp2_with fail
      go_ret
      exact ⟨_, rfl, ⟨_, HF.out⟩, hbel⟩
    case pos =>
      obtain ⟨b2, o2, c2, e2, hl2, hc2⟩ := HRW.out a hla
      have HC2 := Lib.hid hc2
      have e2 := bcell hbel hbM e2
      have x1 : (0 : Int) ≤ (a : Int) := by omega
      have x2 : (a : Int) < (R : Int) := by omega
      clear hc2
      go_wp2_with fail
      go_loopw [21] (fun i wr => ∃ (j : Nat) (vs : List Value), j ≤ C ∧ i = .int .i64 j ∧ TrO wr w.heap.size w.heap.size C (trR F a j) vs ∧ Below w.heap.size w wr) (fun i _ => C - (intOf i).toNat)
      case atStart => exact ⟨0, vs, Nat.zero_le _, rfl, HT.out, hbel⟩
      case round =>
        obtain ⟨wJ, rfl⟩ : ∃ x : World, x = wr := ⟨_, rfl⟩
        obtain ⟨j, us, hj, rfl, htr, hbel2⟩ := hrel
        clear e2
        by_cases hlj : j < C
        case neg =>
          obtain rfl : j = C := by omega
          have HT2 := Lib.hid (htr.congr (R' := trR F (a + 1) 0) (fun i hi => by unfold trR; rw [if_pos hi, if_neg (by omega)]))
          clear htr HT
          go_wp2_with fail
          go_roundw
          case rel => exact ⟨a + 1, us, by omega, by go_num, HT2.out, hbel2⟩
          case measure => simp [intOf]; omega
        case pos =>
          have k1 := bcell hbel2 hl2 (HC2.out j hlj)
          have k2 : wJ.cell? ⟨w.heap.size, j, none⟩ = some (us.getD j undef) := htr.out.cell? (by simp [List.getD, htr.len, hlj])
          have hsz := hbel2.size
          have htr2 := htr.below ((Below.refl _ _).alloc (Nat.le_refl _) (.cells #[.int .i64 (F a j)] 3))
          have HTR := Lib.hid htr2
          have HNX := Lib.hid (fun k => trR_next F a j k)
          have HO := Lib.hid (htr2.each j hlj)
          have hlen : (trR F a j j).length = a := by unfold trR; rw [tab_length, if_neg (by omega)]
          have HK := Lib.hid (show ∀ wm, (wJ.alloc (.cells #[.int .i64 (F a j)] 3)).grownBy wm (us.getD j undef).ownBlock → wm.cell? ⟨w.heap.size, j, none⟩ = some (us.getD j undef) ∧ wm.frozen? ⟨w.heap.size, j, none⟩ = false from fun wm hg => by
            have ho := htr2.out.grown hg (row_ne_ty (htr2.each j hlj) htr2.out (by decide))
            exact ⟨ho.cell? (by simp [List.getD, htr.len, hlj]), ho.frozen j⟩)
          have x3 : (0 : Int) ≤ (j : Int) := by omega
          have x4 : (j : Int) < (C : Int) := by omega
          have hgB : w.heap.size ≤ w.heap.size := Nat.le_refl _
          clear htr htr2 HT
          obtain ⟨X, hX⟩ : ∃ X, F a j = X := ⟨_, rfl⟩
          obtain ⟨u0, hu0⟩ : ∃ u0, us.getD j undef = u0 := ⟨_, rfl⟩
          rw [hX] at k1 HTR HNX HK HO
          rw [hu0] at k2 HK HO
          have HU0 := Lib.hid hu0
          clear hX hu0
          go_wp2_with (at_builtin; refine wpList_appT rfl _ _ rfl w.heap.size _ 0 1 (a + 1) _ (trR F a j j) [X] (by rw [hlen]; rfl) (by omega) rfl rfl HO.out (rdI_one _ _ _ rfl) (by rw [hlen]; omega) (by simp) (by simp; omega) ?_; intro g5 c5 wm hown hgr hbk hbm; obtain ⟨d1, d2⟩ := HK.out wm hgr)
          have hst := HTR.out.step hlj hown (by rw [HU0.out]; exact hgr) (by rw [HU0.out]; exact hbk)
          have hb5 := ((hbel2.alloc hsz (.cells #[.int .i64 X] 3)).trans hbm).setCell (p := ⟨w.heap.size, j, none⟩) hgB (.slice (some ⟨g5, 0, none⟩) (a + 1) c5)
          have HST := Lib.hid (hst.congr (R' := trR F a (j + 1)) (fun i _ => HNX.out i))
          clear hst hown hgr hbk hbm
          go_wp2_with fail
          go_roundw
          case rel => exact ⟨j + 1, _, by omega, by go_num, HST.out, hb5⟩
          case measure => simp [intOf]; omega

set_option maxHeartbeats 3200000 in
set_option maxRecDepth 100000 in
theorem mxTurn_c (R C : Nat) (ad : Option Addr) (cap : Nat) (m : Nat → Nat → Int) (w : World) (hr : RdM w ad (toG R C m)) (hR : 1 ≤ R ∧ R ≤ 6) (hC : 1 ≤ C ∧ C ≤ 6) :
    Calls Try.prog 42 #[.slice ad R cap] w fun e w' => ∃ ad' cap', e = .returned (.slice ad' C cap') ∧ RdM w' ad' (toG C R (fun k i => m i k)) ∧ Below w.heap.size w w' := by
  obtain ⟨bM, oM, rfl, hbM, hrow⟩ := hr.rowG (by omega) (by omega)
  obtain ⟨b0, o0, c0, e0, _, _⟩ := hrow 0 (by omega)
  rw [Nat.add_zero] at e0
  have HROW := Lib.hid hrow
  clear hr hrow
  have HN := Lib.hid (MatO.nil w w.heap.size)
  have y0 : 0 < R := by omega
  go_enter Try.func42, Try.ntmps42
  go_wp2_with fail
  go_loopw [3, 11] (fun v i wr => ∃ (k : Nat) (vs : List Value), k ≤ C ∧ i = .int .i64 k ∧ MatO wr w.heap.size v ((toG C R (fun k i => m i k)).take k) vs ∧ Below w.heap.size w wr) (fun _ i _ => C - (intOf i).toNat)
  case atStart => exact ⟨0, [], Nat.zero_le _, rfl, HN.out, Below.refl _ _⟩
  case round =>
    obtain ⟨wE, rfl⟩ : ∃ x : World, x = wr := ⟨_, rfl⟩
    obtain ⟨k, vs, hk, rfl, hmat, hbel⟩ := hrel
    obtain ⟨adv, cav, rfl, _⟩ := hmat.shape
    have htl : ((toG C R (fun k i => m i k)).take k).length = k := by rw [List.length_take, toG_len]; omega
    have HM := Lib.hid hmat
    by_cases hlt : k < C
    case neg =>
      obtain rfl : k = C := by omega
      rw [htl]
      rw [List.take_of_length_le (by rw [toG_len]; omega)] at hmat HM
      rw [toG_len] at hmat HM
      clear hmat htl
      go_wp2_with fail
      go_ret
      exact ⟨adv, cav, rfl, HM.out.rd, hbel⟩
    case pos =>
      have hsn := takeM_snoc (toG C R (fun k i => m i k)) k (by rw [toG_len]; exact hlt)
      rw [toG_row _ hlt] at hsn
      have HSN := Lib.hid hsn
      have hsz := hbel.size
      obtain ⟨L, hL⟩ : ∃ L, (toG C R (fun k i => m i k)).take k = L := ⟨_, rfl⟩
      rw [hL] at HM HSN htl ⊢
      have HTL := Lib.hid htl
      rw [htl] at HM ⊢
      have x1 : (0 : Int) ≤ (k : Int) := by omega
      have x2 : (k : Int) < (C : Int) := by omega
      clear htl hL hmat hsn e0
      go_wp2_with fail
      go_loopw [5, 16] (fun v i wr => ∃ j : Nat, j ≤ R ∧ i = .int .i64 j ∧ RowI wr wE.heap.size v ((tab R (fun i => m i k)).take j) ∧ Below wE.heap.size wE wr) (fun _ i _ => R - (intOf i).toNat)
      case atStart => exact ⟨0, Nat.zero_le _, rfl, RowI.nil _ _, Below.refl _ _⟩
      case round =>
        obtain ⟨wI, rfl⟩ : ∃ x : World, x = wr := ⟨_, rfl⟩
        obtain ⟨j, hj, rfl, hrow, hbi⟩ := hrel
        have HO := Lib.hid hrow
        have hszi := hbi.size
        have hjl := tab_takeL R (fun i => m i k) hj
        by_cases hlj : j < R
        case pos =>
          have hsj := tab_takeS R (fun i => m i k) hlj
          obtain ⟨b2, o2, c2, e2, hl2, hc2⟩ := HROW.out j hlj
          have hbwi := ball hbel hbi
          have e5 := bcell hbwi hbM e2
          have k5 := bcell hbwi hl2 (hc2 k hlt)
          generalize m j k = X at k5 hsj
          have HSJ := Lib.hid hsj
          obtain ⟨adr, car, rfl, _⟩ := hrow.shape
          rw [hjl] at HO ⊢
          have HJL := Lib.hid hjl
          generalize (tab R (fun i => m i k)).take j = T at HSJ HO HJL
          have y1 : (0 : Int) ≤ (j : Int) := by omega
          have y2 : (j : Int) < (R : Int) := by omega
          clear hrow hsj hjl e2 hc2
          go_wp2_with (at_builtin; refine wpList_appN rfl _ _ rfl wE.heap.size _ 0 1 (.slice adr j car) T [X] (j + 1) (by rw [HJL.out]; rfl) rfl rfl (RowI.alloc' HO.out) (rdI_one _ _ _ rfl) (by rw [HJL.out]; omega) (by simp) (by simp; omega) ?_; intro v5 wm hown hsh hbm hgr)
          have hb3 := (bal_alloc (o := .cells #[.int .i64 X] 3) hbi).trans hbm
          rw [← HSJ.out] at hown
          have HO5 := Lib.hid hown; clear hown hsh hgr hbm
          go_wp2_with fail
          go_roundw
          case rel => exact ⟨j + 1, by omega, by go_num, HO5.out, hb3⟩
          case measure => simp [intOf]; omega
        case neg =>
          obtain rfl : j = R := by omega
          have hM1 := HM.out.below hbi
          have hlow := HM.out.low
          rw [tab_all] at hrow
          obtain ⟨gr, cr, rfl, hgr⟩ := hrow.shp (by rw [tab_length]; omega)
          rw [tab_length] at hrow ⊢
          have hX := CellO.of_row (hrow.low (B' := w.heap.size) hsz)
          have HB := Lib.hid hrow.blk
          have HX := Lib.hid hX
          have HM1 := Lib.hid hM1; have HLOW := Lib.hid hlow
          clear hrow hM1 hlow HM HO hX
          go_wp2_with (at_builtin; refine wpList_appM rfl _ _ rfl w.heap.size wE.heap.size wI.heap.size _ (.slice (some ⟨gr, 0, none⟩) j cr) L vs (tab j (fun i => m i k)) (k + 1) (by rw [HTL.out]) rfl rfl (by simp [go_sem]) (HM1.out.below ((Below.refl _ _).alloc (Nat.le_refl _) _)) (HX.out.below ((Below.refl _ _).alloc (Nat.le_refl _) _)) HB.out HLOW.out (by rw [HTL.out]; omega) (by simp; omega) ?_; intro ad5 cap5 wm hmat5 hbm)
          have hb3 := ((hbel.trans (hbi.mono hsz)).alloc (by omega) (.cells #[.slice (some ⟨gr, 0, none⟩) j cr] 23)).trans hbm
          rw [← HSN.out] at hmat5
          have HM5 := Lib.hid hmat5; clear hmat5 hbm
          go_wp2_with fail
          go_roundw
          case rel => exact ⟨k + 1, _, by omega, by go_num, HM5.out, hb3⟩
          case measure => simp [intOf]; omega
end Go.Proofs.Ytnbenpalneodlaa
