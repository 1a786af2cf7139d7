/-
  Parts of matrices. Printed by gen_rkD.py. By an AI agent.
-/
import Derived.Test.YtnbenpalneodlaaRkC
import Derived.Test.YtnbenpalneodlaaWyS
namespace Go.Proofs.Ytnbenpalneodlaa
open Go.RowKit

def ptM (m : Nat → Nat → Int) (r c : List Int) (i j : Nat) : Int := m (vx r i) (vx c j)

set_option maxHeartbeats 3200000 in
set_option maxRecDepth 100000 in
theorem partOf_c (R C n : Nat) (ad : Option Addr) (cap : Nat) (m : Nat → Nat → Int) (ar : Option Addr) (capr : Nat) (r : List Int) (ac : Option Addr) (capc : Nat) (c : List Int) (w : World) (hr : RdM w ad (toG R C m)) (hR : 1 ≤ R ∧ R ≤ 6) (hC : 1 ≤ C ∧ C ≤ 6) (hrr : RdI w ar r) (hcc : RdI w ac c) (hvr : vtB R r = true) (hvc : vtB C c = true) (hlr : r.length = n) (hlc : c.length = n) (hn : 1 ≤ n ∧ n ≤ 6) :
    Calls Try.prog 70 #[.slice ad R cap, .slice ar n capr, .slice ac n capc] w fun e w' => ∃ ad' cap', e = .returned (.slice ad' n cap') ∧ RdM w' ad' (toM n (ptM m r c)) ∧ Below w.heap.size w w' := by
  obtain ⟨bM, oM, rfl, hbM, hrow⟩ := hr.rowG (by omega) (by omega)
  have HROW := Lib.hid hrow
  have HVR := Lib.hid (fun t (ht : t < n) => vt_at hvr (t := t) (by omega))
  have HVC := Lib.hid (fun t (ht : t < n) => vt_at hvc (t := t) (by omega))
  have HRR := Lib.hid hrr; have HCC := Lib.hid hcc; have HLR := Lib.hid hlr; have HLC := Lib.hid hlc
  clear hr hrow hrr hcc hvr hvc hlr hlc
  have HN := Lib.hid (MatO.empty w w.heap.size w.heap.size (Nat.le_refl _) rfl)
  have hb0 : Below w.heap.size w (w.alloc (.cells #[] 23)) := (Below.refl _ _).alloc (Nat.le_refl _) _
  go_enter Try.func70, Try.ntmps70
  go_wp2_with fail
  go_loopw [7, 16] (fun v i wr => ∃ (k : Nat) (vs : List Value), k ≤ n ∧ i = .int .i64 k ∧ MatO wr w.heap.size v ((toM n (ptM m r c)).take k) vs ∧ Below w.heap.size w wr) (fun _ i _ => n - (intOf i).toNat)
  case atStart => exact ⟨0, [], Nat.zero_le _, rfl, HN.out, hb0⟩
  case round =>
    obtain ⟨wE, rfl⟩ : ∃ x : World, x = wr := ⟨_, rfl⟩
    obtain ⟨k, vs, hk, rfl, hmat, hbel⟩ := hrel
    obtain ⟨adv, cav, rfl, _⟩ := hmat.shape
    have htl : ((toM n (ptM m r c)).take k).length = k := by rw [List.length_take, toM_len]; omega
    have HM := Lib.hid hmat
    by_cases hlt : k < n
    case neg =>
      obtain rfl : k = n := by omega
      rw [htl]
      rw [List.take_of_length_le (by rw [toM_len]; omega)] at hmat HM
      rw [toM_len] at hmat HM
      clear hmat htl
      go_wp2_with fail
      go_ret
      exact ⟨adv, cav, rfl, HM.out.rd, hbel⟩
    case pos =>
      have hsn := takeM_snoc (toM n (ptM m r c)) k (by rw [toM_len]; exact hlt)
      rw [toM_row _ hlt] at hsn
      have HSN := Lib.hid hsn
      have hsz := hbel.size
      obtain ⟨L, hL⟩ : ∃ L, (toM n (ptM m r c)).take k = L := ⟨_, rfl⟩
      rw [hL] at HM HSN htl ⊢
      have HTL := Lib.hid htl
      rw [htl] at HM ⊢
      obtain ⟨v1, u1⟩ := HVR.out k hlt
      obtain ⟨br, orr, rfl, hbr, q1⟩ := HRR.out k (by rw [HLR.out]; exact hlt)
      rw [v1] at q1
      have q1 := bcell hbel hbr q1
      obtain ⟨a, ha⟩ : ∃ a, vx r k = a := ⟨_, rfl⟩
      have HPT := Lib.hid (fun j => show ptM m r c k j = m a (vx c j) by unfold ptM; rw [ha])
      rw [ha] at q1 u1
      obtain ⟨b2, o2, c2, e2, hl2, hc2⟩ := HROW.out a u1
      have HC2 := Lib.hid hc2; have HE2 := Lib.hid e2
      have x1 : (0 : Int) ≤ (k : Int) := by omega
      have x2 : (k : Int) < (n : Int) := by omega
      have x3 : (0 : Int) ≤ (a : Int) := by omega
      have x4 : (a : Int) < (R : Int) := by omega
      clear htl hL hmat hsn v1 ha hc2 e2
      go_wp2_with fail
      go_loopw [10, 23] (fun v i wr => ∃ j : Nat, j ≤ n ∧ i = .int .i64 j ∧ RowI wr wE.heap.size v ((tab n (ptM m r c k)).take j) ∧ Below wE.heap.size wE wr) (fun _ i _ => n - (intOf i).toNat)
      case atStart => exact ⟨0, Nat.zero_le _, rfl, rowI_new _ _ _ (Nat.le_refl _) rfl, (Below.refl _ _).alloc (Nat.le_refl _) _⟩
      case round =>
        obtain ⟨wI, rfl⟩ : ∃ x : World, x = wr := ⟨_, rfl⟩
        obtain ⟨j, hj, rfl, hrow, hbi⟩ := hrel
        have HO := Lib.hid hrow
        have hszi := hbi.size
        have hjl := tab_takeL n (ptM m r c k) hj
        by_cases hlj : j < n
        case pos =>
          have hsj := tab_takeS n (ptM m r c k) hlj
          rw [HPT.out j] at hsj
          have HSJ := Lib.hid hsj
          obtain ⟨v3, u3⟩ := HVC.out j hlj
          obtain ⟨bc, oc, rfl, hbc, q3⟩ := HCC.out j (by rw [HLC.out]; exact hlj)
          rw [v3] at q3
          have hbwi := ball hbel hbi
          have q3 := bcell hbwi hbc q3
          generalize vx c j = b at q3 u3 HSJ
          have e5 := bcell hbwi hbM HE2.out
          have k5 := bcell hbwi hl2 (HC2.out b u3)
          generalize m a b = X at k5 HSJ
          obtain ⟨adr, car, rfl, _⟩ := hrow.shape
          rw [hjl] at HO ⊢
          have HJL := Lib.hid hjl
          generalize (tab n (ptM m r c k)).take j = T at HSJ HO HJL
          have y1 : (0 : Int) ≤ (j : Int) := by omega
          have y2 : (j : Int) < (n : Int) := by omega
          have y3 : (0 : Int) ≤ (b : Int) := by omega
          have y4 : (b : Int) < (C : Int) := by omega
          clear q1 hrow hsj v3 hjl
          go_wp2_with (at_builtin; refine wpList_appN rfl _ _ rfl wE.heap.size _ 0 1 (.slice adr j car) T [X] (j + 1) (by rw [HJL.out]; rfl) rfl rfl (RowI.alloc' HO.out) (rdI_one _ _ _ rfl) (by rw [HJL.out]; omega) (by simp) (by simp; omega) ?_; intro v5 wm hown hsh hbm hgr)
          have hb3 := (bal_alloc (o := .cells #[.int .i64 X] 3) hbi).trans hbm
          rw [← HSJ.out] at hown
          have HO5 := Lib.hid hown; clear hown hsh hgr hbm
          go_wp2_with fail
          go_roundw
          case rel => exact ⟨j + 1, by omega, by go_num, HO5.out, hb3⟩
          case measure => simp [intOf]; omega
        case neg =>
          obtain rfl : j = n := by omega
          have hM1 := HM.out.below hbi
          have hlow := HM.out.low
          rw [tab_all] at hrow
          obtain ⟨gr, cr, rfl, hgr⟩ := hrow.shp (by rw [tab_length]; omega)
          rw [tab_length] at hrow ⊢
          have hX := CellO.of_row (hrow.low (B' := w.heap.size) hsz)
          have HB := Lib.hid hrow.blk
          have HX := Lib.hid hX
          have HM1 := Lib.hid hM1; have HLOW := Lib.hid hlow
          clear hrow hM1 hlow HM HO hX q1
          go_wp2_with (at_builtin; refine wpList_appM rfl _ _ rfl w.heap.size wE.heap.size wI.heap.size _ (.slice (some ⟨gr, 0, none⟩) j cr) L vs (tab j (ptM m r c k)) (k + 1) (by rw [HTL.out]) rfl rfl (by simp [go_sem]) (HM1.out.below ((Below.refl _ _).alloc (Nat.le_refl _) _)) (HX.out.below ((Below.refl _ _).alloc (Nat.le_refl _) _)) HB.out HLOW.out (by rw [HTL.out]; omega) (by simp; omega) ?_; intro ad5 cap5 wm hmat5 hbm)
          have hb3 := ((hbel.trans (hbi.mono hsz)).alloc (by omega) (.cells #[.slice (some ⟨gr, 0, none⟩) j cr] 23)).trans hbm
          rw [← HSN.out] at hmat5
          have HM5 := Lib.hid hmat5; clear hmat5 hbm
          go_wp2_with fail
          go_roundw
          case rel => exact ⟨k + 1, _, by omega, by go_num, HM5.out, hb3⟩
          case measure => simp [intOf]; omega

set_option maxHeartbeats 3200000 in
set_option maxRecDepth 100000 in
theorem rkPart_c (R C n : Nat) (ad : Option Addr) (cap : Nat) (m : Nat → Nat → Int) (ar : Option Addr) (capr : Nat) (r : List Int) (ac : Option Addr) (capc : Nat) (c : List Int) (w : World) (hr : RdM w ad (toG R C m)) (hR : 1 ≤ R ∧ R ≤ 6) (hC : 1 ≤ C ∧ C ≤ 6) (hrr : RdI w ar r) (hcc : RdI w ac c) (hvr : vtB R r = true) (hvc : vtB C c = true) (hlr : r.length = n) (hlc : c.length = n) (hn : 1 ≤ n ∧ n ≤ 6) :
    Calls Try.prog 73 #[.slice ad R cap, .slice ar n capr, .slice ac n capc] w fun e w' => ∃ ad' cap', e = .returned (.slice ad' n cap') ∧ RdM w' ad' (toM n (ptM m r c)) ∧ Below w.heap.size w w' := by
  obtain ⟨bM, oM, rfl, hbM, hrow⟩ := hr.rowG (by omega) (by omega)
  have HROW := Lib.hid hrow
  have HVR := Lib.hid (fun t (ht : t < n) => vt_at hvr (t := t) (by omega))
  have HVC := Lib.hid (fun t (ht : t < n) => vt_at hvc (t := t) (by omega))
  have HRR := Lib.hid hrr; have HCC := Lib.hid hcc; have HLR := Lib.hid hlr; have HLC := Lib.hid hlc
  clear hr hrow hrr hcc hvr hvc hlr hlc
  have HN := Lib.hid (MatO.nil w w.heap.size)
  have hb0 : Below w.heap.size w w := Below.refl _ _
  go_enter Try.func73, Try.ntmps73
  go_wp2_with fail
  go_loopw [7, 15] (fun v i wr => ∃ (k : Nat) (vs : List Value), k ≤ n ∧ i = .int .i64 k ∧ MatO wr w.heap.size v ((toM n (ptM m r c)).take k) vs ∧ Below w.heap.size w wr) (fun _ i _ => n - (intOf i).toNat)
  case atStart => exact ⟨0, [], Nat.zero_le _, rfl, HN.out, hb0⟩
  case round =>
    obtain ⟨wE, rfl⟩ : ∃ x : World, x = wr := ⟨_, rfl⟩
    obtain ⟨k, vs, hk, rfl, hmat, hbel⟩ := hrel
    obtain ⟨adv, cav, rfl, _⟩ := hmat.shape
    have htl : ((toM n (ptM m r c)).take k).length = k := by rw [List.length_take, toM_len]; omega
    have HM := Lib.hid hmat
    by_cases hlt : k < n
    case neg =>
      obtain rfl : k = n := by omega
      rw [htl]
      rw [List.take_of_length_le (by rw [toM_len]; omega)] at hmat HM
      rw [toM_len] at hmat HM
      clear hmat htl
      go_wp2_with fail
      go_ret
      exact ⟨adv, cav, rfl, HM.out.rd, hbel⟩
    case pos =>
      have hsn := takeM_snoc (toM n (ptM m r c)) k (by rw [toM_len]; exact hlt)
      rw [toM_row _ hlt] at hsn
      have HSN := Lib.hid hsn
      have hsz := hbel.size
      obtain ⟨L, hL⟩ : ∃ L, (toM n (ptM m r c)).take k = L := ⟨_, rfl⟩
      rw [hL] at HM HSN htl ⊢
      have HTL := Lib.hid htl
      rw [htl] at HM ⊢
      obtain ⟨v1, u1⟩ := HVR.out k hlt
      obtain ⟨br, orr, rfl, hbr, q1⟩ := HRR.out k (by rw [HLR.out]; exact hlt)
      rw [v1] at q1
      have q1 := bcell hbel hbr q1
      obtain ⟨a, ha⟩ : ∃ a, vx r k = a := ⟨_, rfl⟩
      have HPT := Lib.hid (fun j => show ptM m r c k j = m a (vx c j) by unfold ptM; rw [ha])
      rw [ha] at q1 u1
      obtain ⟨b2, o2, c2, e2, hl2, hc2⟩ := HROW.out a u1
      have HC2 := Lib.hid hc2; have HE2 := Lib.hid e2
      have x1 : (0 : Int) ≤ (k : Int) := by omega
      have x2 : (k : Int) < (n : Int) := by omega
      have x3 : (0 : Int) ≤ (a : Int) := by omega
      have x4 : (a : Int) < (R : Int) := by omega
      clear htl hL hmat hsn v1 ha hc2 e2
      go_wp2_with fail
      go_loopw [10, 21] (fun v i wr => ∃ j : Nat, j ≤ n ∧ i = .int .i64 j ∧ RowI wr wE.heap.size v ((tab n (ptM m r c k)).take j) ∧ Below wE.heap.size wE wr) (fun _ i _ => n - (intOf i).toNat)
      case atStart => exact ⟨0, Nat.zero_le _, rfl, RowI.nil _ _, Below.refl _ _⟩
      case round =>
        obtain ⟨wI, rfl⟩ : ∃ x : World, x = wr := ⟨_, rfl⟩
        obtain ⟨j, hj, rfl, hrow, hbi⟩ := hrel
        have HO := Lib.hid hrow
        have hszi := hbi.size
        have hjl := tab_takeL n (ptM m r c k) hj
        by_cases hlj : j < n
        case pos =>
          have hsj := tab_takeS n (ptM m r c k) hlj
          rw [HPT.out j] at hsj
          have HSJ := Lib.hid hsj
          obtain ⟨v3, u3⟩ := HVC.out j hlj
          obtain ⟨bc, oc, rfl, hbc, q3⟩ := HCC.out j (by rw [HLC.out]; exact hlj)
          rw [v3] at q3
          have hbwi := ball hbel hbi
          have q3 := bcell hbwi hbc q3
          generalize vx c j = b at q3 u3 HSJ
          have e5 := bcell hbwi hbM HE2.out
          have k5 := bcell hbwi hl2 (HC2.out b u3)
          generalize m a b = X at k5 HSJ
          obtain ⟨adr, car, rfl, _⟩ := hrow.shape
          rw [hjl] at HO ⊢
          have HJL := Lib.hid hjl
          generalize (tab n (ptM m r c k)).take j = T at HSJ HO HJL
          have y1 : (0 : Int) ≤ (j : Int) := by omega
          have y2 : (j : Int) < (n : Int) := by omega
          have y3 : (0 : Int) ≤ (b : Int) := by omega
          have y4 : (b : Int) < (C : Int) := by omega
          clear q1 hrow hsj v3 hjl
          go_wp2_with (at_builtin; refine wpList_appN rfl _ _ rfl wE.heap.size _ 0 1 (.slice adr j car) T [X] (j + 1) (by rw [HJL.out]; rfl) rfl rfl (RowI.alloc' HO.out) (rdI_one _ _ _ rfl) (by rw [HJL.out]; omega) (by simp) (by simp; omega) ?_; intro v5 wm hown hsh hbm hgr)
          have hb3 := (bal_alloc (o := .cells #[.int .i64 X] 3) hbi).trans hbm
          rw [← HSJ.out] at hown
          have HO5 := Lib.hid hown; clear hown hsh hgr hbm
          go_wp2_with fail
          go_roundw
          case rel => exact ⟨j + 1, by omega, by go_num, HO5.out, hb3⟩
          case measure => simp [intOf]; omega
        case neg =>
          obtain rfl : j = n := by omega
          have hM1 := HM.out.below hbi
          have hlow := HM.out.low
          rw [tab_all] at hrow
          obtain ⟨gr, cr, rfl, hgr⟩ := hrow.shp (by rw [tab_length]; omega)
          rw [tab_length] at hrow ⊢
          have hX := CellO.of_row (hrow.low (B' := w.heap.size) hsz)
          have HB := Lib.hid hrow.blk
          have HX := Lib.hid hX
          have HM1 := Lib.hid hM1; have HLOW := Lib.hid hlow
          clear hrow hM1 hlow HM HO hX q1
          go_wp2_with (at_builtin; refine wpList_appM rfl _ _ rfl w.heap.size wE.heap.size wI.heap.size _ (.slice (some ⟨gr, 0, none⟩) j cr) L vs (tab j (ptM m r c k)) (k + 1) (by rw [HTL.out]) rfl rfl (by simp [go_sem]) (HM1.out.below ((Below.refl _ _).alloc (Nat.le_refl _) _)) (HX.out.below ((Below.refl _ _).alloc (Nat.le_refl _) _)) HB.out HLOW.out (by rw [HTL.out]; omega) (by simp; omega) ?_; intro ad5 cap5 wm hmat5 hbm)
          have hb3 := ((hbel.trans (hbi.mono hsz)).alloc (by omega) (.cells #[.slice (some ⟨gr, 0, none⟩) j cr] 23)).trans hbm
          rw [← HSN.out] at hmat5
          have HM5 := Lib.hid hmat5; clear hmat5 hbm
          go_wp2_with fail
          go_roundw
          case rel => exact ⟨k + 1, _, by omega, by go_num, HM5.out, hb3⟩
          case measure => simp [intOf]; omega
end Go.Proofs.Ytnbenpalneodlaa
