/-
  Outer products: the reference's. By an AI agent.
-/
import Derived.Test.YtnbenpalneodlaaRkQ
namespace Go.Proofs.Ytnbenpalneodlaa
open Go.RowKit

def MaO (B : Bool) (L : List (List Int)) (w : World) (e : Ending) (w' : World) : Prop := MaR B L w e w' ∧ (∀ ad n cap, e = .returned (.tuple #[.slice ad n cap, .bool true]) → ∀ c u, c < w.heap.size → Chg c w' u → RdM u ad L)
theorem MaO.no {L : List (List Int)} {w w' : World} (hb : Below w.heap.size w w') : MaO false L w (.returned (.tuple #[.slice none 0 0, .bool false])) w' := ⟨MaR.no hb, fun _ _ _ e => by simp at e⟩
theorem MaO.yes {L : List (List Int)} {w w' : World} {a : Option Addr} {n c : Nat} {vs : List Value} (h : MatO w' w.heap.size (.slice a n c) L vs) (hl : L.length = n) (hb : Below w.heap.size w w') : MaO true L w (.returned (.tuple #[.slice a n c, .bool true])) w' := by
  subst hl
  refine ⟨MaR.yes h.rd hb, fun ad n cap e c' u hc hu => ?_⟩
  have : a = ad := by simp at e; exact e.1
  subst this
  exact (h.chg hu hc).rd
set_option maxHeartbeats 6400000 in
set_option maxRecDepth 100000 in
theorem sOuter_c (adu : Option Addr) (cu : Nat) (u : List Int) (adv : Option Addr) (cv : Nat) (v : List Int) (w : World) (hu : RdI w adu u) (hv : RdI w adv v) (hul : u.length ≤ 1000) (hvl : v.length ≤ 1000) :
    Calls Try.prog 6 #[.slice adu u.length cu, .slice adv v.length cv] w (MaO (ouB u v) (ouL u v) w) := by
  have C1 := Lib.hid (mxVector_c adu cu u w hu (by omega))
  have C2 := Lib.hid (mxVector_c adv cv v w hv (by omega))
  have C3 := Lib.hid (l1HasW adu cu u 1000000000 w (by omega) hu)
  have C4 := Lib.hid (l1HasW adv cv v 1000000000 w (by omega) hv)
  have CG := Lib.hid (fun (h : fvB u = true) (h2 : fvB v = true) ad' cap' x (hx : RdM x ad' (ouL u v)) => show Calls Try.prog 29 #[.slice ad' u.length cap'] x fun e w' => e = .returned (.bool (matB (ouL u v))) ∧ x = w' from by
    have hlen : (ouL u v).length = u.length := (matG _ _ _).1
    have D1 := mxGood_c ad' cap' (ouL u v) x hx (by rw [hlen]; omega) (fun i hi => by rw [hlen] at hi; rw [show ((ouL u v).getD i []).length = v.length from (matG _ _ _).2 i hi]; omega)
    rw [hlen] at D1
    exact D1)
  have HF := Lib.hid (fun (h : fvB u = true) => fv_facts h)
  have HF2 := Lib.hid (fun (h : fvB v = true) => fv_facts h)
  have HU := Lib.hid hu; have HV := Lib.hid hv
  have HOL := Lib.hid (show ouL u v = toG u.length v.length (outM u v) from rfl)
  have HFU := Lib.hid (fun (h : vecB u = true) => show fvB u = !decide ((1000000000 : Int) ∈ u) by unfold fvB; rw [h, fin_inf h, Bool.true_and])
  have HFV := Lib.hid (fun (h : vecB v = true) => show fvB v = !decide ((1000000000 : Int) ∈ v) by unfold fvB; rw [h, fin_inf h, Bool.true_and])
  have HU0 := Lib.hid (fun (h : vecB u = false) => show fvB u = false by unfold fvB; rw [h, Bool.false_and])
  have HV0 := Lib.hid (fun (h : vecB v = false) => show fvB v = false by unfold fvB; rw [h, Bool.false_and])
  unfold ouB
  clear hu hv
  generalize ouL u v = L at CG HOL ⊢
  generalize matB L = B at CG ⊢
  generalize decide ((1000000000 : Int) ∈ u) = c at C3 HFU
  generalize decide ((1000000000 : Int) ∈ v) = d at C4 HFV
  generalize fvB u = fu at CG HF HFU HU0 ⊢
  generalize fvB v = fv at CG HF2 HFV HV0 ⊢
  generalize vecB u = a at C1 HFU HU0
  generalize vecB v = b at C2 HFV HV0
  obtain ⟨n, hn⟩ : ∃ n, u.length = n := ⟨_, rfl⟩
  have HNU := Lib.hid hn
  obtain ⟨n2, hn2⟩ : ∃ n, v.length = n := ⟨_, rfl⟩
  have HNV := Lib.hid hn2
  rw [hn] at C1 C3 CG HF HOL hul ⊢
  rw [hn2] at C2 C4 HF2 HOL hvl ⊢
  clear hn hn2
  cases a
  · have := HU0.out rfl
    subst this
    clear C2 C3 C4 CG HF HF2 HFU HFV HU0 HV0
    rw [Bool.false_and]
    go_enter Try.func6, Try.ntmps6
    go_wp2_with fail
    refine C1.out.mono ?_
    rintro e w1 ⟨rfl, rfl⟩
    go_wp2_with fail
    exact bodyPost_ret (v := .tuple #[.slice none 0 0, .bool false]) (by simp [results, Try.results6, go_sem]) rfl (MaO.no (Below.refl _ _))
  have hfu := HFU.out rfl
  cases b
  · have := HV0.out rfl
    subst this
    clear C3 C4 CG HF HF2 HFU HFV HU0 HV0 hfu
    rw [Bool.false_and, Bool.and_false]
    go_enter Try.func6, Try.ntmps6
    go_wp2_with fail
    refine C1.out.mono ?_
    rintro e w1 ⟨rfl, rfl⟩
    go_wp2_with fail
    refine C2.out.mono ?_
    rintro e w1 ⟨rfl, rfl⟩
    go_wp2_with fail
    exact bodyPost_ret (v := .tuple #[.slice none 0 0, .bool false]) (by simp [results, Try.results6, go_sem]) rfl (MaO.no (Below.refl _ _))
  have hfv := HFV.out rfl
  clear HFU HFV HU0 HV0
  cases c
  case true =>
    rw [Bool.not_true] at hfu
    subst hfu
    clear C4 CG HF HF2 hfv
    rw [Bool.false_and]
    go_enter Try.func6, Try.ntmps6
    go_wp2_with fail
    refine C1.out.mono ?_
    rintro e w1 ⟨rfl, rfl⟩
    go_wp2_with fail
    refine C2.out.mono ?_
    rintro e w1 ⟨rfl, rfl⟩
    go_wp2_with fail
    refine C3.out.mono ?_
    rintro e w1 ⟨rfl, rfl⟩
    go_wp2_with fail
    exact bodyPost_ret (v := .tuple #[.slice none 0 0, .bool false]) (by simp [results, Try.results6, go_sem]) rfl (MaO.no (Below.refl _ _))
  case false =>
    rw [Bool.not_false] at hfu
    subst hfu
    cases d
    case true =>
      rw [Bool.not_true] at hfv
      subst hfv
      clear CG HF HF2
      rw [Bool.false_and, Bool.and_false]
      go_enter Try.func6, Try.ntmps6
      go_wp2_with fail
      refine C1.out.mono ?_
      rintro e w1 ⟨rfl, rfl⟩
      go_wp2_with fail
      refine C2.out.mono ?_
      rintro e w1 ⟨rfl, rfl⟩
      go_wp2_with fail
      refine C3.out.mono ?_
      rintro e w1 ⟨rfl, rfl⟩
      go_wp2_with fail
      refine C4.out.mono ?_
      rintro e w1 ⟨rfl, rfl⟩
      go_wp2_with fail
      exact bodyPost_ret (v := .tuple #[.slice none 0 0, .bool false]) (by simp [results, Try.results6, go_sem]) rfl (MaO.no (Below.refl _ _))
    case false =>
      rw [Bool.not_false] at hfv
      subst hfv
      obtain ⟨hn6, hbu⟩ := HF.out rfl
      obtain ⟨hm6, hbv⟩ := HF2.out rfl
      have HBU := Lib.hid hbu; have HBV := Lib.hid hbv
      have DG := Lib.hid (CG.out rfl rfl)
      have HFN := Lib.hid (fun i j => show outM u v i j = u.getD i 0 + v.getD j 0 from rfl)
      generalize outM u v = F at HOL HFN
      rw [Bool.true_and, Bool.true_and]
      clear CG HF HF2 hbu hbv
      go_enter Try.func6, Try.ntmps6
      go_wp2_with fail
      refine C1.out.mono ?_
      rintro e w1 ⟨rfl, rfl⟩
      go_wp2_with fail
      refine C2.out.mono ?_
      rintro e w1 ⟨rfl, rfl⟩
      go_wp2_with fail
      refine C3.out.mono ?_
      rintro e w1 ⟨rfl, rfl⟩
      go_wp2_with fail
      refine C4.out.mono ?_
      rintro e w1 ⟨rfl, rfl⟩
      go_wp2_with fail
      go_loopw [6, 30] (fun v i wr => ∃ (k : Nat) (vs : List Value), k ≤ n ∧ i = .int .i64 k ∧ MatO wr w.heap.size v ((toG n n2 F).take k) vs ∧ Below w.heap.size w wr) (fun _ i _ => n - (intOf i).toNat)
      case atStart => exact ⟨0, [], Nat.zero_le _, rfl, MatO.nil _ _, Below.refl _ _⟩
      case round =>
        obtain ⟨wE, rfl⟩ : ∃ x : World, x = wr := ⟨_, rfl⟩
        obtain ⟨k, vs, hk, rfl, hmat, hbel⟩ := hrel
        obtain ⟨adm, cam, rfl, _⟩ := hmat.shape
        have htl : ((toG n n2 F).take k).length = k := by rw [List.length_take, toG_len]; omega
        have HM := Lib.hid hmat
        by_cases hlt : k < n
        case neg =>
          obtain rfl : k = n := by omega
          rw [htl]
          rw [List.take_of_length_le (by rw [toG_len]; omega)] at hmat HM
          rw [toG_len] at hmat HM
          have E := Lib.hid (DG.out adm cam wE (by rw [HOL.out]; exact HM.out.rd))
          have HRD := Lib.hid (show MatO wE w.heap.size (.slice adm k cam) L vs by rw [HOL.out]; exact HM.out)
          have HLL := Lib.hid (show L.length = k by rw [HOL.out]; exact toG_len _ _ _)
          clear hmat htl
          cases B
          · go_wp2_with fail
            refine E.out.mono ?_
            rintro e w5 ⟨rfl, rfl⟩
            go_wp2_with fail
            exact bodyPost_ret (v := .tuple #[.slice none 0 0, .bool false]) (by simp [results, Try.results6, go_sem]) rfl (MaO.no hbel)
          · go_wp2_with fail
            refine E.out.mono ?_
            rintro e w5 ⟨rfl, rfl⟩
            go_wp2_with fail
            refine bodyPost_ret (v := .tuple #[.slice adm k cam, .bool true]) (by simp [results, Try.results6, go_sem]) rfl ?_
            exact MaO.yes HRD.out HLL.out hbel
        case pos =>
          have hsn := takeM_snoc (toG n n2 F) k (by rw [toG_len]; exact hlt)
          rw [toG_row _ hlt] at hsn
          have HSN := Lib.hid hsn
          have hsz := hbel.size
          obtain ⟨G, hG⟩ : ∃ G, (toG n n2 F).take k = G := ⟨_, rfl⟩
          rw [hG] at HM HSN htl ⊢
          have HTL := Lib.hid htl
          rw [htl] at HM ⊢
          obtain ⟨bb, off, rfl, hbb, c1⟩ := HU.out k (by rw [HNU.out]; exact hlt)
          have c1 := bcell hbel hbb c1
          have hbk := HBU.out k hlt
          have HFK := Lib.hid (fun j => HFN.out k j)
          generalize u.getD k 0 = X at c1 hbk HFK
          have x1 : (0 : Int) ≤ (k : Int) := by omega
          have x2 : (k : Int) < (n : Int) := by omega
          clear htl hG hmat hsn
          go_wp2_with fail
          go_loopw [9, 36] (fun v i wr => ∃ j : Nat, j ≤ n2 ∧ i = .int .i64 j ∧ RowI wr wE.heap.size v ((tab n2 (F k)).take j) ∧ Below wE.heap.size wE wr) (fun _ i _ => n2 - (intOf i).toNat)
          case atStart => exact ⟨0, Nat.zero_le _, rfl, RowI.nil _ _, Below.refl _ _⟩
          case round =>
            obtain ⟨wI, rfl⟩ : ∃ x : World, x = wr := ⟨_, rfl⟩
            obtain ⟨j, hj, rfl, hrow, hbi⟩ := hrel
            have HO := Lib.hid hrow
            have hszi := hbi.size
            have hjl := tab_takeL n2 (F k) hj
            by_cases hlj : j < n2
            case pos =>
              have hsj := tab_takeS n2 (F k) hlj
              rw [HFK.out j] at hsj
              obtain ⟨b2, o2, rfl, hb2, c2⟩ := HV.out j (by rw [HNV.out]; exact hlj)
              have hbwi := ball hbel hbi
              have c2 := bcell hbwi hb2 c2
              have hbj := HBV.out j hlj
              generalize v.getD j 0 = Y at c2 hbj hsj
              have HSJ := Lib.hid hsj
              obtain ⟨adr, car, rfl, _⟩ := hrow.shape
              rw [hjl] at HO ⊢
              have HJL := Lib.hid hjl
              generalize (tab n2 (F k)).take j = T at HSJ HO HJL
              have y1 : (0 : Int) ≤ (j : Int) := by omega
              have y2 : (j : Int) < (n2 : Int) := by omega
              clear hrow hsj hjl c1
              go_wp2_with (at_builtin; refine wpList_appN rfl _ _ rfl wE.heap.size _ 0 1 (.slice adr j car) T [X + Y] (j + 1) (by rw [HJL.out]; rfl) rfl rfl (RowI.alloc' HO.out) (rdI_one _ _ _ rfl) (by rw [HJL.out]; omega) (by simp) (by simp; omega) ?_; intro v5 wm hown hsh hbm hgr)
              have hb3 := (bal_alloc (o := .cells #[.int .i64 (X + Y)] 3) hbi).trans hbm
              rw [← HSJ.out] at hown
              have HO5 := Lib.hid hown; clear hown hsh hgr hbm
              go_wp2_with fail
              go_roundw
              case rel => exact ⟨j + 1, by omega, by go_num, HO5.out, hb3⟩
              case measure => simp [intOf]; omega
            case neg =>
              obtain rfl : j = n2 := by omega
              have hM1 := HM.out.below hbi
              have hlow := HM.out.low
              rw [tab_all] at hrow
              obtain ⟨gr, cr, rfl, hgr⟩ := hrow.shp (by rw [tab_length]; omega)
              rw [tab_length] at hrow ⊢
              have hX := CellO.of_row (hrow.low (B' := w.heap.size) hsz)
              have HB := Lib.hid hrow.blk
              have HX := Lib.hid hX
              have HM1 := Lib.hid hM1; have HLOW := Lib.hid hlow
              clear hrow hM1 hlow HM HO hX c1
              go_wp2_with (at_builtin; refine wpList_appM rfl _ _ rfl w.heap.size wE.heap.size wI.heap.size _ (.slice (some ⟨gr, 0, none⟩) j cr) G vs (tab j (F k)) (k + 1) (by rw [HTL.out]) rfl rfl (by simp [go_sem]) (HM1.out.below ((Below.refl _ _).alloc (Nat.le_refl _) _)) (HX.out.below ((Below.refl _ _).alloc (Nat.le_refl _) _)) HB.out HLOW.out (by rw [HTL.out]; omega) (by simp; omega) ?_; intro ad5 cap5 wm hmat5 hbm)
              have hb3 := ((hbel.trans (hbi.mono hsz)).alloc (by omega) (.cells #[.slice (some ⟨gr, 0, none⟩) j cr] 23)).trans hbm
              rw [← HSN.out] at hmat5
              have HM5 := Lib.hid hmat5; clear hmat5 hbm
              go_wp2_with fail
              go_roundw
              case rel => exact ⟨k + 1, _, by omega, by go_num, HM5.out, hb3⟩
              case measure => simp [intOf]; omega
end Go.Proofs.Ytnbenpalneodlaa
