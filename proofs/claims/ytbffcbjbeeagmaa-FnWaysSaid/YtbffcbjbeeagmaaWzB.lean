/-
  The unit matrix, and the least costs of ways of 0, 1, .. steps: the program's. By an AI agent.
-/
import Derived.Test.YtbffcbjbeeagmaaWzA
namespace Go.Proofs.Ytbffcbjbeeagmaa
open Go.RowKit

theorem MatO.oneC {w : World} {B H : Nat} {u : Value} {xs : List Int} (h : CellO w B u xs) (hB : B ≤ w.heap.size) (hH : w.heap.size = H) : MatO (w.alloc (.cells #[u] 29)) B (.slice (some ⟨H, 0, none⟩) 1 1) [xs] [u] := by
  subst hH
  refine ⟨⟨by simp, .inr ⟨w.heap.size, 1, #[u], rfl, hB, heap_alloc_new w _, Nat.le_refl _, by unfold maxLen; omega, rfl, by simp⟩⟩, fun i hi => ?_, fun i j hi hj hij => ?_⟩
  · obtain rfl : i = 0 := by simpa using hi
    exact h.below ((Below.refl _ _).alloc (Nat.le_refl _) _)
  · have h1 : i = 0 := by simpa using hi
    have h2 : j = 0 := by simpa using hj
    omega

set_option maxHeartbeats 3200000 in
set_option maxRecDepth 100000 in
theorem unit_c (n : Nat) (w : World) (hn : 1 ≤ n ∧ n ≤ 6) :
    Calls Try.prog 97 #[.int .i64 n] w fun e w' => ∃ ad' cap' vs, e = .returned (.slice ad' n cap') ∧ MatO w' w.heap.size (.slice ad' n cap') (toM n unF) vs ∧ Below w.heap.size w w' := by
  have HM := Lib.hid (MatO.empty w w.heap.size w.heap.size (Nat.le_refl _) rfl)
  have hb4 := bal_alloc (o := .cells #[] 29) (Below.refl w.heap.size w)
  go_enter Try.func97, Try.ntmps97
  go_wp2_with fail
  go_loopw [3, 9] (fun v i wr => ∃ (s : Nat) (vs : List Value), s ≤ n ∧ i = .int .i64 s ∧ MatO wr w.heap.size v (toG s n unF) vs ∧ Below w.heap.size w wr) (fun _ i _ => n - (intOf i).toNat)
  case atStart => exact ⟨0, _, Nat.zero_le _, rfl, HM.out, hb4⟩
  case round =>
    obtain ⟨wF, rfl⟩ : ∃ x : World, x = wr := ⟨_, rfl⟩
    obtain ⟨s, vs, hs, rfl, hmat, hbel2⟩ := hrel
    obtain ⟨adv, cav, rfl, _⟩ := hmat.shape
    rw [toG_len] at hmat ⊢
    have HX := Lib.hid hmat; clear hmat HM hb4
    have hsz := hbel2.size
    by_cases hls : s < n
    case neg =>
      obtain rfl : s = n := by omega
      go_wp2_with fail
      go_ret
      exact ⟨adv, cav, vs, rfl, HX.out, hbel2⟩
    case pos =>
      have HR0 := Lib.hid (rowI_new wF wF.heap.size wF.heap.size (Nat.le_refl _) rfl)
      have hb0 : Below wF.heap.size wF (wF.alloc (.cells #[] 3)) := bal_alloc (Below.refl _ _)
      go_wp2_with fail
      go_loopw [5, 14] (fun v i wr => ∃ j : Nat, j ≤ n ∧ i = .int .i64 j ∧ RowI wr wF.heap.size v (tab j (unF s)) ∧ Below wF.heap.size wF wr) (fun _ i _ => n - (intOf i).toNat)
      case atStart => exact ⟨0, Nat.zero_le _, rfl, HR0.out, hb0⟩
      case round =>
        obtain ⟨wI, rfl⟩ : ∃ x : World, x = wr := ⟨_, rfl⟩
        obtain ⟨j, hj, rfl, hrow, hbi⟩ := hrel
        obtain ⟨adr2, car2, rfl⟩ := row_shp hrow
        rw [tab_length] at hrow ⊢
        have HO := Lib.hid hrow; clear hrow HR0 hb0
        have hszi := hbi.size
        by_cases hlj : j < n
        case pos =>
          have hlk := tab_length j (unF s)
          have HSN := Lib.hid (tab_succ j (unF s))
          by_cases hkb : s = j
          · have hex : unF s j = 0 := by unfold unF; rw [if_pos hkb]
            have g1 : ((s : Int) == (j : Int)) = true := by rw [hkb]; simp
            rw [hex] at HSN
            clear hkb hex
            generalize tab j (unF s) = R at HO HSN hlk
            go_wp2_with (at_builtin; refine wpList_appN rfl _ _ rfl wF.heap.size _ 0 1 _ R [0] (j + 1) (by rw [hlk]; rfl) rfl rfl (RowI.alloc' HO.out) (rdI_one _ _ _ rfl) (by omega) (by simp) (by simp; omega) ?_; intro v5 wm hown hsh hbm hgr)
            have hb3 := (bal_alloc (o := .cells #[.int .i64 0] 3) hbi).trans hbm
            rw [← HSN.out] at hown
            have HO5 := Lib.hid hown; clear hown hsh hgr hbm
            go_wp2_with fail
            go_roundw
            case rel => exact ⟨j + 1, by omega, by go_num, HO5.out, hb3⟩
            case measure => simp [intOf]; omega
          · have hex : unF s j = 1000000000 := by unfold unF; rw [if_neg hkb]
            have g1 : ((s : Int) == (j : Int)) = false := beq_eq_false_iff_ne.2 (by omega)
            rw [hex] at HSN
            clear hkb hex
            generalize tab j (unF s) = R at HO HSN hlk
            go_wp2_with (at_builtin; refine wpList_appN rfl _ _ rfl wF.heap.size _ 0 1 _ R [1000000000] (j + 1) (by rw [hlk]; rfl) rfl rfl (RowI.alloc' HO.out) (rdI_one _ _ _ rfl) (by omega) (by simp) (by simp; omega) ?_; intro v5 wm hown hsh hbm hgr)
            have hb3 := (bal_alloc (o := .cells #[.int .i64 1000000000] 3) hbi).trans hbm
            rw [← HSN.out] at hown
            have HO5 := Lib.hid hown; clear hown hsh hgr hbm
            go_wp2_with fail
            go_roundw
            case rel => exact ⟨j + 1, by omega, by go_num, HO5.out, hb3⟩
            case measure => simp [intOf]; omega
        case neg =>
          obtain rfl : j = n := by omega
          have hM1 := HX.out.below hbi
          have hlow := HX.out.low
          have hrow := HO.out
          have hX := CellO.of_row (hrow.low (B' := w.heap.size) hsz)
          have HB := Lib.hid hrow.blk
          have HCX := Lib.hid hX
          have HM1 := Lib.hid hM1; have HLOW := Lib.hid hlow
          have HSN := Lib.hid (toG_succ s j unF)
          have hgl := toG_len s j unF
          generalize toG s j unF = L at HM1 HLOW HSN hgl HX
          clear hrow hM1 hlow HO hX
          go_wp2_with (at_builtin; refine wpList_appM rfl _ _ rfl w.heap.size wF.heap.size wI.heap.size _ (.slice adr2 j car2) L vs (tab j (unF s)) (s + 1) (by rw [hgl]) rfl rfl (by simp [go_sem]) (HM1.out.below ((Below.refl _ _).alloc (Nat.le_refl _) _)) (HCX.out.below ((Below.refl _ _).alloc (Nat.le_refl _) _)) HB.out HLOW.out (by rw [hgl]; omega) (by simp; omega) ?_; intro ad5 cap5 wm hmat5 hbm)
          have hb3 := ((hbel2.trans (hbi.mono hsz)).alloc (by omega) (.cells #[.slice adr2 j car2] 29)).trans hbm
          rw [← HSN.out] at hmat5
          have HM5 := Lib.hid hmat5; clear hmat5 hbm
          go_wp2_with fail
          go_roundw
          case rel => exact ⟨s + 1, _, by omega, by go_num, HM5.out, hb3⟩
          case measure => simp [intOf]; omega

theorem ex_unit (n : Nat) (m : Nat → Nat → Int) (b : Nat) : tab n (unF b) = tab n (exF n m b 0) := tab_congr fun i _ => by
  unfold unF exF
  by_cases e : b = i
  · rw [if_pos e, if_pos e.symm]
  · rw [if_neg e, if_neg (fun h => e h.symm)]
theorem getD_appE {vs : List Value} {u : Value} {k : Nat} (h : vs.length = k) : (vs ++ [u]).getD k undef = u := by
  subst h
  exact getD_snocE _ _ _

set_option maxHeartbeats 3200000 in
set_option maxRecDepth 100000 in
theorem byStep_c (n b : Nat) (ad : Option Addr) (cap : Nat) (m : Nat → Nat → Int) (w : World) (hr : RdM w ad (toM n m)) (hn : 1 ≤ n ∧ n ≤ 6) (hb : b < n) (hnum : ∀ a b, a < n → b < n → numB (m a b) = true) :
    Calls Try.prog 42 #[.slice ad n cap, .int .i64 b] w fun e w' => ∃ ad' cap', e = .returned (.slice ad' (n + 1) cap') ∧ (∃ vs, MatO w' w.heap.size (.slice ad' (n + 1) cap') (toG (n + 1) n (exF n m b)) vs) ∧ Below w.heap.size w w' := by
  have HBD := Lib.hid (fun s v (hv : v < n) => ex_bd hnum hb (s := s) hv)
  have HR := Lib.hid hr; have HNUM := Lib.hid hnum
  have CU := Lib.hid (fun w => unit_c n w hn)
  clear hr hnum
  go_enter Try.func42, Try.ntmps42
  go_wp2_with fail
  refine (CU.out _).mono ?_
  rintro e w1 ⟨au, cu, vu, rfl, hmu, hb1⟩
  have hu := hmu.each b (by rw [toM_len]; exact hb)
  obtain ⟨g0, c0, e0, hB0, _, ho0⟩ := hmu.cells (by rw [toM_len]; omega)
  rw [toM_len] at e0
  injection e0 with e0 _ _
  subst e0
  have hlu := hmu.len
  rw [toM_len] at hlu
  have k0 : w1.cell? ⟨g0, b, none⟩ = some (vu.getD b undef) := ho0.cell? (by simp [List.getD, hlu, hb])
  rw [toM_row _ hb] at hu
  have hus := hu
  obtain ⟨a0, c1, eu, _⟩ := hus
  rw [tab_length] at eu
  rw [eu] at hu k0
  rw [ex_unit n m b] at hu
  have HU := Lib.hid hu
  have hsz1 := hb1.size
  have HM := Lib.hid (MatO.oneC hu hsz1 rfl)
  have hb4 := bal_alloc (o := .cells #[.slice a0 n c1] 29) hb1
  have x1 : (0 : Int) ≤ (b : Int) := by omega
  have x2 : (b : Int) < (n : Int) := by omega
  clear hmu ho0 hlu eu hu
  go_wp2_with fail
  go_loopw [5, 6, 17] (fun u v i wr => ∃ (s : Nat) (vs : List Value), s ≤ n ∧ i = .int .i64 s ∧ MatO wr w.heap.size v (toG (s + 1) n (exF n m b)) vs ∧ u = vs.getD s undef ∧ Below w.heap.size w wr) (fun _ _ i _ => n - (intOf i).toNat)
  case atStart => exact ⟨0, _, Nat.zero_le _, rfl, HM.out, rfl, hb4⟩
  case round =>
    obtain ⟨wF, rfl⟩ : ∃ x : World, x = wr := ⟨_, rfl⟩
    obtain ⟨s, vs, hs, rfl, hmat, rfl, hbel2⟩ := hrel
    obtain ⟨adv, cav, rfl, _⟩ := hmat.shape
    have hu := hmat.each s (by rw [toG_len]; omega)
    have hlv := hmat.len
    rw [toG_row _ (by omega)] at hu
    have hus := hu
    obtain ⟨a2, c2, eu, _⟩ := hus
    rw [tab_length] at eu
    rw [eu] at hu ⊢
    rw [toG_len] at hmat hlv ⊢
    have HX := Lib.hid hmat
    have HU2 := Lib.hid hu.rd
    clear hmat HM hb4 hu HU k0 hb1 hsz1 eu hB0
    have hsz := hbel2.size
    by_cases hls : s < n
    case neg =>
      obtain rfl : s = n := by omega
      go_wp2_with fail
      go_ret
      exact ⟨adv, cav, rfl, ⟨vs, HX.out⟩, hbel2⟩
    case pos =>
      have CA := Lib.hid (applied_c n ad cap m a2 c2 (exF n m b s) wF (HR.out.below hbel2) HU2.out hn (fun i k hi hk => by
        have h1 := numB_t (HNUM.out i k hi hk)
        have h2 := HBD.out s k hk
        omega))
      rw [show tab n (fun i => mnF 1000000000 (fun k => prodZ (m i k) (exF n m b s k)) n) = tab n (exF n m b (s + 1)) from rfl] at CA
      go_wp2_with fail
      refine CA.out.mono ?_
      rintro e w2 ⟨a3, c3, rfl, hrow, hb2⟩
      have HX2 := Lib.hid (HX.out.below hb2)
      have HCX := Lib.hid (CellO.of_row (hrow.low (B' := w.heap.size) hsz))
      have HB := Lib.hid hrow.blk
      have HLOW := Lib.hid HX.out.low
      have hsz2 := hb2.size
      have HSN := Lib.hid (toG_succ (s + 1) n (exF n m b))
      have hgl := toG_len (s + 1) n (exF n m b)
      have HLV := Lib.hid hlv
      generalize toG (s + 1) n (exF n m b) = L at HX2 HLOW HSN hgl HX
      clear hrow HX CA HU2 hlv
      go_wp2_with (at_builtin; refine wpList_appM rfl _ _ rfl w.heap.size wF.heap.size w2.heap.size _ (.slice a3 n c3) L vs (tab n (exF n m b (s + 1))) (s + 2) (by rw [hgl]) rfl rfl (by simp [go_sem]) (HX2.out.below ((Below.refl _ _).alloc (Nat.le_refl _) _)) (HCX.out.below ((Below.refl _ _).alloc (Nat.le_refl _) _)) HB.out HLOW.out (by rw [hgl]; omega) (by simp; omega) ?_; intro ad5 cap5 wm hmat5 hbm)
      have hb3 := ((hbel2.trans (hb2.mono hsz)).alloc (by omega) (.cells #[.slice a3 n c3] 29)).trans hbm
      rw [← HSN.out] at hmat5
      have HM5 := Lib.hid hmat5; clear hmat5 hbm
      go_wp2_with fail
      go_roundw
      case rel => exact ⟨s + 1, vs ++ [.slice a3 n c3], by omega, by go_num, HM5.out, (getD_appE HLV.out).symm, hb3⟩
      case measure => simp [intOf]; omega
end Go.Proofs.Ytbffcbjbeeagmaa
