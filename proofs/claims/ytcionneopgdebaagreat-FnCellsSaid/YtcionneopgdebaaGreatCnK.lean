/-
  Some texts of this proof in one: CnK CnM CellsL. Each part tells what it proves. By an AI agent.
-/
import Derived.Test.YtcionneopgdebaaGreatCnJ
import Derived.Test.YtcionneopgdebaaGreatCsW
import Derived.Test.YtcionneopgdebaaGreatArG
import Derived.Deep.QuietTactic
import Derived.Test.YtcionneopgdebaaGreatCpZ
import Derived.Deep.DeepCutAuto

/-
  Small calls of the law of the cells, and what it asks, plain. By an AI agent.
-/
namespace Go.Proofs.YtcionneopgdebaaGreat
open Go.RowKit

set_option maxHeartbeats 400000 in
theorem pIn_c (ad : Option Addr) (cap : Nat) (xs : List Int) (y : Int) (w : World) (hl : xs.length ≤ 1048576) (hr : RdI w ad xs) :
    Calls Tryz.prog 20 #[.slice ad xs.length cap, .int .i64 y] w fun e w' => e = .returned (.bool (decide (y ∈ xs))) ∧ w = w' := by
  have HR := Lib.hid hr; clear hr
  go_enter Tryz.func20, Tryz.ntmps20
  go_wp2
  go_loop [9] (fun i => ∃ k : Nat, k ≤ xs.length ∧ i = .int .i64 k ∧ ∀ j, j < k → xs.getD j 0 ≠ y) (fun i => xs.length - (intOf i).toNat)
  case atStart => exact ⟨0, Nat.zero_le _, rfl, fun j hj => by omega⟩
  case round =>
    obtain ⟨k, hk, rfl, hj⟩ := hrel
    have HJ := Lib.hid hj; clear hj
    by_cases hlt : k < xs.length
    · obtain ⟨b, off, rfl, hb, c⟩ := HR.out k hlt
      generalize hx : xs.getD k 0 = x at c
      have HX := Lib.hid hx; clear hx
      by_cases h1 : x = y
      · have h1' : (x == y) = true := by simpa using h1
        have H1 := Lib.hid h1; clear h1
        go_wp2
        go_ret
        refine ⟨ret_bool ?_, rfl⟩
        symm
        rw [decide_eq_true_iff, ← H1.out, ← HX.out]
        simp [List.getD, hlt]
      · have h1' : (x == y) = false := by simpa using h1
        have H1 := Lib.hid h1; clear h1
        go_wp2
        go_round
        case rel =>
          refine ⟨k + 1, by omega, by go_num, fun j hj => ?_⟩
          by_cases e : j = k
          · subst e; rw [HX.out]; exact H1.out
          · exact HJ.out j (by omega)
        case measure => simp [intOf]; omega
    · have he : k = xs.length := by omega
      subst he
      go_wp2
      go_ret
      refine ⟨ret_bool ?_, rfl⟩
      symm
      rw [decide_eq_false_iff_not]
      intro hc
      obtain ⟨j, hj, e⟩ := List.getElem_of_mem hc
      exact HJ.out j hj (by simp [List.getD, hj, e])
set_option maxHeartbeats 800000 in
theorem pSameP_c (ad : Option Addr) (cap : Nat) (ad' : Option Addr) (cap' : Nat) (xs : List Pt) (w : World) (hl : xs.length ≤ 1048576) (hr : RdP w ad xs) (hr' : RdP w ad' xs) :
    Calls Tryz.prog 16 #[.slice ad xs.length cap, .slice ad' xs.length cap'] w fun e w' => e = .returned (.bool true) ∧ Below w.heap.size w w' := by
  have HR := Lib.hid hr; clear hr
  have HR' := Lib.hid hr'; clear hr'
  go_enter Tryz.func16, Tryz.ntmps16
  go_wp2_with fail
  go_loopw [13] (fun i wr => ∃ k : Nat, k ≤ xs.length ∧ i = .int .i64 k ∧ Below w.heap.size w wr) (fun i _ => xs.length - (intOf i).toNat)
  case atStart => exact ⟨0, Nat.zero_le _, rfl, Below.refl _ _⟩
  case round =>
    obtain ⟨k, hk, rfl, hbel⟩ := hrel
    by_cases hlt : k < xs.length
    · obtain ⟨b, off, rfl, hb, c, c2⟩ := HR.out k hlt
      obtain ⟨b', off', rfl, hb', c', c2'⟩ := HR'.out k hlt
      have d := bcell hbel hb c
      have d' := bcell hbel hb' c'
      have d2 := bcell hbel hb c2
      have d2' := bcell hbel hb' c2'
      clear c c' c2 c2'
      generalize xs.getD k default = x at d d' d2 d2'
      obtain ⟨px, py⟩ := x
      simp only at d d' d2 d2'
      have x1 : (0 : Int) ≤ (k : Int) := by omega
      have x2 : (k : Int) < (xs.length : Int) := by omega
      go_wp2_with fail
      go_quiet (fail)
      go_wp2_with fail
      go_roundw
      case rel => exact ⟨k + 1, by omega, by go_num, bdrewN hbel _⟩
      case measure => simp [intOf]; omega
    · go_wp2_with fail
      go_ret
      exact ⟨rfl, hbel⟩
theorem take_sum (l : List Int) {k : Nat} (h : k < l.length) : (l.take (k + 1)).sum = (l.take k).sum + l.getD k 0 := by
  rw [List.take_succ_eq_append_getElem h, List.sum_append, List.getD_eq_getElem?_getD, List.getElem?_eq_getElem h]
  simp
theorem take_bd {l : List Int} {K : Int} (h : ∀ x ∈ l, 0 ≤ x) (ht : l.sum ≤ K) (k : Nat) : 0 ≤ (l.take k).sum ∧ (l.take k).sum ≤ K := by
  have nn : ∀ m : List Int, (∀ x ∈ m, 0 ≤ x) → 0 ≤ m.sum := fun m => by
    induction m with
    | nil => intro _; simp
    | cons x m ih =>
      intro h
      have h1 := h x (by simp)
      have h2 := ih fun y hy => h y (List.mem_cons_of_mem _ hy)
      rw [List.sum_cons]
      omega
  have h1 := nn (l.take k) fun x hx => h x (List.mem_of_mem_take hx)
  have h2 := nn (l.drop k) fun x hx => h x (List.mem_of_mem_drop hx)
  have e : l.sum = (l.take k).sum + (l.drop k).sum := by rw [← List.sum_append, List.take_append_drop]
  omega
set_option maxHeartbeats 800000 in
theorem pSumN_c (ad : Option Addr) (cap : Nat) (l : List Int) (w : World) (hr : RdI w ad l) (hl : l.length ≤ 100000) (h0 : ∀ x ∈ l, 0 ≤ x) (ht : l.sum ≤ 10000000000000000) :
    Calls Tryz.prog 19 #[.slice ad l.length cap] w fun e w' => e = .returned (.int .i64 l.sum) ∧ w = w' := by
  have HR := Lib.hid hr
  have HBD := Lib.hid (fun k => take_bd h0 ht k)
  have HST := Lib.hid (fun k (h : k < l.length) => take_sum l h)
  have HAL := Lib.hid (show (l.take l.length).sum = l.sum from by rw [List.take_length])
  obtain ⟨n, hn⟩ : ∃ n, l.length = n := ⟨_, rfl⟩
  have HN := Lib.hid hn
  rw [hn] at hl HST HAL ⊢
  generalize l.sum = Z at HAL ⊢
  obtain ⟨P, hP⟩ : ∃ P : Nat → Int, P = fun k => (l.take k).sum := ⟨_, rfl⟩
  have HBD := Lib.hid (fun k => show 0 ≤ P k ∧ P k ≤ 10000000000000000 from by rw [hP]; exact HBD.out k)
  have HST := Lib.hid (fun k (h : k < n) => show P (k + 1) = P k + l.getD k 0 from by rw [hP]; exact HST.out k h)
  have HAL := Lib.hid (show P n = Z from by rw [hP]; exact HAL.out)
  have HP0 := Lib.hid (show P 0 = 0 from by rw [hP]; simp)
  clear hr h0 ht hn hP
  go_enter Tryz.func19, Tryz.ntmps19
  go_wp2_with fail
  go_loop [3, 8] (fun x i => ∃ k : Nat, k ≤ n ∧ i = .int .i64 k ∧ x = .int .i64 (P k)) (fun _ i => n - (intOf i).toNat)
  case atStart => exact ⟨0, Nat.zero_le _, rfl, by rw [HP0.out]⟩
  case round =>
    obtain ⟨k, hk, rfl, rfl⟩ := hrel
    by_cases hlt : k < n
    · obtain ⟨b, off, rfl, hbb, c0⟩ := HR.out k (by rw [HN.out]; exact hlt)
      have h1 := HBD.out (k + 1)
      have hst := HST.out k hlt
      rw [hst] at h1
      have HS := Lib.hid hst
      generalize P k = S at h1 HS ⊢
      generalize l.getD k 0 = X at c0 h1 HS
      have e1 : IntKind.i64.wrap (S + X) = S + X := i64_small (by omega) (by omega)
      have x1 : (0 : Int) ≤ (k : Int) := by omega
      have x2 : (k : Int) < (n : Int) := by omega
      clear h1 hst
      go_wp2
      go_round
      case rel => exact ⟨k + 1, by omega, by go_num, by rw [HS.out]⟩
      case measure => simp [intOf]; omega
    · obtain rfl : k = n := by omega
      rw [HAL.out]
      go_wp2
      go_ret
      exact ⟨rfl, rfl⟩
end Go.Proofs.YtcionneopgdebaaGreat

/-
  What the law of the cells asks, plain. By an AI agent.
-/
namespace Go.Proofs.YtcionneopgdebaaGreat
open Geo

theorem hull_ne {X : List Pt} (hs : Strict X) (h : X ≠ []) : hullF X ≠ [] := fun e => by
  obtain ⟨x, hx⟩ := List.exists_mem_of_ne_nil _ h
  obtain ⟨y, hy, _⟩ := support hs 0 0 hx
  rw [e] at hy
  simp at hy
theorem pnt_ptB {t : Tm} (h : termB t = true) : ptB (pnt t) = true := by
  have := termB_t h
  unfold ptB pnt
  simp only [Bool.and_eq_true, inB_t]
  omega
/-- the hull of some points of terms is a polygon. -/
theorem poly_of {P : List Pt} (h0 : P ≠ []) (hl : P.length ≤ 12) (hb : ∀ p ∈ P, ptB p = true) : polyB (hullF (pySortF P)) = true ∧ (hullF (pySortF P)).length ≤ 12 := by
  refine ⟨?_, Nat.le_trans (hull_len_le P) hl⟩
  have hs := pySortF_strict P
  have hne : pySortF P ≠ [] := fun e => by
    obtain ⟨x, hx⟩ := List.exists_mem_of_ne_nil _ h0
    have := (pySortF_mem P x).2 hx
    rw [e] at this
    simp at this
  have h1 := hull_ne hs hne
  have h2 := hull_len_le P
  unfold polyB ptsB
  rw [Bool.and_eq_true, Bool.and_eq_true, decide_eq_true_eq, inB_t, List.all_eq_true]
  refine ⟨⟨⟨?_, by omega⟩, fun p hp => hb p ((pySortF_mem P p).1 (hull_sub hs hp))⟩, hull_hull hs⟩
  have := List.length_pos_iff.2 h1
  omega
theorem hulA_poly {L : List Tm} (hB : planeB L = true) : polyB (hulA L) = true ∧ (hulA L).length ≤ 12 := by
  obtain ⟨h0, h12, hp⟩ := planeB_t hB
  refine poly_of (P := ptsL L L.length) ?_ (by rw [ptsL_len]; exact h12) fun p hm => ?_
  · intro e
    have := ptsL_len L L.length
    rw [e] at this
    simp at this
    omega
  · have h1 : p ∈ ptA L := by unfold ptA; rw [pySortF_mem]; exact hm
    obtain ⟨t, ht, rfl⟩ := (ptA_mem p).1 h1
    exact pnt_ptB (hp t ht)
theorem hulX_poly {L : List Tm} (hB : planeB L = true) {C : List Int} (hC : C ∈ celA L) : polyB (hulX L C) = true ∧ (hulX L C).length ≤ 12 := by
  obtain ⟨h0, h12, hp⟩ := planeB_t hB
  obtain ⟨c0, c1, c2⟩ := celA_in hC
  refine poly_of (P := ptsX L C) ?_ (by unfold ptsX; rw [List.length_map]; omega) fun p hm => ?_
  · unfold ptsX
    intro e
    exact c0 (List.map_eq_nil_iff.1 e)
  · unfold ptsX at hm
    obtain ⟨x, hx, rfl⟩ := List.mem_map.1 hm
    obtain ⟨t, rfl, ht⟩ := c2 x hx
    exact pnt_ptB (hp t ht)
theorem areL_at {L : List Tm} {k : Nat} (hk : k < (celA L).length) : (areL L).getD k 0 = areaP (hulX L ((celA L).getD k [])) := by
  unfold areL
  rw [List.getD_eq_getElem?_getD, List.getElem?_map, List.getD_eq_getElem?_getD, List.getElem?_eq_getElem hk]
  rfl
theorem areL_len (L : List Tm) : (areL L).length = (celA L).length := List.length_map _
theorem areL_pos {L : List Tm} : ∀ x ∈ areL L, 0 ≤ x := fun x hx => by
  unfold areL at hx
  obtain ⟨C, hC, rfl⟩ := List.mem_map.1 hx
  have := area_pos hC
  omega
/-- the sum is the whole. -/
theorem whole_sum {L : List Tm} (hB : planeB L = true) : (areL L).sum = areaP (hulA L) ∧ ((celA L).length = 0 ↔ areaP (hulA L) = 0) := by
  have hd := plane_dist hB
  constructor
  · by_cases h : celA L = []
    · rw [no_cell h]
      unfold areL
      rw [h]
      rfl
    · exact areas_hull hd h
  · rw [← whole_zero hd]
    exact ⟨List.eq_nil_of_length_eq_zero, fun h => by rw [h]; rfl⟩
/-- each term is in a cell or among those unused. -/
theorem unu_mem (C : List (List Int)) (n t : Nat) (h : t < n) : decide ((t : Int) ∈ unuF C n) = !usedB C t := by
  unfold unuF
  rw [Bool.eq_iff_iff, decide_eq_true_eq, List.mem_map]
  constructor
  · rintro ⟨s, hs, e⟩
    obtain rfl : s = t := by omega
    exact (List.mem_filter.1 hs).2
  · intro g
    exact ⟨t, List.mem_filter.2 ⟨List.mem_range.2 h, g⟩, rfl⟩
/-- how many of the first terms are used. -/
def usN (C : List (List Int)) : Nat → Nat
  | 0 => 0
  | k + 1 => usN C k + if usedB C k = true then 1 else 0
theorem us_all (C : List (List Int)) : ∀ n, (unuF C n).length + usN C n = n
  | 0 => rfl
  | n + 1 => by
    have ih := us_all C n
    rw [unu_step]
    unfold usN
    cases h : usedB C n
    · rw [if_neg (by simp), if_neg (by simp), List.length_append, List.length_singleton]; omega
    · rw [if_pos rfl, if_pos rfl]; omega
end Go.Proofs.YtcionneopgdebaaGreat

/-
  The walk of 'laws.FnCells': it returns true. Printed by gen_lawCn.py. By an AI agent.
-/
namespace Go.Proofs.YtcionneopgdebaaGreat
open Go.RowKit

theorem CelR.ints {B : Bool} {X : List Int} {w : World} {e : Ending} {w' : World} (h : CelR B X w e w') : IntsO B X w e w' := by
  obtain ⟨v, rfl, hrow, hb⟩ := h
  obtain ⟨ad, cap, rfl, hrd⟩ := RowI.shape hrow
  exact ⟨ad, cap, rfl, hrd, hb⟩
theorem law_da {H : List Pt} (hpl : polyB H = true ∧ H.length ≤ 12) (ad : Option Addr) (c : Nat) (w : World) (hr : RdP w ad H) : Calls Tryz.prog 18 #[.slice ad H.length c] w fun e w' => e = .returned (.tuple #[.int .i64 (areaP H), .bool true]) ∧ Below w.heap.size w w' := by
  obtain ⟨hp, hl⟩ := hpl
  have h := iDoubleArea_c ad c H w hr (by omega)
  unfold daV at h
  rw [hp, if_pos rfl] at h
  exact h
theorem law_cp {L : List Tm} (hB : planeB L = true) {k : Nat} (hk : k < (celA L).length) : ∃ H : List Pt, cpB L (k : Int) = true ∧ cpH L (k : Int) = H ∧ (polyB H = true ∧ H.length ≤ 12) ∧ areaP H = (areL L).getD k 0 ∧ 1 ≤ (areL L).getD k 0 := by
  refine ⟨hulX L ((celA L).getD k []), ?_, rfl, hulX_poly hB (cel_mem hk), (areL_at hk).symm, ?_⟩
  · unfold cpB
    rw [hB, Bool.true_and, inB_t]
    omega
  · rw [areL_at hk]
    exact area_pos (cel_mem hk)

set_option maxHeartbeats 64000000 in
set_option maxRecDepth 100000 in
theorem lawCells_any (ad0 : Option Addr) (n0 cap0 : Nat) (ad1 : Option Addr) (n1 cap1 : Nat) (w : World) (hm0 : n0 ≤ 9223372036854775807) (hr0 : RdB w ad0 n0) (hm1 : n1 ≤ 9223372036854775807) (hr1 : RdB w ad1 n1) :
    Calls Tryz.prog 3 #[.slice ad0 n0 cap0, .slice ad1 n1 cap1] w fun e w' => e = .returned (.bool true) ∧ Below w.heap.size w w' := by
  have hb := Below.refl w.heap.size w
  have CD := Lib.hid (fun w h => drawCellsOf_c ad0 n0 cap0 w hm0 h)
  have CV := Lib.hid (fun w h => drawCellPolygon_c ad1 n1 cap1 w hm1 h)
  have HB0 := Lib.hid hr0; have K := Lib.hid hr1; clear hr0 hr1
  have CG := Lib.hid (big_c ad0 n0 cap0 ad1 n1 cap1 w hm0)
  generalize bigB n0 n1 = tb at CG
  cases tb
  case true =>
    go_enter Tryz.func3, Tryz.ntmps3
    go_wp2_with fail
    refine CG.out.mono ?_
    rintro e w1 ⟨rfl, rfl⟩
    go_wp2_with fail
    go_ret
    exact ⟨rfl, hb⟩
  case false =>
    go_enter Tryz.func3, Tryz.ntmps3
    go_wp2_with fail
    refine CG.out.mono ?_
    rintro e w0 ⟨rfl, rfl⟩
    clear CG
    go_wp2_with fail
    refine (CD.out _ HB0.out).mono ?_
    rintro e w1 ⟨ada, ca, L, rfl, hll, hra, hw⟩
    replace K := Lib.hid (K.out.below hw)
    have A := Lib.hid hra; clear hra
    replace hb := ball hb hw
    clear hw CD HB0
    have c1 := fun w h => iCellsOf_c ada ca L w h (by omega)
    have c2 := fun w h => sCellsOf_c ada ca L w h (by omega)
    have c3 := fun w h => (iCellAreas_c ada ca L w h (by omega)).mono fun e w' h => CelR.ints h
    have c4 := fun w h => (sCellAreas_c ada ca L w h (by omega)).mono fun e w' h => CelR.ints h
    have c5 := fun w h => iNewtonPolygon_c ada ca L w h (by omega)
    have c6 := fun w h => sNewtonPolygon_c ada ca L w h (by omega)
    have c7 := fun w h => iUnusedTerms_c ada ca L w h (by omega)
    have c8 := fun w h => sUnusedTerms_c ada ca L w h (by omega)
    have c9 := fun w h => iIsPlane_c ada ca L w h (by omega)
    have c10 := fun (h : planeB L = true) (a : Option Addr) (c : Nat) (w : World) (hr : RdP w a (if planeB L = true then hulA L else [])) => show Calls Tryz.prog 18 #[.slice a (if planeB L = true then hulA L else []).length c] w fun e w' => e = .returned (.tuple #[.int .i64 (areaP (hulA L)), .bool true]) ∧ Below w.heap.size w w' from by
      rw [if_pos h] at hr ⊢
      exact law_da (hulA_poly h) a c w hr
    have hwh : planeB L = true → (if planeB L = true then areL L else []).length = (if planeB L = true then celA L else []).length ∧ (if planeB L = true then areL L else []).sum = areaP (hulA L) ∧ ((if planeB L = true then celA L else []).length = 0 ↔ areaP (hulA L) = 0) := fun h => by
      rw [if_pos h, if_pos h]
      exact ⟨areL_len L, (whole_sum h).1, (whole_sum h).2⟩
    have hcp : planeB L = true → ∀ k, k < (if planeB L = true then celA L else []).length → ∃ H : List Pt, cpB L (k : Int) = true ∧ cpH L (k : Int) = H ∧ (polyB H = true ∧ H.length ≤ 12) ∧ areaP H = (if planeB L = true then areL L else []).getD k 0 ∧ 1 ≤ (if planeB L = true then areL L else []).getD k 0 := fun h k hk => by
      rw [if_pos h] at hk ⊢
      exact law_cp h hk
    have hap : ∀ x ∈ (if planeB L = true then areL L else []), 0 ≤ x := fun x hx => by
      split at hx
      · exact areL_pos x hx
      · simp at hx
    have hwb : planeB L = true → areaP (hulA L) ≤ 10000000000000000 := fun h => by
      have hp := (hulA_poly h).1
      have hq := ptsB_t (Bool.and_eq_true_iff.1 hp).1
      exact (areaP_b hq.2.2 (by omega)).2
    have hun : planeB L = true → ∀ t, t < L.length → decide ((t : Int) ∈ (if planeB L = true then unuF (celA L) L.length else [])) = !usedB (if planeB L = true then celA L else []) t := fun h t ht => by
      rw [if_pos h, if_pos h]
      exact unu_mem (celA L) L.length t ht
    have hus : planeB L = true → (if planeB L = true then unuF (celA L) L.length else []).length + usN (if planeB L = true then celA L else []) L.length = L.length := fun h => by
      rw [if_pos h, if_pos h]
      exact us_all (celA L) L.length
    have hcl : (if planeB L = true then celA L else []).length ≤ 2000 := by
      split
      · rename_i h
        have := celA_len L (planeB_t h).2.1
        omega
      · simp
    have hal : (if planeB L = true then areL L else []).length ≤ 2000 := by
      split
      · rename_i h
        have := celA_len L (planeB_t h).2.1
        rw [areL_len]
        omega
      · simp
    have hrl : ∀ i, i < (if planeB L = true then celA L else []).length → ((if planeB L = true then celA L else []).getD i []).length ≤ 12 := fun i hi => by
      split
      · rename_i h
        rw [if_pos h] at hi
        exact Nat.le_trans (cell_len (cel_mem hi)) (planeB_t h).2.1
      · simp
    have hul : (if planeB L = true then unuF (celA L) L.length else []).length ≤ 13 := by
      split
      · have := unu_len (celA L) L.length
        omega
      · simp
    unfold LstO at c1 c2
    unfold IntsO at c3 c4 c7 c8
    unfold PtsO at c5 c6
    have hhl : (if planeB L = true then hulA L else []).length ≤ 40 := by
      split
      · rename_i h
        exact (ptsB_t (Bool.and_eq_true_iff.1 (hulA_poly h).1).1).2.1
      · simp
    generalize (if planeB L = true then celA L else []) = CL at c1 c2 hwh hcp hun hus hcl hrl
    generalize (if planeB L = true then areL L else []) = AR at c3 c4 hwh hcp hap hal
    generalize (if planeB L = true then hulA L else []) = HP at c5 c6 c10 hhl
    generalize (if planeB L = true then unuF (celA L) L.length else []) = UN at c7 c8 hun hus hul
    generalize areaP (hulA L) = WH at c10 hwh hwb
    generalize planeB L = B at c1 c2 c3 c4 c5 c6 c7 c8 c9 c10 hwh hcp hwb hun hus
    obtain ⟨nC, hnC⟩ : ∃ z, CL.length = z := ⟨_, rfl⟩
    obtain ⟨nA, hnA⟩ : ∃ z, AR.length = z := ⟨_, rfl⟩
    obtain ⟨nH, hnH⟩ : ∃ z, HP.length = z := ⟨_, rfl⟩
    obtain ⟨nU, hnU⟩ : ∃ z, UN.length = z := ⟨_, rfl⟩
    obtain ⟨n, hn⟩ : ∃ z, L.length = z := ⟨_, rfl⟩
    have q1 := fun (w : World) (a a2 : Option Addr) (c c2 : Nat) (h1 : RdM w a CL) (h2 : RdM w a2 CL) => sameM_c a c a2 c2 CL w (by omega) (fun i hi => Nat.le_trans (hrl i hi) (by omega)) h1 h2
    have hna : nA ≤ 2000 := by rw [← hnA]; exact hal
    have q2 := fun (w : World) (a a2 : Option Addr) (c c2 : Nat) (h1 : RdI w a AR) (h2 : RdI w a2 AR) => sameI_c a c a2 c2 AR w (by omega) h1 h2
    have q3 := fun (w : World) (a a2 : Option Addr) (c c2 : Nat) (h1 : RdP w a HP) (h2 : RdP w a2 HP) => pSameP_c a c a2 c2 HP w (by omega) h1 h2
    have q4 := fun (w : World) (a a2 : Option Addr) (c c2 : Nat) (h1 : RdI w a UN) (h2 : RdI w a2 UN) => sameI_c a c a2 c2 UN w (by omega) h1 h2
    rw [hnC] at c1 c2 hwh hcp hcl hrl q1
    rw [hnA] at c3 c4 hwh q2
    rw [hnH] at c5 c6 c10 q3
    rw [hnU] at c7 c8 hus q4 hul
    rw [hn] at c1 c2 c3 c4 c5 c6 c7 c8 c9 hun hus hll ⊢
    have HN := Lib.hid hn; have HNC := Lib.hid hnC; have HNA := Lib.hid hnA; have HNH := Lib.hid hnH; have HNU := Lib.hid hnU
    have C1 := Lib.hid c1; have C2 := Lib.hid c2; have C3 := Lib.hid c3; have C4 := Lib.hid c4; have C5 := Lib.hid c5; have C6 := Lib.hid c6; have C7 := Lib.hid c7; have C8 := Lib.hid c8; have C9 := Lib.hid c9; have C10 := Lib.hid c10
    have Q1 := Lib.hid q1; have Q2 := Lib.hid q2; have Q3 := Lib.hid q3; have Q4 := Lib.hid q4
    have HRLO := Lib.hid hrl; have HWH := Lib.hid hwh; have HCP := Lib.hid hcp; have HAP := Lib.hid hap; have HWB := Lib.hid hwb; have HUN := Lib.hid hun; have HUS := Lib.hid hus
    clear c1 c2 c3 c4 c5 c6 c7 c8 c9 c10 q1 q2 q3 q4 hwh hcp hap hwb hun hus hrl hn hnC hnA hnH hnU
    have ee1 : (B != B) = false := bne_self_eq_false B
    go_wp2_with fail
    refine (C1.out _ A.out).mono ?_
    rintro e w2 ⟨adc, cc, rfl, hp, hw⟩
    replace K := Lib.hid (K.out.below hw)
    replace A := Lib.hid (A.out.below hw)
    have L1 := Lib.hid hp; clear hp
    replace hb := ball hb hw
    clear hw C1 
    go_wp2_with fail
    refine (C2.out _ A.out).mono ?_
    rintro e w3 ⟨adc2, cc2, rfl, hp, hw⟩
    replace K := Lib.hid (K.out.below hw)
    replace A := Lib.hid (A.out.below hw)
    replace L1 := Lib.hid (L1.out.below hw)
    have L2 := Lib.hid hp; clear hp
    replace hb := ball hb hw
    clear hw C2 
    go_wp2_with fail
    refine (C3.out _ A.out).mono ?_
    rintro e w4 ⟨ada1, ca1, rfl, hp, hw⟩
    replace K := Lib.hid (K.out.below hw)
    replace A := Lib.hid (A.out.below hw)
    replace L1 := Lib.hid (L1.out.below hw)
    replace L2 := Lib.hid (L2.out.below hw)
    have A1 := Lib.hid hp; clear hp
    replace hb := ball hb hw
    clear hw C3 
    go_wp2_with fail
    refine (C4.out _ A.out).mono ?_
    rintro e w5 ⟨ada2, ca2, rfl, hp, hw⟩
    replace K := Lib.hid (K.out.below hw)
    replace A := Lib.hid (A.out.below hw)
    replace L1 := Lib.hid (L1.out.below hw)
    replace L2 := Lib.hid (L2.out.below hw)
    replace A1 := Lib.hid (A1.out.below hw)
    have A2 := Lib.hid hp; clear hp
    replace hb := ball hb hw
    clear hw C4 
    go_wp2_with fail
    refine (C5.out _ A.out).mono ?_
    rintro e w6 ⟨adh, ch, rfl, hp, hw⟩
    replace K := Lib.hid (K.out.below hw)
    replace A := Lib.hid (A.out.below hw)
    replace L1 := Lib.hid (L1.out.below hw)
    replace L2 := Lib.hid (L2.out.below hw)
    replace A1 := Lib.hid (A1.out.below hw)
    replace A2 := Lib.hid (A2.out.below hw)
    have H1 := Lib.hid hp; clear hp
    replace hb := ball hb hw
    clear hw C5 
    go_wp2_with fail
    refine (C6.out _ A.out).mono ?_
    rintro e w7 ⟨adh2, ch2, rfl, hp, hw⟩
    replace K := Lib.hid (K.out.below hw)
    replace A := Lib.hid (A.out.below hw)
    replace L1 := Lib.hid (L1.out.below hw)
    replace L2 := Lib.hid (L2.out.below hw)
    replace A1 := Lib.hid (A1.out.below hw)
    replace A2 := Lib.hid (A2.out.below hw)
    replace H1 := Lib.hid (H1.out.below hw)
    have H2 := Lib.hid hp; clear hp
    replace hb := ball hb hw
    clear hw C6 
    go_wp2_with fail
    refine (C7.out _ A.out).mono ?_
    rintro e w8 ⟨adu, cu, rfl, hp, hw⟩
    replace K := Lib.hid (K.out.below hw)
    replace A := Lib.hid (A.out.below hw)
    replace L1 := Lib.hid (L1.out.below hw)
    replace L2 := Lib.hid (L2.out.below hw)
    replace A1 := Lib.hid (A1.out.below hw)
    replace A2 := Lib.hid (A2.out.below hw)
    replace H1 := Lib.hid (H1.out.below hw)
    replace H2 := Lib.hid (H2.out.below hw)
    have U1 := Lib.hid hp; clear hp
    replace hb := ball hb hw
    clear hw C7 
    go_wp2_with fail
    refine (C8.out _ A.out).mono ?_
    rintro e w9 ⟨adu2, cu2, rfl, hp, hw⟩
    replace K := Lib.hid (K.out.below hw)
    replace A := Lib.hid (A.out.below hw)
    replace L1 := Lib.hid (L1.out.below hw)
    replace L2 := Lib.hid (L2.out.below hw)
    replace A1 := Lib.hid (A1.out.below hw)
    replace A2 := Lib.hid (A2.out.below hw)
    replace H1 := Lib.hid (H1.out.below hw)
    replace H2 := Lib.hid (H2.out.below hw)
    replace U1 := Lib.hid (U1.out.below hw)
    have U2 := Lib.hid hp; clear hp
    replace hb := ball hb hw
    clear hw C8 
    have CQ1 := Lib.hid (fun w h1 h2 => Q1.out w adc adc2 cc cc2 h1 h2)
    have CQ2 := Lib.hid (fun w h1 h2 => Q2.out w ada1 ada2 ca1 ca2 h1 h2)
    have CQ3 := Lib.hid (fun w h1 h2 => Q3.out w adh adh2 ch ch2 h1 h2)
    have CQ4 := Lib.hid (fun w h1 h2 => Q4.out w adu adu2 cu cu2 h1 h2)
    clear Q1 Q2 Q3 Q4
    go_wp2_with fail
    refine (CQ1.out _ L1.out L2.out).mono ?_
    rintro e w10 ⟨rfl, hw⟩
    replace K := Lib.hid (K.out.below hw)
    replace A := Lib.hid (A.out.below hw)
    replace L2 := Lib.hid (L2.out.below hw)
    replace A1 := Lib.hid (A1.out.below hw)
    replace A2 := Lib.hid (A2.out.below hw)
    replace H1 := Lib.hid (H1.out.below hw)
    replace H2 := Lib.hid (H2.out.below hw)
    replace U1 := Lib.hid (U1.out.below hw)
    replace U2 := Lib.hid (U2.out.below hw)
    replace hb := ball hb hw
    clear hw CQ1 L1
    go_wp2_with fail
    refine (CQ2.out _ A1.out A2.out).mono ?_
    rintro e w11 ⟨rfl, hw⟩
    replace K := Lib.hid (K.out.below hw)
    replace A := Lib.hid (A.out.below hw)
    replace L2 := Lib.hid (L2.out.below hw)
    replace A2 := Lib.hid (A2.out.below hw)
    replace H1 := Lib.hid (H1.out.below hw)
    replace H2 := Lib.hid (H2.out.below hw)
    replace U1 := Lib.hid (U1.out.below hw)
    replace U2 := Lib.hid (U2.out.below hw)
    replace hb := ball hb hw
    clear hw CQ2 A1
    go_wp2_with fail
    refine (CQ3.out _ H1.out H2.out).mono ?_
    rintro e w12 ⟨rfl, hw⟩
    replace K := Lib.hid (K.out.below hw)
    replace A := Lib.hid (A.out.below hw)
    replace L2 := Lib.hid (L2.out.below hw)
    replace A2 := Lib.hid (A2.out.below hw)
    replace H1 := Lib.hid (H1.out.below hw)
    replace U1 := Lib.hid (U1.out.below hw)
    replace U2 := Lib.hid (U2.out.below hw)
    replace hb := ball hb hw
    clear hw CQ3 H2
    go_wp2_with fail
    refine (CQ4.out _ U1.out U2.out).mono ?_
    rintro e w13 ⟨rfl, hw⟩
    replace K := Lib.hid (K.out.below hw)
    replace A := Lib.hid (A.out.below hw)
    replace L2 := Lib.hid (L2.out.below hw)
    replace A2 := Lib.hid (A2.out.below hw)
    replace H1 := Lib.hid (H1.out.below hw)
    replace U2 := Lib.hid (U2.out.below hw)
    replace hb := ball hb hw
    clear hw CQ4 U1
    go_wp2_with fail
    refine (C9.out _ A.out).mono ?_
    rintro e w14 ⟨rfl, hw⟩
    replace K := Lib.hid (K.out.below hw)
    replace A := Lib.hid (A.out.below hw)
    replace L2 := Lib.hid (L2.out.below hw)
    replace A2 := Lib.hid (A2.out.below hw)
    replace H1 := Lib.hid (H1.out.below hw)
    replace U2 := Lib.hid (U2.out.below hw)
    replace hb := ball hb hw
    clear hw C9 
    go_upto_if 150 with fail
    go_cut [] from 150 to 150 (fun wc => Below w14.heap.size w14 wc)
    case first =>
      clear K CV hb ee1
      have hb := Below.refl w14.heap.size w14
      cases B
      case false =>
        clear C10 HWH HCP HWB HUN HUS
        go_wp2_with fail
        go_meet
        exact hb
      case true =>
        obtain ⟨hnac, hsm, hz⟩ := HWH.out (by first | rfl | trivial)
        have hwb := HWB.out (by first | rfl | trivial)
        have hus := HUS.out (by first | rfl | trivial)
        have CDA := Lib.hid (C10.out (by first | rfl | trivial))
        have HCPa := Lib.hid (HCP.out (by first | rfl | trivial))
        have HUNa := Lib.hid (HUN.out (by first | rfl | trivial))
        have hrl2 : ∀ k, k < nC → (CL.getD k []).length ≤ 12 := HRLO.out
        have CPS := Lib.hid (fun (a : Option Addr) (c : Nat) (w : World) (hr : RdI w a AR) => show Calls Tryz.prog 19 #[.slice a nA c] w fun e w' => e = .returned (.int .i64 WH) ∧ w = w' from by
          have := pSumN_c a c AR w hr (by rw [HNA.out]; omega) HAP.out (by omega)
          rw [HNA.out, hsm] at this
          exact this)
        obtain ⟨zb, z1, z2⟩ : ∃ zb : Bool, ((nC : Int) == 0) = zb ∧ (WH == 0) = zb := by
          refine ⟨((nC : Int) == 0), rfl, ?_⟩
          rw [Bool.eq_iff_iff, beq_iff_eq, beq_iff_eq]
          omega
        have z3 : (zb != zb) = false := bne_self_eq_false zb
        obtain rfl : nA = nC := hnac
        have HUSb := Lib.hid hus
        clear HWH HWB HUS HCP HUN C10 hsm hz hwb hus
        go_wp2_with fail
        refine (CDA.out adh ch _ H1.out).mono ?_
        rintro e w35 ⟨rfl, hw⟩
        replace A := Lib.hid (A.out.below hw)
        replace L2 := Lib.hid (L2.out.below hw)
        replace A2 := Lib.hid (A2.out.below hw)
        replace U2 := Lib.hid (U2.out.below hw)
        replace hb := ball hb hw
        clear hw CDA H1
        have CPS := Lib.hid (CPS.out ada2 ca2)
        go_wp2_with fail
        refine (CPS.out _ A2.out).mono ?_
        rintro e ws ⟨rfl, hws⟩
        rw [← hws]
        clear CPS hws
        have ee2 : (WH != WH) = false := bne_self_eq_false WH
        have ee3 : ((nA : Int) != (nA : Int)) = false := bne_self_eq_false _
        obtain ⟨P, hP⟩ : ∃ P : Nat → Int, P = fun t => (nU : Int) + (usN CL t : Nat) := ⟨_, rfl⟩
        have HP0 := Lib.hid (show P 0 = (nU : Int) from by rw [hP]; simp [usN])
        have HPN := Lib.hid (show P n = (n : Int) from by rw [hP]; have := HUSb.out; show (nU : Int) + (usN CL n : Nat) = n; omega)
        have HPS := Lib.hid (fun t => show P (t + 1) = P t + (if usedB CL t = true then 1 else 0) from by rw [hP]; show (nU : Int) + ((usN CL t + if usedB CL t = true then 1 else 0 : Nat) : Int) = _; split <;> simp <;> omega)
        have HPB := Lib.hid (fun t (ht : t ≤ n) => show 0 ≤ P t ∧ P t ≤ 100 from by
          rw [hP]
          have hle : ∀ k, usN CL k ≤ k := fun k => by
            induction k with
            | zero => exact Nat.le_refl _
            | succ k ih => unfold usN; split <;> omega
          have := hle t
          show 0 ≤ (nU : Int) + (usN CL t : Nat) ∧ (nU : Int) + (usN CL t : Nat) ≤ 100
          omega)
        have HUT := Lib.hid (fun t k (h : k < nA) => used_take CL t (by rw [HNC.out]; exact h))
        have HUA := Lib.hid (fun t => show usedB (CL.take nA) t = usedB CL t from by rw [← HNC.out, List.take_length])
        have HLL := Lib.hid hll; have HRL := Lib.hid hrl2
        clear hP HUSb
        go_wp2_with fail
        go_loopw [24, 183] (fun q i wr => ∃ t : Nat, t ≤ n ∧ i = .int .i64 t ∧ q = .int .i64 (P t) ∧ Below w35.heap.size w35 wr) (fun _ i _ => n - (intOf i).toNat)
        case atStart => exact ⟨0, Nat.zero_le _, rfl, by rw [HP0.out], Below.refl _ _⟩
        case round =>
          obtain ⟨wE, rfl⟩ : ∃ z : World, z = wr := ⟨_, rfl⟩
          obtain ⟨t, ht, rfl, rfl, hbel⟩ := hrel
          by_cases htl : t < n
          case pos =>
            have HLE := Lib.hid (L2.out.below hbel)
            have HUE := Lib.hid (U2.out.below hbel)
            have CPU := pIn_c adu2 cu2 UN (t : Int) wE (by rw [HNU.out]; omega) HUE.out
            rw [HUNa.out t htl, HNU.out] at CPU
            have hps := HPS.out t
            have hpb := HPB.out t ht
            obtain ⟨PT, hPT⟩ : ∃ P : Nat → Bool, P = fun k => usedB (CL.take k) t := ⟨_, rfl⟩
            have HU2 := Lib.hid (fun k (h : k < nA) => show PT (k + 1) = (PT k || decide ((t : Int) ∈ CL.getD k [])) from by rw [hPT]; exact HUT.out t k h)
            have HPA := Lib.hid (show PT nA = usedB CL t from by rw [hPT]; exact HUA.out t)
            have HPZ := Lib.hid (show PT 0 = false from by rw [hPT]; rfl)
            generalize usedB CL t = UB at CPU hps HPA
            have CPU := Lib.hid CPU
            have HPS2 := Lib.hid hps
            have y1 : (0 : Int) ≤ (t : Int) := by omega
            have y2 : (t : Int) < (n : Int) := by omega
            have HBE := Lib.hid hbel
            obtain ⟨P1, hP1⟩ : ∃ z, P (t + 1) = z := ⟨_, rfl⟩
            have HP1 := Lib.hid hP1
            rw [hP1] at HPS2
            generalize P t = PP at HPS2 hpb ⊢
            clear hPT hps hP1
            go_wp2_with fail
            go_loopw [26, 188] (fun q i wr => ∃ k : Nat, k ≤ nA ∧ i = .int .i64 k ∧ q = .bool (PT k) ∧ wE = wr) (fun _ i _ => nA - (intOf i).toNat)
            case atStart => exact ⟨0, Nat.zero_le _, rfl, by rw [HPZ.out], rfl⟩
            case round =>
              obtain ⟨k, hk, rfl, rfl, rfl⟩ := hrel
              by_cases hkl : k < nA
              case pos =>
                obtain ⟨b1, o1, a1, c1, rfl, hbb1, k1, r1⟩ := HLE.out k (by rw [HNC.out]; exact hkl)
                have hll := HRL.out k hkl
                have CH := pIn_c a1 c1 (CL.getD k []) (t : Int) wE (by omega) r1
                have hu2 := HU2.out k hkl
                generalize decide ((t : Int) ∈ CL.getD k []) = hbo at CH hu2
                have CH := Lib.hid CH
                generalize (CL.getD k []).length = nx at CH k1
                have x1 : (0 : Int) ≤ (k : Int) := by omega
                have x2 : (k : Int) < (nA : Int) := by omega
                have HU3 := Lib.hid hu2
                clear r1 hll hu2
                cases hp : PT k
                case true =>
                  rw [hp] at HU3
                  go_wp2_with fail
                  go_roundw
                  case rel => exact ⟨k + 1, by omega, by go_num, by rw [HU3.out]; rfl, by first | rfl | trivial⟩
                  case measure => simp [intOf]; omega
                case false =>
                  rw [hp] at HU3
                  go_wp2_with fail
                  refine CH.out.mono ?_
                  rintro e w8 ⟨rfl, rfl⟩
                  go_wp2_with fail
                  go_roundw
                  case rel => exact ⟨k + 1, by omega, by go_num, by rw [HU3.out]; rfl, by first | rfl | trivial⟩
                  case measure => simp [intOf]; omega
              case neg =>
                have hkn : k = nA := by omega
                rw [hkn, HPA.out]
                cases UB
                case true =>
                  have e1 : IntKind.i64.wrap (PP + 1) = PP + 1 := i64_small (by omega) (by omega)
                  go_wp2_with fail
                  refine CPU.out.mono ?_
                  rintro e w8 ⟨rfl, rfl⟩
                  go_wp2_with fail
                  go_roundw
                  case rel => exact ⟨t + 1, by omega, by go_num, by rw [HP1.out, HPS2.out]; rfl, HBE.out⟩
                  case measure => simp [intOf]; omega
                case false =>
                  go_wp2_with fail
                  refine CPU.out.mono ?_
                  rintro e w8 ⟨rfl, rfl⟩
                  go_wp2_with fail
                  go_roundw
                  case rel => exact ⟨t + 1, by omega, by go_num, by rw [HP1.out, HPS2.out]; simp, HBE.out⟩
                  case measure => simp [intOf]; omega
          case neg =>
            obtain rfl : t = n := by omega
            rw [HPN.out]
            have ee6 : ((t : Int) != (t : Int)) = false := bne_self_eq_false _
            replace A := Lib.hid (A.out.below hbel)
            replace A2 := Lib.hid (A2.out.below hbel)
            replace hb := ball hb hbel
            clear HPS HPB HUT HUA HUNa L2 U2 HPN HP0
            go_wp2_with fail
            go_loopw [214] (fun i wr => ∃ k : Nat, k ≤ nA ∧ i = .int .i64 k ∧ Below wE.heap.size wE wr) (fun i _ => nA - (intOf i).toNat)
            case atStart => exact ⟨0, Nat.zero_le _, rfl, Below.refl _ _⟩
            case round =>
              obtain ⟨wF, rfl⟩ : ∃ z : World, z = wr := ⟨_, rfl⟩
              obtain ⟨k, hk, rfl, hbF⟩ := hrel
              by_cases hkl : k < nA
              case neg =>
                have hbb := ball hb hbF
                go_wp2_with fail
                go_meet
                exact hbb
              case pos =>
                obtain ⟨H, hB1, hH, hpo, har, h1⟩ := HCPa.out k hkl
                have c1 := fun w h => iCellPolygon_c ada ca L (k : Int) w h (by rw [HN.out]; omega)
                have c2 := fun w h => sCellPolygon_c ada ca L (k : Int) w h (by rw [HN.out]; omega)
                have c3 := fun a c w h => law_da hpo a c w h
                have hHl : H.length ≤ 40 := (ptsB_t (Bool.and_eq_true_iff.1 hpo.1).1).2.1
                have c4 := fun (w : World) (a a2 : Option Addr) (c c2 : Nat) (h1 : RdP w a H) (h2 : RdP w a2 H) => pSameP_c a c a2 c2 H w (by omega) h1 h2
                unfold PtsO at c1 c2
                rw [hB1, hH, HN.out] at c1 c2
                simp only [if_true] at c1 c2
                rw [har] at c3
                obtain ⟨b, off, rfl, hbb0, ka⟩ := (A2.out.below hbF) k (by rw [HNA.out]; exact hkl)
                generalize AR.getD k 0 = ar at c3 h1 ka
                obtain ⟨nHH, hnHH⟩ : ∃ z, H.length = z := ⟨_, rfl⟩
                rw [hnHH] at c1 c2 c3 c4
                have AF := Lib.hid (A.out.below hbF)
                have D1 := Lib.hid c1; have D2 := Lib.hid c2; have D3 := Lib.hid c3; have D4 := Lib.hid c4
                have x1 : (0 : Int) ≤ (k : Int) := by omega
                have x2 : (k : Int) < (nA : Int) := by omega
                have ee7 : (ar != ar) = false := bne_self_eq_false ar
                have ee8 : decide (ar < 1) = false := decide_eq_false (by omega)
                have ee9 : ¬ ar < 1 := by omega
                clear c1 c2 c3 c4 hB1 hH hpo har hHl hnHH
                go_wp2_with fail
                refine (D1.out _ AF.out).mono ?_
                rintro e v1 ⟨adp, cp, rfl, hp1, hv1⟩
                have HP1' := Lib.hid hp1
                have AF2 := Lib.hid (AF.out.below hv1)
                have hbF1 := ball hbF hv1
                have ka := bcell hv1 hbb0 ka
                have hbb1 := cell_lt ka
                clear hp1 hv1 D1
                go_wp2_with fail
                refine (D2.out _ AF2.out).mono ?_
                rintro e v2 ⟨adq, cq, rfl, hp2, hv2⟩
                have HP2' := Lib.hid hp2
                have HP1' := Lib.hid (HP1'.out.below hv2)
                have hbF2 := ball hbF1 hv2
                have ka := bcell hv2 hbb1 ka
                have hbb2 := cell_lt ka
                clear hp2 hv2 D2
                have D3a := Lib.hid (D3.out adp cp _ HP1'.out)
                go_wp2_with fail
                refine D3a.out.mono ?_
                rintro e v3 ⟨rfl, hv3⟩
                have D4a := Lib.hid (D4.out v3 adp adq cp cq (HP1'.out.below hv3) (HP2'.out.below hv3))
                have hbF3 := ball hbF2 hv3
                have ka := bcell hv3 hbb2 ka
                have hbb3 := cell_lt ka
                clear hv3 D3 D3a
                go_wp2_with fail
                refine D4a.out.mono ?_
                rintro e v4 ⟨rfl, hv4⟩
                have hbF4 := ball hbF3 hv4
                have ka := bcell hv4 hbb3 ka
                clear hv4 D4 D4a
                go_wp2_with fail
                go_roundw
                case rel => exact ⟨k + 1, by omega, by go_num, hbF4⟩
                case measure => simp [intOf]; omega
    case rest =>
      obtain ⟨wR, rfl⟩ : ∃ x : World, x = wc := ⟨_, rfl⟩
      clear A L2 A2 H1 U2
      replace K := Lib.hid (K.out.below hcut)
      replace hb := ball hb hcut
      clear hcut
      go_wp2_with fail
      refine (CV.out _ K.out).mono ?_
      rintro e w75 ⟨adx, cx, X, xi, rfl, hlx, hrx, hw⟩
      have X1 := Lib.hid hrx; clear hrx
      replace hb := ball hb hw
      clear hw CV K
      have c1 := fun w h => iCellPolygon_c adx cx X xi w h (by omega)
      have c2 := fun w h => sCellPolygon_c adx cx X xi w h (by omega)
      unfold PtsO at c1 c2
      have hhl : (if cpB X xi = true then cpH X xi else []).length ≤ 1000 := by
        split
        · rename_i h
          unfold cpB at h
          rw [Bool.and_eq_true, inB_t] at h
          have hk : xi.toNat < (celA X).length := by omega
          have := (ptsB_t (Bool.and_eq_true_iff.1 (hulX_poly h.1 (cel_mem hk)).1).1).2.1
          unfold cpH
          omega
        · simp
      generalize (if cpB X xi = true then cpH X xi else []) = HX at c1 c2 hhl
      generalize cpB X xi = u1 at c1 c2
      obtain ⟨nX, hnX⟩ : ∃ z, HX.length = z := ⟨_, rfl⟩
      have q1 := fun (w : World) (a a2 : Option Addr) (c c2 : Nat) (h1 : RdP w a HX) (h2 : RdP w a2 HX) => pSameP_c a c a2 c2 HX w (by omega) h1 h2
      rw [hnX] at c1 c2 q1
      have C1 := Lib.hid c1; have C2 := Lib.hid c2; have Q1 := Lib.hid q1
      have ee4 : (u1 == u1) = true := beq_self_eq_true u1
      clear c1 c2 q1 hhl hlx hnX
      go_wp2_with fail
      refine (C1.out _ X1.out).mono ?_
      rintro e w76 ⟨adp, cp, rfl, hp, hw⟩
      replace X1 := Lib.hid (X1.out.below hw)
      have P1 := Lib.hid hp; clear hp
      replace hb := ball hb hw
      clear hw C1 
      go_wp2_with fail
      refine (C2.out _ X1.out).mono ?_
      rintro e w77 ⟨adp2, cp2, rfl, hp, hw⟩
      replace P1 := Lib.hid (P1.out.below hw)
      have P2 := Lib.hid hp; clear hp
      replace hb := ball hb hw
      clear hw C2 X1
      have CQ := Lib.hid (fun w h1 h2 => Q1.out w adp adp2 cp cp2 h1 h2)
      clear Q1
      go_wp2_with fail
      refine (CQ.out _ P1.out P2.out).mono ?_
      rintro e w78 ⟨rfl, hw⟩
      replace hb := ball hb hw
      clear hw CQ P1 P2
      go_wp2_with fail
      go_ret
      exact ⟨rfl, hb⟩

end Go.Proofs.YtcionneopgdebaaGreat
