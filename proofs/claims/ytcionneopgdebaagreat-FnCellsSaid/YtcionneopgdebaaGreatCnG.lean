/-
  Some texts of this proof in one: CnG CnH CnI. Each part tells what it proves. By an AI agent.
-/
import Derived.Test.YtcionneopgdebaaGreatCnE
import Derived.Lib.AppendZeros

/-
  slices.Grow of nil and slices.Concat of lists of numbers, as many as there are. By an AI agent.
-/
namespace Go.Proofs.YtcionneopgdebaaGreat
open Go.RowKit

set_option maxHeartbeats 800000 in
set_option maxRecDepth 100000 in
theorem growN_c (k : Nat) (w : World) (h1 : k ≤ 100000) :
    Calls Tryz.prog 65 #[.slice none 0 0, .int .i64 k] w fun e w' => ∃ v, e = .returned v ∧ RowI w' w.heap.size v [] ∧ Below w.heap.size w w' := by
  by_cases h0 : 0 < k
  case neg =>
    obtain rfl : k = 0 := by omega
    go_enter Tryz.func65, Tryz.ntmps65
    go_wp2_with fail
    go_ret
    exact ⟨_, rfl, RowI.nil _ _, Below.refl _ _⟩
  case pos =>
    obtain ⟨i0, hi0, hz0, hz1, hz2⟩ := info_parts Tryz.infoI
    have d1 : decide (0 < (k : Int)) = true := decide_eq_true (by omega)
    go_enter Tryz.func65, Tryz.ntmps65
    go_wp2_with (at_builtin; (refine Lib.wpList_append_run _ rfl _ _ 29 3 rfl (.slice none 0 0) (.int .i64 k) rfl rfl _ _ (Lib.run_append_nil_zeros (P := Tryz.prog) w 29 3 _ 3 i0 _ .i64 .i64 Tryz.underlying29 Tryz.underlying3 hi0 hz0 k h0 (by rw [hz1]; omega) (by omega) (by rw [hz2]; omega)) ?_))
    go_ret
    have h2 := grownCap_ge w k 0 3
    have h3 := grownCap_le_maxLen w k 0 3 (by unfold maxLen; omega)
    refine ⟨_, rfl, ?_, ?_⟩
    · exact World.ownsRow_made w _ (grownCap w k 0 3) (Nat.le_refl _) h3 (by simp only [Array.size_append, size_zeroCells, List.size_toArray, List.length_singleton]; omega)
    · exact ((Below.refl _ _).alloc (Nat.le_refl _) _).drew

theorem flat_take (M : List (List Int)) {k : Nat} (h : k < M.length) : (M.take (k + 1)).flatten = (M.take k).flatten ++ M.getD k [] := by
  rw [List.take_succ_eq_append_getElem h, List.flatten_append, List.getD_eq_getElem?_getD, List.getElem?_eq_getElem h]
  simp
theorem flat_le (M : List (List Int)) (k : Nat) : ((M.take k).flatten).length ≤ M.flatten.length := by
  have h : M.flatten = (M.take k).flatten ++ (M.drop k).flatten := by rw [← List.flatten_append, List.take_append_drop]
  rw [h, List.length_append]
  omega

set_option maxHeartbeats 1600000 in
set_option maxRecDepth 100000 in
theorem concatL_c (ad : Option Addr) (cap : Nat) (M : List (List Int)) (w : World) (hr : RdM w ad M) (hl : M.length ≤ 100000) (ht : M.flatten.length ≤ 100000) (hne : ∀ k, k < M.length → 0 < (M.getD k []).length) :
    Calls Tryz.prog 36 #[.slice ad M.length cap] w fun e w' => ∃ v, e = .returned v ∧ RowI w' w.heap.size v M.flatten ∧ Below w.heap.size w w' := by
  have HR := Lib.hid hr; clear hr
  have HST := Lib.hid (fun k (h : k < M.length) => flat_take M h)
  have HLE := Lib.hid (fun k => Nat.le_trans (flat_le M k) ht)
  have HNE := Lib.hid hne; clear hne
  have HAL := Lib.hid (show (M.take M.length).flatten = M.flatten from by rw [List.take_length])
  obtain ⟨m, hm⟩ : ∃ z, M.length = z := ⟨_, rfl⟩
  have HM := Lib.hid hm
  rw [hm] at HST HAL HNE hl ⊢
  obtain ⟨P, hP⟩ : ∃ P : Nat → List Int, P = fun k => (M.take k).flatten := ⟨_, rfl⟩
  have HST := Lib.hid (fun k (h : k < m) => show P (k + 1) = P k ++ M.getD k [] from by rw [hP]; exact HST.out k h)
  have HLE := Lib.hid (fun k => show (P k).length ≤ 100000 from by rw [hP]; exact HLE.out k)
  have HAL := Lib.hid (show P m = M.flatten from by rw [hP]; exact HAL.out)
  have HP0 := Lib.hid (show P 0 = [] from by rw [hP]; simp)
  generalize M.flatten = FL at HAL ht ⊢
  clear hm hP
  go_enter Tryz.func36, Tryz.ntmps36
  go_wp2_with fail
  go_loopw [3, 11] (fun sz i wr => ∃ k : Nat, k ≤ m ∧ i = .int .i64 k ∧ sz = .int .i64 (P k).length ∧ w = wr) (fun _ i _ => m - (intOf i).toNat)
  case atStart => exact ⟨0, Nat.zero_le _, rfl, by rw [HP0.out]; rfl, rfl⟩
  case round =>
    obtain ⟨k, hk, rfl, rfl, rfl⟩ := hrel
    by_cases hlt : k < m
    case pos =>
      obtain ⟨b1, o1, a1, c1, rfl, hbb1, k1, r1⟩ := HR.out k (by rw [HM.out]; exact hlt)
      have hst := HST.out k hlt
      have h1 := HLE.out (k + 1)
      rw [hst, List.length_append] at h1
      have hs2 : (P (k + 1)).length = (P k).length + (M.getD k []).length := by rw [hst, List.length_append]
      have HS2 := Lib.hid hs2
      generalize M.getD k [] = x at k1 h1 HS2
      obtain ⟨nx, hnx⟩ : ∃ z, x.length = z := ⟨_, rfl⟩
      rw [hnx] at k1 h1 HS2
      obtain ⟨np, hnp⟩ : ∃ z, (P k).length = z := ⟨_, rfl⟩
      rw [hnp] at h1 HS2 ⊢
      have x1 : (0 : Int) ≤ (k : Int) := by omega
      have x2 : (k : Int) < (m : Int) := by omega
      have e1 : IntKind.i64.wrap ((np : Int) + (nx : Int)) = (np : Int) + (nx : Int) := i64_small (by omega) (by omega)
      have d1 : decide ((np : Int) + (nx : Int) < 0) = false := decide_eq_false (by omega)
      have d2 : ¬ ((np : Int) + (nx : Int) < 0) := by omega
      clear r1 hst hs2 hnx hnp
      go_wp2_with fail
      go_roundw
      case rel => exact ⟨k + 1, by omega, by go_num, by rw [HS2.out, Int.natCast_add], by first | rfl | trivial⟩
      case measure => simp [intOf]; omega
    case neg =>
      obtain rfl : k = m := by omega
      have h1 := HLE.out k
      have CG := Lib.hid (growN_c (P k).length w (by omega))
      generalize (P k).length = np at CG h1 ⊢
      go_wp2_with fail
      refine CG.out.mono ?_
      rintro e w1 ⟨v, rfl, hown1, hb1⟩
      have HO1 := Lib.hid hown1; clear hown1
      go_wp2_with fail
      go_loopw [6, 27] (fun v i wr => ∃ j : Nat, j ≤ k ∧ i = .int .i64 j ∧ RowI wr w.heap.size v (P j) ∧ Below w.heap.size w wr) (fun _ i _ => k - (intOf i).toNat)
      case atStart => exact ⟨0, Nat.zero_le _, rfl, by rw [HP0.out]; exact HO1.out, hb1⟩
      case round =>
        obtain ⟨wE, rfl⟩ : ∃ z : World, z = wr := ⟨_, rfl⟩
        obtain ⟨j, hj, rfl, hrow, hbel⟩ := hrel
        by_cases hjl : j < k
        case neg =>
          obtain rfl : j = k := by omega
          rw [HAL.out] at hrow
          have HRW := Lib.hid hrow; clear hrow
          go_wp2_with fail
          go_ret
          exact ⟨_, rfl, HRW.out, hbel⟩
        case pos =>
          obtain ⟨b1, o1, a1, c1, rfl, hbb1, k1, r1⟩ := (HR.out.below hbel) j (by rw [HM.out]; exact hjl)
          have hst := HST.out j hjl
          have hne := HNE.out j hjl
          have h1 := HLE.out (j + 1)
          rw [hst, List.length_append] at h1
          generalize M.getD j [] = x at k1 h1 hst r1 hne
          obtain ⟨b2, o2, rfl, _, _⟩ := r1 0 hne
          have HS := Lib.hid hst
          have HO := Lib.hid hrow
          have HX := Lib.hid r1
          have hsz := hbel.size
          generalize P j = PJ at HO HS h1
          obtain ⟨nx, hnx⟩ : ∃ z, x.length = z := ⟨_, rfl⟩
          have HNX := Lib.hid hnx
          rw [hnx] at k1 h1
          have x1 : (0 : Int) ≤ (j : Int) := by omega
          have x2 : (j : Int) < (k : Int) := by omega
          clear hst hnx hrow r1 hne
          go_wp2_with (at_builtin; refine wpList_appN rfl _ _ rfl w.heap.size b2 o2 c1 _ PJ x (PJ.length + nx) (by rw [HNX.out]) rfl (by rw [HNX.out]; rfl) HO.out HX.out (by omega) (by rw [HNX.out]; omega) hsz ?_; intro v5 wm hown hsh hbm hgr)
          have hb5 := hbel.trans hbm
          have HO5 := Lib.hid hown
          clear hown hsh hbm hgr
          go_wp2_with fail
          go_roundw
          case rel => exact ⟨j + 1, by omega, by go_num, by rw [HS.out]; exact HO5.out, hb5⟩
          case measure => simp [intOf]; omega
end Go.Proofs.YtcionneopgdebaaGreat

/-
  UnusedTerms: the program's. By an AI agent.
-/
namespace Go.Proofs.YtcionneopgdebaaGreat
open Go.RowKit

def usedB (C : List (List Int)) (t : Nat) : Bool := C.any fun c => decide ((t : Int) ∈ c)
/-- the first terms that are in no cell. -/
def unuF (C : List (List Int)) (k : Nat) : List Int := ((List.range k).filter fun t => !usedB C t).map fun t : Nat => (t : Int)
theorem unu_step (C : List (List Int)) (k : Nat) : unuF C (k + 1) = if usedB C k = true then unuF C k else unuF C k ++ [(k : Int)] := by
  unfold unuF
  rw [List.range_succ, List.filter_append, List.map_append]
  cases h : usedB C k
  · rw [if_neg (by simp)]
    simp [h]
  · rw [if_pos rfl]
    simp [h]
theorem unu_len (C : List (List Int)) (k : Nat) : (unuF C k).length ≤ k := by
  unfold unuF
  rw [List.length_map]
  exact Nat.le_trans (List.length_filter_le _ _) (by simp)
theorem used_flat (C : List (List Int)) (t : Nat) : usedB C t = decide ((t : Int) ∈ C.flatten) := by
  unfold usedB
  rw [Bool.eq_iff_iff, List.any_eq_true, decide_eq_true_eq, List.mem_flatten]
  constructor
  · rintro ⟨c, hc, h⟩; exact ⟨c, hc, of_decide_eq_true h⟩
  · rintro ⟨c, hc, h⟩; exact ⟨c, hc, decide_eq_true h⟩
theorem cels_flat {L : List Tm} (hl : L.length ≤ 12) : (celA L).flatten.length ≤ 100000 := by
  have : ∀ C : List (List Int), (∀ x ∈ C, x.length ≤ 12) → C.flatten.length ≤ C.length * 12 := fun C => by
    induction C with
    | nil => intro _; simp
    | cons x C ih =>
      intro h
      have h1 := h x (by simp)
      have h2 := ih fun y hy => h y (List.mem_cons_of_mem _ hy)
      rw [List.flatten_cons, List.length_append, List.length_cons, Nat.succ_mul]
      omega
  have h1 := this (celA L) fun x hx => Nat.le_trans (cell_len hx) hl
  have h2 : (celA L).length * 12 ≤ 1728 * 12 := Nat.mul_le_mul_right _ (celA_len L hl)
  omega
theorem flat_in {L : List Tm} {x : Int} (h : x ∈ (celA L).flatten) : ∃ t : Nat, x = t ∧ t < L.length := by
  obtain ⟨c, hc, hx⟩ := List.mem_flatten.1 h
  exact (celA_g hc).idx x hx
theorem madeBools (n : Nat) : (madeCells #[.bool false] n).toList = tab n fun _ => .bool false := by
  rw [toList_madeCells_one]
  simp [tab, List.map_const']
def IntsO (B : Bool) (H : List Int) (w : World) (e : Ending) (w' : World) : Prop := ∃ ad c, e = .returned (.tuple #[.slice ad (if B = true then H else []).length c, .bool B]) ∧ RdI w' ad (if B = true then H else []) ∧ Below w.heap.size w w'
theorem IntsO.no {H : List Int} {w w' : World} (hb : Below w.heap.size w w') : IntsO false H w (.returned (.tuple #[.slice none 0 0, .bool false])) w' := ⟨none, 0, rfl, (fun i hi => by simp at hi), hb⟩
theorem IntsO.yes {H : List Int} {w w' : World} {a : Option Addr} {c : Nat} (h : RdI w' a H) (hb : Below w.heap.size w w') : IntsO true H w (.returned (.tuple #[.slice a H.length c, .bool true])) w' := ⟨a, c, rfl, h, hb⟩

set_option maxHeartbeats 1600000 in
set_option maxRecDepth 100000 in
theorem iUnusedTerms_c (ad : Option Addr) (cap : Nat) (L : List Tm) (w : World) (hr : RdT w ad L) (hl : L.length ≤ 1048576) :
    Calls Tryz.prog 12 #[.slice ad L.length cap] w (IntsO (planeB L) (unuF (celA L) L.length) w) := by
  have CI := Lib.hid (subdivided_c ad cap L w hr hl)
  have HQ := Lib.hid (fun w' (h : Below w.heap.size w w') => IntsO.no (H := unuF (celA L) L.length) h)
  have HY := Lib.hid (fun w2 a c (h1 : RdI w2 a (unuF (celA L) L.length)) (h : Below w.heap.size w w2) => IntsO.yes (c := c) h1 h)
  cases hB : planeB L
  case false =>
    rw [hB] at CI
    generalize IntsO false (unuF (celA L) L.length) w = Q at HQ ⊢
    generalize L.length = n at CI ⊢
    clear hr hB hl HY
    go_enter Tryz.func12, Tryz.ntmps12
    go_wp2_with fail
    refine CI.out.mono ?_
    rintro e w1 ⟨hb1, he⟩
    rw [if_neg (by simp)] at he
    subst he
    go_wp2_with fail
    exact HQ.out _ hb1
  case true =>
    rw [hB] at CI
    obtain ⟨h0, h12, hp⟩ := planeB_t hB
    have hcl := celA_len L h12
    have HS := Lib.hid (fun w' S d (h : SubM w' S L (.slice ad L.length cap) d) => show S < w'.heap.size ∧ w'.cell? ⟨S, 2, none⟩ = some (.slice d.adC (celA L).length d.capC) ∧ RdM w' d.adC (celA L) from ⟨h.own.lt, h.own.cell? (i := 2) rfl, h.cells.rd⟩)
    have CC := Lib.hid (fun u a c (h : RdM u a (celA L)) => concatL_c a c (celA L) u h (by omega) (cels_flat h12) (fun k hk => List.length_pos_iff.2 (celA_in (cel_mem hk)).1))
    have HFI := Lib.hid (fun k (hk : k < (celA L).flatten.length) => flat_in (L := L) (x := (celA L).flatten.getD k 0) (by rw [List.getD_eq_getElem?_getD, List.getElem?_eq_getElem hk]; exact List.getElem_mem _))
    have hft := cels_flat h12
    have HUS := Lib.hid (fun k => unu_step (celA L) k)
    have HUL := Lib.hid (fun k => unu_len (celA L) k)
    have HUF := Lib.hid (fun t => used_flat (celA L) t)
    have HU0 := Lib.hid (show unuF (celA L) 0 = [] from rfl)
    generalize unuF (celA L) = UF at HY HUS HUL HU0 ⊢
    generalize usedB (celA L) = UB at HUS HUF
    generalize (celA L).flatten = FL at CC HFI hft HUF
    generalize (celA L) = C at HS CC hcl
    generalize C.length = nC at HS CC hcl
    obtain ⟨n, hn⟩ : ∃ n, L.length = n := ⟨_, rfl⟩
    rw [hn] at CI HS HFI HY h12 h0 ⊢
    generalize IntsO true (UF n) w = Q at HY ⊢
    clear hr hB hl hn hp HQ
    go_enter Tryz.func12, Tryz.ntmps12
    go_wp2_with fail
    refine CI.out.mono ?_
    rintro e w1 ⟨hb1, he⟩
    rw [if_pos rfl] at he
    obtain ⟨S, d, rfl, hsm⟩ := he
    obtain ⟨hS, k2, hrm⟩ := HS.out w1 S d hsm
    have HRM := Lib.hid hrm
    clear hsm CI HS hrm
    have hmk := run_makeN (P := Tryz.prog) 63 4 (.bool false) 1 1 Tryz.underlying63 (by kernel_rfl) n (by omega) (by omega) w1
    obtain ⟨W2, hW2⟩ : ∃ W2, w1.alloc (.cells (madeCells (Value.cells (.bool false)) (n * 1)) 4) = W2 := ⟨_, rfl⟩
    rw [hW2] at hmk
    have hO0 : Own W2 w1.heap.size 4 (tab n fun t => .bool (decide ((t : Int) ∈ FL.take 0))) := by
      rw [← hW2]
      refine (Own.newA w1 _ 4 (by rw [Nat.mul_one]; exact madeBools n)).congr (tab_congr fun t ht => ?_)
      simp
    have hb2 : Below w1.heap.size w1 W2 := by rw [← hW2]; exact bal_alloc (Below.refl _ _)
    have HO0 := Lib.hid hO0
    obtain ⟨u, hu⟩ : ∃ u, w1.heap.size = u := ⟨_, rfl⟩
    have hu2 : u < W2.heap.size := by rw [← hu]; exact hO0.lt
    have HRM2 := Lib.hid (HRM.out.below hb2)
    have k22 := bcell hb2 hS k2
    have hbw := ball hb1 hb2
    have CC1 := Lib.hid (CC.out W2 d.adC d.capC HRM2.out)
    rw [hu] at hmk HO0
    have HMK := Lib.hid hmk
    have hlu : w.heap.size ≤ u := by rw [← hu]; exact hb1.size
    clear hO0 hb2 hW2 HRM HRM2 CC k2 hS hb1
    go_wp2_with fail
    refine CC1.out.mono ?_
    rintro e w3 ⟨v, rfl, hrow, hb3⟩
    obtain ⟨adf, cpf, rfl, _⟩ := RowI.shape hrow
    have HRW := Lib.hid hrow
    have HO3 := Lib.hid (HO0.out.belowAll hb3)
    have HB3 := Lib.hid (ball hbw hb3)
    obtain ⟨m, hm⟩ : ∃ m, FL.length = m := ⟨_, rfl⟩
    have HM := Lib.hid hm
    rw [hm] at HRW HFI hft ⊢
    clear hrow hb3 CC1 HO0 hbw hm HMK hmk
    go_wp2_with fail
    go_loopw [28] (fun i wr => ∃ k : Nat, k ≤ m ∧ i = .int .i64 k ∧ Own wr u 4 (tab n fun t => .bool (decide ((t : Int) ∈ FL.take k))) ∧ Chg u w3 wr) (fun i _ => m - (intOf i).toNat)
    case atStart => exact ⟨0, Nat.zero_le _, rfl, HO3.out, Chg.refl _ _⟩
    case round =>
      obtain ⟨wE, rfl⟩ : ∃ z : World, z = wr := ⟨_, rfl⟩
      obtain ⟨k, hk, rfl, hown, hch⟩ := hrel
      by_cases hlt : k < m
      case pos =>
        obtain ⟨t, ht, htn⟩ := HFI.out k hlt
        have hrw : RowI wE W2.heap.size (.slice adf m cpf) FL := row_chg HRW.out hch hu2
        obtain ⟨a2, c2, e2, hrd⟩ := RowI.shape hrw
        obtain rfl : adf = a2 := by injection e2
        obtain ⟨b, off, rfl, hb, kc⟩ := hrd k (by rw [HM.out]; exact hlt)
        rw [ht] at kc
        have HTK := Lib.hid (show FL.take (k + 1) = FL.take k ++ [(t : Int)] from by
          have hl2 : k < FL.length := by rw [HM.out]; exact hlt
          rw [List.take_succ_eq_append_getElem hl2, ← ht, List.getD_eq_getElem?_getD, List.getElem?_eq_getElem hl2]
          rfl)
        have k1 := hown.cell? (tab_get htn)
        have f1 := hown.frozen t
        have HSET := Lib.hid (show Own (wE.setCell ⟨u, t, none⟩ (.bool true)) u 4 (tab n fun q => .bool (decide ((q : Int) ∈ FL.take (k + 1)))) from (hown.set t (.bool true)).congr (by
          rw [tab_set]
          refine tab_congr fun q hq => ?_
          rw [HTK.out]
          by_cases e : q = t
          · subst e; simp
          · rw [if_neg e]
            have : ¬ (q : Int) = (t : Int) := by omega
            simp [this]))
        have HC2 := Lib.hid (hch.trans (Chg.set u t wE (.bool true)))
        have z1 : (0 : Int) ≤ (t : Int) := by omega
        have z2 : (t : Int) < (n : Int) := by omega
        have z3 : (0 : Int) ≤ (k : Int) := by omega
        have z4 : (k : Int) < (m : Int) := by omega
        clear hrw hrd e2 ht hown
        go_wp2_with fail
        go_roundw
        case rel => exact ⟨k + 1, by omega, by go_num, HSET.out, HC2.out⟩
        case measure => simp [intOf]; omega
      case neg =>
        obtain rfl : k = m := by omega
        have hown : Own wE u 4 (tab n fun t => .bool (UB t)) := hown.congr (tab_congr fun t _ => by
          rw [HUF.out t, List.take_of_length_le (by rw [HM.out]; exact Nat.le_refl _)])
        have HBE := Lib.hid (bchg HB3.out hch hlu HB3.out.size)
        have hszE := HBE.out.size
        have HOW := Lib.hid (hown.belowAll (bal_alloc (o := .cells #[] 3) (Below.refl wE.heap.size wE)))
        have HR0 := Lib.hid (show RowI (wE.alloc (.cells #[] 3)) wE.heap.size (.slice (some ⟨wE.heap.size, 0, none⟩) 0 0) [] from World.ownsRow_made wE #[] 0 (Nat.le_refl _) (by decide) rfl)
        have hbA : Below wE.heap.size wE (wE.alloc (.cells #[] 3)) := bal_alloc (Below.refl _ _)
        have HOE := Lib.hid hown
        clear hown
        go_wp2_with fail
        go_loopw [9, 39] (fun s i wr => ∃ k : Nat, k ≤ n ∧ i = .int .i64 k ∧ RowI wr wE.heap.size s (UF k) ∧ Below wE.heap.size wE wr) (fun _ i _ => n - (intOf i).toNat)
        case atStart => exact ⟨0, Nat.zero_le _, rfl, by rw [HU0.out]; exact HR0.out, hbA⟩
        case round =>
          obtain ⟨wF, rfl⟩ : ∃ z : World, z = wr := ⟨_, rfl⟩
          obtain ⟨j, hj, rfl, hrow, hbel⟩ := hrel
          by_cases hjl : j < n
          case neg =>
            obtain rfl : j = n := by omega
            obtain ⟨a5, c5, rfl, hrd⟩ := RowI.shape hrow
            have HF := Lib.hid (HY.out wF a5 c5 hrd (ball HBE.out hbel))
            clear hrd hrow
            go_wp2_with fail
            exact HF.out
          case pos =>
            have hst := HUS.out j
            have hul := HUL.out j
            have kj := (HOE.out.belowAll hbel).cell? (tab_get hjl)
            have hszF := hbel.size
            have z1 : (0 : Int) ≤ (j : Int) := by omega
            have z2 : (j : Int) < (n : Int) := by omega
            cases hub : UB j
            case true =>
              rw [hub] at kj
              rw [hub, if_pos rfl] at hst
              have HST := Lib.hid hst
              have HRJ := Lib.hid hrow
              generalize UF j = G at HST HRJ
              clear hst hrow hul
              go_wp2_with fail
              go_roundw
              case rel => exact ⟨j + 1, by omega, by go_num, by rw [HST.out]; exact HRJ.out, hbel⟩
              case measure => simp [intOf]; omega
            case false =>
              rw [hub] at kj
              rw [hub, if_neg (by simp)] at hst
              have HST := Lib.hid hst
              have HRJ := Lib.hid (RowI.below hrow (bal_alloc (o := .cells #[.int .i64 (j : Int)] 3) (Below.refl wF.heap.size wF)))
              generalize UF j = G at HST HRJ hul
              clear hst hrow
              go_wp2_with (at_builtin; refine wpList_appN rfl _ _ rfl wE.heap.size wF.heap.size 0 1 _ G [(j : Int)] (G.length + 1) rfl rfl rfl HRJ.out (rdI_one _ _ _ rfl) (by omega) (by simp) (by simp; omega) ?_; intro v5 wm hown5 hsh hbm hgr)
              have hb5 := (bal_alloc (o := .cells #[.int .i64 (j : Int)] 3) hbel).trans hbm
              have HO5 := Lib.hid hown5
              clear hown5 hsh hbm hgr
              go_wp2_with fail
              go_roundw
              case rel => exact ⟨j + 1, by omega, by go_num, by rw [HST.out]; exact HO5.out, hb5⟩
              case measure => simp [intOf]; omega
end Go.Proofs.YtcionneopgdebaaGreat

/-
  UnusedTerms: the reference's. By an AI agent.
-/
namespace Go.Proofs.YtcionneopgdebaaGreat
open Go.RowKit

set_option maxHeartbeats 400000 in
theorem l1HasC_c (ad : Option Addr) (cap : Nat) (xs : List Int) (y : Int) (w : World) (hl : xs.length ≤ 1048576) (hr : RdI w ad xs) :
    Calls Tryz.prog 37 #[.slice ad xs.length cap, .int .i64 y] w fun e w' => e = .returned (.bool (decide (y ∈ xs))) ∧ w = w' := by
  have HR := Lib.hid hr; clear hr
  go_enter Tryz.func37, Tryz.ntmps37
  go_wp2
  go_loop [9] (fun i => ∃ k : Nat, k ≤ xs.length ∧ i = .int .i64 k ∧ ∀ j, j < k → xs.getD j 0 ≠ y) (fun i => xs.length - (intOf i).toNat)
  case atStart => exact ⟨0, Nat.zero_le _, rfl, fun j hj => by omega⟩
  case round =>
    obtain ⟨k, hk, rfl, hj⟩ := hrel
    have HJ := Lib.hid hj; clear hj
    by_cases hlt : k < xs.length
    · obtain ⟨b, off, rfl, hb, c⟩ := HR.out k hlt
      generalize hx : xs.getD k 0 = x at c
      have HX := Lib.hid hx; clear hx
      by_cases h1 : x = y
      · have h1' : (x == y) = true := by simpa using h1
        have H1 := Lib.hid h1; clear h1
        go_wp2
        go_ret
        refine ⟨ret_bool ?_, rfl⟩
        symm
        rw [decide_eq_true_iff, ← H1.out, ← HX.out]
        simp [List.getD, hlt]
      · have h1' : (x == y) = false := by simpa using h1
        have H1 := Lib.hid h1; clear h1
        go_wp2
        go_round
        case rel =>
          refine ⟨k + 1, by omega, by go_num, fun j hj => ?_⟩
          by_cases e : j = k
          · subst e; rw [HX.out]; exact H1.out
          · exact HJ.out j (by omega)
        case measure => simp [intOf]; omega
    · have he : k = xs.length := by omega
      subst he
      go_wp2
      go_ret
      refine ⟨ret_bool ?_, rfl⟩
      symm
      rw [decide_eq_false_iff_not]
      intro hc
      obtain ⟨j, hj, e⟩ := List.getElem_of_mem hc
      exact HJ.out j hj (by simp [List.getD, hj, e])

theorem used_take (C : List (List Int)) (t : Nat) {k : Nat} (h : k < C.length) : usedB (C.take (k + 1)) t = (usedB (C.take k) t || decide ((t : Int) ∈ C.getD k [])) := by
  unfold usedB
  rw [List.take_succ_eq_append_getElem h, List.any_append, List.getD_eq_getElem?_getD, List.getElem?_eq_getElem h]
  simp
set_option maxHeartbeats 1600000 in
set_option maxRecDepth 100000 in
theorem sUnusedTerms_c (ad : Option Addr) (cap : Nat) (L : List Tm) (w : World) (hr : RdT w ad L) (hl : L.length ≤ 1048576) :
    Calls Tryz.prog 13 #[.slice ad L.length cap] w (IntsO (planeB L) (unuF (celA L) L.length) w) := by
  have CI := Lib.hid (plGood_c ad cap L w hr hl)
  have HQ := Lib.hid (fun w' (h : Below w.heap.size w w') => IntsO.no (H := unuF (celA L) L.length) h)
  have HY := Lib.hid (fun w2 a c (h1 : RdI w2 a (unuF (celA L) L.length)) (h : Below w.heap.size w w2) => IntsO.yes (c := c) h1 h)
  cases hB : planeB L
  case false =>
    rw [hB] at CI
    generalize IntsO false (unuF (celA L) L.length) w = Q at HQ ⊢
    generalize L.length = n at CI ⊢
    clear hr hB hl HY
    go_enter Tryz.func13, Tryz.ntmps13
    go_wp2_with fail
    refine CI.out.mono ?_
    rintro e w1 ⟨rfl, hb1⟩
    go_wp2_with fail
    exact HQ.out _ hb1
  case true =>
    rw [hB] at CI
    obtain ⟨h0, h12, hp⟩ := planeB_t hB
    obtain ⟨bl, ol, rfl, _⟩ := hr 0 h0
    have hcl := celA_len L h12
    have CO := Lib.hid (fun u (h : Below w.heap.size w u) => ceOf_c bl ol cap L u (hr.below h) hp h12 h0)
    have HLA := Lib.hid (fun k (hk : k < (celA L).length) => show ((celA L).getD k []).length ≤ 12 from Nat.le_trans (cell_len (cel_mem hk)) h12)
    have HUS := Lib.hid (fun k => unu_step (celA L) k)
    have HUL := Lib.hid (fun k => unu_len (celA L) k)
    have HUT := Lib.hid (fun t k (h : k < (celA L).length) => used_take (celA L) t h)
    have HUA := Lib.hid (fun t => show usedB ((celA L).take (celA L).length) t = usedB (celA L) t from by rw [List.take_length])
    have HU0 := Lib.hid (show unuF (celA L) 0 = [] from rfl)
    have HV0 := Lib.hid (fun t => show usedB ((celA L).take 0) t = false from rfl)
    generalize unuF (celA L) = UF at HY HUS HUL HU0 ⊢
    generalize celA L = C at CO HLA HUS HUT HUA HV0 hcl
    obtain ⟨nC, hnC⟩ : ∃ z, C.length = z := ⟨_, rfl⟩
    unfold PutR at CO
    rw [hnC] at CO HLA HUT HUA hcl
    have HNC := Lib.hid hnC
    obtain ⟨UP, hUP⟩ : ∃ P : Nat → Nat → Bool, P = fun k t => usedB (C.take k) t := ⟨_, rfl⟩
    have HUT := Lib.hid (fun t k (h : k < nC) => show UP (k + 1) t = (UP k t || decide ((t : Int) ∈ C.getD k [])) from by rw [hUP]; exact HUT.out t k h)
    have HUA := Lib.hid (fun t => show UP nC t = usedB C t from by rw [hUP]; exact HUA.out t)
    have HV0 := Lib.hid (fun t => show UP 0 t = false from by rw [hUP]; exact HV0.out t)
    generalize usedB C = UB at HUS HUA
    obtain ⟨n, hn⟩ : ∃ n, L.length = n := ⟨_, rfl⟩
    rw [hn] at CI CO HY h12 h0 ⊢
    generalize IntsO true (UF n) w = Q at HY ⊢
    clear hr hB hl hn hp HQ hnC hUP
    go_enter Tryz.func13, Tryz.ntmps13
    go_wp2_with fail
    refine CI.out.mono ?_
    rintro e w1 ⟨rfl, hb1⟩
    have CO1 := Lib.hid (CO.out w1 hb1)
    go_wp2_with fail
    refine CO1.out.mono ?_
    rintro e w2 ⟨adC, capC, vs, rfl, hm, hb2⟩
    have HRC := Lib.hid hm.rd
    have HB2 := Lib.hid (ball hb1 hb2)
    clear hm hb1 hb2 CO CO1 CI
    go_wp2_with fail
    go_loopw [4, 17] (fun s i wr => ∃ k : Nat, k ≤ n ∧ i = .int .i64 k ∧ RowI wr w2.heap.size s (UF k) ∧ Below w2.heap.size w2 wr) (fun _ i _ => n - (intOf i).toNat)
    case atStart => exact ⟨0, Nat.zero_le _, rfl, by rw [HU0.out]; exact RowI.nil _ _, Below.refl _ _⟩
    case round =>
      obtain ⟨wE, rfl⟩ : ∃ z : World, z = wr := ⟨_, rfl⟩
      obtain ⟨t, ht, rfl, hrow, hbel⟩ := hrel
      by_cases htl : t < n
      case neg =>
        obtain rfl : t = n := by omega
        obtain ⟨a5, c5, rfl, hrd⟩ := RowI.shape hrow
        have HF := Lib.hid (HY.out wE a5 c5 hrd (ball HB2.out hbel))
        clear hrd hrow
        go_wp2_with fail
        exact HF.out
      case pos =>
        have hst := HUS.out t
        have hul := HUL.out t
        have HRW := Lib.hid hrow
        have HRE := Lib.hid (HRC.out.below hbel)
        have hszE := hbel.size
        have z1 : (0 : Int) ≤ (t : Int) := by omega
        have z2 : (t : Int) < (n : Int) := by omega
        have HU1 := Lib.hid (fun k (h : k < nC) => HUT.out t k h)
        have hua := HUA.out t
        have hv0 := HV0.out t
        obtain ⟨PT, hPT⟩ : ∃ P : Nat → Bool, P = fun k => UP k t := ⟨_, rfl⟩
        have HU2 := Lib.hid (fun k (h : k < nC) => show PT (k + 1) = (PT k || decide ((t : Int) ∈ C.getD k [])) from by rw [hPT]; exact HU1.out k h)
        have HPA := Lib.hid (show PT nC = UB t from by rw [hPT]; exact hua)
        have HP0 := Lib.hid (show PT 0 = false from by rw [hPT]; exact hv0)
        clear hPT hua hv0 hrow HU1
        go_wp2_with fail
        go_loopw [7, 22] (fun q i wr => ∃ k : Nat, k ≤ nC ∧ i = .int .i64 k ∧ q = .bool (PT k) ∧ wE = wr) (fun _ i _ => nC - (intOf i).toNat)
        case atStart => exact ⟨0, Nat.zero_le _, rfl, by rw [HP0.out], rfl⟩
        case round =>
          obtain ⟨k, hk, rfl, rfl, rfl⟩ := hrel
          by_cases hkl : k < nC
          case pos =>
            obtain ⟨b1, o1, a1, c1, rfl, hbb1, k1, r1⟩ := HRE.out k (by rw [HNC.out]; exact hkl)
            have hll := HLA.out k hkl
            have CH := l1HasC_c a1 c1 (C.getD k []) (t : Int) wE (by omega) r1
            have hu2 := HU2.out k hkl
            generalize decide ((t : Int) ∈ C.getD k []) = hb at CH hu2
            have CH := Lib.hid CH
            generalize (C.getD k []).length = nx at CH k1
            have y1 : (0 : Int) ≤ (k : Int) := by omega
            have y2 : (k : Int) < (nC : Int) := by omega
            have HU3 := Lib.hid hu2
            clear r1 hll hu2
            cases hp : PT k
            case true =>
              rw [hp] at HU3
              go_wp2_with fail
              go_roundw
              case rel => exact ⟨k + 1, by omega, by go_num, by rw [HU3.out]; rfl, by first | rfl | trivial⟩
              case measure => simp [intOf]; omega
            case false =>
              rw [hp] at HU3
              go_wp2_with fail
              refine CH.out.mono ?_
              rintro e w8 ⟨rfl, rfl⟩
              go_wp2_with fail
              go_roundw
              case rel => exact ⟨k + 1, by omega, by go_num, by rw [HU3.out]; rfl, by first | rfl | trivial⟩
              case measure => simp [intOf]; omega
          case neg =>
            obtain rfl : k = nC := by omega
            rw [HPA.out]
            cases hub : UB t
            case true =>
              rw [hub, if_pos rfl] at hst
              have HST := Lib.hid hst
              generalize UF t = G at HST HRW
              clear hst hul
              go_wp2_with fail
              go_roundw
              case rel => exact ⟨t + 1, by omega, by go_num, by rw [HST.out]; exact HRW.out, hbel⟩
              case measure => simp [intOf]; omega
            case false =>
              rw [hub, if_neg (by simp)] at hst
              have HST := Lib.hid hst
              have HRJ := Lib.hid (RowI.below HRW.out (bal_alloc (o := .cells #[.int .i64 (t : Int)] 3) (Below.refl wE.heap.size wE)))
              generalize UF t = G at HST HRJ hul
              clear hst
              go_wp2_with (at_builtin; refine wpList_appN rfl _ _ rfl w2.heap.size wE.heap.size 0 1 _ G [(t : Int)] (G.length + 1) rfl rfl rfl HRJ.out (rdI_one _ _ _ rfl) (by omega) (by simp) (by simp; omega) ?_; intro v5 wm hown5 hsh hbm hgr)
              have hb5 := (bal_alloc (o := .cells #[.int .i64 (t : Int)] 3) hbel).trans hbm
              have HO5 := Lib.hid hown5
              clear hown5 hsh hbm hgr
              go_wp2_with fail
              go_roundw
              case rel => exact ⟨t + 1, by omega, by go_num, by rw [HST.out]; exact HO5.out, hb5⟩
              case measure => simp [intOf]; omega
end Go.Proofs.YtcionneopgdebaaGreat
