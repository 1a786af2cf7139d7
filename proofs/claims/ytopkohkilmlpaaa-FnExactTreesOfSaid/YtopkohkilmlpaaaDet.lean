/-
  The program's determinant.
-/
import Derived.Test.YtopkohkilmlpaaaCat
import Derived.Test.YtopkohkilmlpaaaLapC
import Derived.Test.YtopkohkilmlpaaaTreeP
namespace Go.Proofs.Ytopkohkilmlpaaa
open Go.RowKit

/-- k rows of k numbers, as they are read. -/
structure RowsD (w : World) (g : Nat) (vs : List Value) (k : Nat) (m : Nat → Nat → Int) : Prop where
  own : Own w g 23 vs
  len : vs.length = k
  row : ∀ i, i < k → ∃ b off c, vs[i]? = some (.slice (some ⟨b, off, none⟩) k c) ∧ k ≤ c ∧ RdI w (some ⟨b, off, none⟩) (tab k (m i))
theorem RowsD.below {w w' : World} {g : Nat} {vs : List Value} {k : Nat} {m : Nat → Nat → Int} (h : RowsD w g vs k m) (hb : Below w.heap.size w w') : RowsD w' g vs k m :=
  ⟨h.own.belowAll hb, h.len, fun i hi => by
    obtain ⟨b, off, c, h1, h2, h3⟩ := h.row i hi
    exact ⟨b, off, c, h1, h2, h3.below hb⟩⟩
def DetArg (w : World) (v : Value) (k : Nat) (m : Nat → Nat → Int) : Prop := (k = 0 ∧ ∃ ad cap, v = .slice ad 0 cap) ∨ ∃ g cap vs, v = .slice (some ⟨g, 0, none⟩) k cap ∧ k ≤ cap ∧ RowsD w g vs k m
theorem minF_row (m : Nat → Nat → Int) (k c i : Nat) (hc : c < k + 1) : (tab (k + 1) (m (i + 1))).take c ++ (tab (k + 1) (m (i + 1))).drop (c + 1) = tab k (minF m c i) := by
  apply List.ext_getElem?
  intro j
  by_cases hj : j < k
  · rw [tab_get hj, List.getElem?_append]
    have hl : ((tab (k + 1) (m (i + 1))).take c).length = c := by rw [List.length_take, tab_length]; omega
    rw [hl]
    unfold minF
    by_cases e : j < c
    · rw [if_pos e, List.getElem?_take, if_pos e, tab_get (by omega), if_pos e]
    · rw [if_neg e, List.getElem?_drop, tab_get (by omega), if_neg e]
      congr 2
      omega
  · have h1 : (tab k (minF m c i))[j]? = none := by rw [List.getElem?_eq_none]; rw [tab_length]; omega
    have h2 : ((tab (k + 1) (m (i + 1))).take c ++ (tab (k + 1) (m (i + 1))).drop (c + 1))[j]? = none := by
      rw [List.getElem?_eq_none]
      rw [List.length_append, List.length_take, List.length_drop, tab_length]
      omega
    rw [h1, h2]
set_option maxRecDepth 100000 in
theorem slice_rows {g k cap : Nat} : ∃ off2 cap2, (∀ w' : World, (Instr.slice 61 (.slice (some ⟨g, 0, none⟩) (k + 1) cap) (some (.int .i64 1)) none none).run Try.prog w' = .ok (.slice (some ⟨g, off2, none⟩) k cap2) w') ∧ (k + 1 ≤ cap → 0 < k → off2 = 1) := by
  by_cases hc1 : cap = 1
  · subst hc1
    refine ⟨0, 0, fun w' => ?_, fun h1 h2 => by omega⟩
    rw [run_slice_l w' _ _ _ _ Try.underlying61 _ _ (by omega) (by omega)]
    simp [go_sem]
  · refine ⟨1, cap - 1, fun w' => ?_, fun _ _ => rfl⟩
    rw [run_slice_l w' _ _ _ _ Try.underlying61 _ _ (by omega) (by omega)]
    simp [go_sem, hc1]
set_option maxRecDepth 100000 in
theorem slice_tail {w : World} {b off k cc c : Nat} {xs : List Int} (hl : xs.length = k + 1) (hr : RdI w (some ⟨b, off, none⟩) xs) (hc : c < k + 1) (hcc : k + 1 ≤ cc) :
    ∃ off2 cap2, (∀ w' : World, (Instr.slice 23 (.slice (some ⟨b, off, none⟩) (k + 1) cc) (some (.int .i64 ((c : Int) + 1))) none none).run Try.prog w' = .ok (.slice (some ⟨b, off2, none⟩) (k - c) cap2) w') ∧ RdI w (some ⟨b, off2, none⟩) (xs.drop (c + 1)) := by
  by_cases hc1 : cc = c + 1
  · refine ⟨off, 0, fun w' => ?_, ?_⟩
    · rw [run_slice_l w' _ _ _ _ Try.underlying23 _ _ (by omega) (by omega)]
      have h1 : ((c : Int) + 1).toNat = c + 1 := by omega
      have h2 : k + 1 - (c + 1) = k - c := by omega
      simp [go_sem, hc1, h1, h2]
    · have : xs.drop (c + 1) = [] := List.drop_eq_nil_of_le (by omega)
      rw [this]
      exact RdI.nil _ _
  · refine ⟨off + (c + 1), cc - (c + 1), fun w' => ?_, hr.drop (c + 1)⟩
    rw [run_slice_l w' _ _ _ _ Try.underlying23 _ _ (by omega) (by omega)]
    have h1 : ((c : Int) + 1).toNat = c + 1 := by omega
    have h2 : k + 1 - (c + 1) = k - c := by omega
    simp [go_sem, hc1, h1, h2]

set_option maxRecDepth 100000 in
theorem slice_head {b off k cc c : Nat} (hc : c < k + 1) (hcc : k + 1 ≤ cc) (w' : World) : (Instr.slice 23 (.slice (some ⟨b, off, none⟩) (k + 1) cc) none (some (.int .i64 (c : Int))) none).run Try.prog w' = .ok (.slice (some ⟨b, off, none⟩) c cc) w' := by
  rw [run_slice_h w' _ _ _ _ Try.underlying23 _ _ (by omega) (by omega)]
  simp [go_sem]
theorem c1_det {wo wr : World} {k : Nat} {M : Nat → Nat → Int} {v : Value} {rb cb : Nat → Nat} (h : C1 wo k k M v rb cb wr) (hc : ∀ j, j < k → k ≤ cb j) : DetArg wr v k M := by
  rcases Own.of_row h.row with ⟨rfl, h0, _⟩ | ⟨g, cap, rfl, hg, hcap, _, ho⟩
  · exact Or.inl ⟨h0, none, 0, rfl⟩
  · refine Or.inr ⟨g, cap, _, rfl, hcap, ho, tab_length _ _, fun i hi => ⟨rb i, 0, cb i, tab_get hi, hc i hi, (h.hr i hi).2.rd⟩⟩

set_option maxHeartbeats 6400000 in
set_option maxRecDepth 100000 in
theorem det_any : ∀ (k : Nat) (m : Nat → Nat → Int) (v : Value) (w : World), k ≤ 4 → DetArg w v k m → (∀ i j, i < k → j < k → -20 ≤ m i j ∧ m i j ≤ 20) →
    Calls Try.prog 55 #[v] w fun e w' => e = .returned (.int .i64 (detF k m)) ∧ Below w.heap.size w w' := by
  intro k
  induction k with
  | zero =>
    intro m v w _ hv _
    obtain ⟨ad, cap, rfl⟩ : ∃ ad cap, v = .slice ad 0 cap := by
      rcases hv with ⟨_, h⟩ | ⟨g, cap, vs, h, _⟩
      · exact h
      · exact ⟨_, _, h⟩
    clear hv
    go_enter Try.func55, Try.ntmps55
    go_wp2_with fail
    go_ret
    exact ⟨rfl, Below.refl _ _⟩
  | succ k ih =>
    intro m v w hk hv hm
    obtain ⟨g, cap, vs, rfl, hcap, hrows⟩ : ∃ g cap vs, v = .slice (some ⟨g, 0, none⟩) (k + 1) cap ∧ k + 1 ≤ cap ∧ RowsD w g vs (k + 1) m := by
      rcases hv with ⟨h, _⟩ | h
      · omega
      · exact h
    have IH := Lib.hid ih; clear ih hv
    obtain ⟨i0, hi0, hz0, hz1, hz2⟩ := info_parts Try.infoII
    obtain ⟨b0, off0, cc0, hv0, hcc0, hr0⟩ := hrows.row 0 (by omega)
    have cg0 := hrows.own.cell? hv0
    have HR0 := Lib.hid hr0; clear hr0
    have HROWS := Lib.hid hrows; clear hrows
    clear hv0
    have hdb := fun c (_ : c < k + 1) => detF_bd (k := k) (m := minF m c) (fun i j hi hj => by
      unfold minF
      exact hm _ _ (by omega) (by split <;> omega))
    have htm := fun c (hc : c < k + 1) => det_term hm hdb c hc
    have hsb := sm_bd (N := k + 1) (f := fun c => sg c * m 0 c * detF k (minF m c)) (B := 20 * dB k) (fun c hc => (htm c hc).2)
    have hdBk : dB k ≤ 1000000 := by
      have : k = 0 ∨ k = 1 ∨ k = 2 ∨ k = 3 := by omega
      rcases this with rfl | rfl | rfl | rfl <;> simp [dB]
    have hdB0 := dB_nn k
    have HDB := Lib.hid hdb; clear hdb
    have HTM := Lib.hid htm; clear htm
    have HSB := Lib.hid hsb; clear hsb
    have HM := Lib.hid hm; clear hm
    obtain ⟨offg, capg, hslg, hoffg⟩ := slice_rows (g := g) (k := k) (cap := cap)
    have hoffg' := hoffg hcap
    clear hoffg
    have hd : (((k : Int) + 1) == 0) = false := by simp; omega
    go_enter Try.func55, Try.ntmps55
    go_wp2_with fail
    try simp only [Int.natCast_add, Int.natCast_one, Int.cast_ofNat_Int]
    go_loopw [3, 4, 17] (fun s sn i wr => ∃ c : Nat, c ≤ k + 1 ∧ i = .int .i64 c ∧ s = .int .i64 (sm c fun c => sg c * m 0 c * detF k (minF m c)) ∧ sn = .int .i64 (sg c) ∧ Below w.heap.size w wr) (fun _ _ i _ => (k + 1) - (intOf i).toNat)
    case atStart => exact ⟨0, by omega, rfl, rfl, rfl, Below.refl _ _⟩
    case round =>
      obtain ⟨c, hc, rfl, rfl, rfl, hbel⟩ := hrel
      by_cases hlt : c < k + 1
      case neg =>
        have he : c = k + 1 := by omega
        subst he
        go_wp2_with fail
        go_ret
        exact ⟨rfl, hbel⟩
      case pos =>
        have c0' := HR0.out.at (j := c) (by rw [tab_length]; exact hlt)
        rw [tab_getD hlt] at c0'
        have c0 := bcell hbel (cell_lt c0') c0'
        clear c0'
        have hx := HM.out 0 c (by omega) hlt
        have ht := HTM.out c hlt
        have hs := HSB.out c (by omega)
        have hst : Hid (sm (c + 1) (fun c => sg c * m 0 c * detF k (minF m c)) = sm c (fun c => sg c * m 0 c * detF k (minF m c)) + sg c * m 0 c * detF k (minF m c)) := rfl
        have hsg : Hid (sg (c + 1) = - sg c) := sg_succ c
        have hsgb : -1 ≤ sg c ∧ sg c ≤ 1 := by unfold sg; split <;> omega
        have hcB : (c : Int) * (20 * dB k) ≤ 80000000 := by
          have h1 := Int.mul_le_mul (show (c : Int) ≤ 4 by omega) (show 20 * dB k ≤ 20000000 by omega) (by omega) (by omega)
          omega
        generalize hS : sm c (fun c => sg c * m 0 c * detF k (minF m c)) = S at hs hst ⊢
        generalize hG : sg c = sc at ht hst hsg hsgb ⊢
        generalize hX : m 0 c = x at c0 hx ht hst
        have HS := Lib.hid hS; clear hS
        have HG := Lib.hid hG; clear hG
        have HX := Lib.hid hX; clear hX
        have hmb := fun i j (hi : i < k) (hj : j < k) => show -20 ≤ minF m c i j ∧ minF m c i j ≤ 20 by
          unfold minF
          exact HM.out _ _ (by omega) (by split <;> omega)
        have HMB := Lib.hid hmb; clear hmb
        have hbw := hbel; clear hbel
        have hcd : decide ((c : Int) < (k : Int) + 1) = true := by simp; omega
        obtain ⟨wo, rfl⟩ : ∃ wo : World, wo = wr := ⟨_, rfl⟩
        go_wp2_with fail
        go_loopw [7, 26] (fun v i wr => ∃ i' : Nat, i' ≤ k ∧ i = .int .i64 i' ∧ ∃ rb cb, C1 wo k i' (minF m c) v rb cb wr ∧ ∀ j, j < i' → k ≤ cb j) (fun _ i _ => k - (intOf i).toNat)
        case atStart => exact ⟨0, Nat.zero_le _, rfl, fun _ => 0, fun _ => 0, ⟨row_empty _ _, fun i hi => by omega, fun i j hi => by omega, (Below.refl _ _).alloc (Nat.le_refl _) _⟩, fun j hj => by omega⟩
        case round =>
          obtain ⟨i, hi, rfl, rb, cb, hC, hcp⟩ := hrel
          have HCP := Lib.hid hcp; clear hcp
          by_cases hlt2 : i < k
          case pos =>
            obtain ⟨b, off, cc, hvi, hcc, hri⟩ := HROWS.out.row (i + 1) (by omega)
            have hbw3 := ball hbw hC.bel
            have cg : wr.cell? ⟨g, offg + i, none⟩ = some (.slice (some ⟨b, off, none⟩) (k + 1) cc) := by
              have := hoffg' (by omega)
              rw [show offg + i = i + 1 by omega]
              exact bcell hbw3 HROWS.out.own.lt (HROWS.out.own.cell? hvi)
            clear hvi
            have hri3 := hri.below hbw3
            have hh := slice_head (b := b) (off := off) (k := k) (cc := cc) (c := c) hlt hcc
            obtain ⟨off2, cap2, ht2, hrt⟩ := slice_tail (tab_length _ _) hri3 hlt hcc
            have hb4 : Below wr.heap.size wr (wr.alloc (.cells #[.slice (some ⟨b, off, none⟩) c cc, .slice (some ⟨b, off2, none⟩) (k - c) cap2] 23)).drew := ((Below.refl _ _).alloc (Nat.le_refl _) _).drew
            have hl1 : ((tab (k + 1) (m (i + 1))).take c).length = c := by rw [List.length_take, tab_length]; omega
            have hl2 : ((tab (k + 1) (m (i + 1))).drop (c + 1)).length = k - c := by rw [List.length_drop, tab_length]; omega
            have hcat := concat_any wr.heap.size 2 b off cc ((tab (k + 1) (m (i + 1))).take c) b off2 cap2 ((tab (k + 1) (m (i + 1))).drop (c + 1)) (wr.alloc (.cells #[.slice (some ⟨b, off, none⟩) c cc, .slice (some ⟨b, off2, none⟩) (k - c) cap2] 23)).drew
              (by rw [hl1, hl2]; exact (Own.newA wr _ 23 rfl).drew) ((hri3.take c).below hb4) (hrt.below hb4) (by omega) (by omega)
            rw [hl1, hl2, minF_row m k c i hlt, show c + (k - c) = k by omega] at hcat
            have HCAT := Lib.hid hcat; clear hcat hl1 hl2 hri hri3 hrt
            have HC := Lib.hid hC; clear hC
            have HB4 := Lib.hid hb4
            have w1' : IntKind.i64.wrap ((c : Int) + 1) = (c : Int) + 1 := i64_small (by omega) (by omega)
            have w2' : (0 : Int) ≤ (c : Int) + 1 := by omega
            have w3' : ((c : Int) + 1).toNat = c + 1 := by omega
            go_wp2_with fail
            go_region_held3 (fun _ => True) (trivial)
              (first
                | (go_at_call 83; (with_reducible refine HCAT.out.mono ?_); rintro e w3 ⟨gr, cr, rfl, hcr, hgr, hor, hb5⟩; have HOR := Lib.hid hor; clear hor; have hb6 := ball HB4.out hb5; have HOW := Lib.hid (ownsRow_bel HC.out.row hb6); have hs6 := hb6.size; have hs7 := HC.out.bel.size)
                | ((refine step_append_lies _ (by rfl) _ _ _ (by rfl) wo.heap.size 23 i0 _ 1 24 Try.underlying61 hi0 hz0 hz1 hz2 rfl (by omega) _ i _ (by rfl) (HOW.out.alloc _) ⟨w3.heap.size, 0, none⟩ 1 1 [.slice (some ⟨gr, 0, none⟩) k cr] (by rfl) (by rfl) (World.news_of_block (cs := #[.slice (some ⟨gr, 0, none⟩) k cr]) (t := 23) (fr := (0, 0)) (heap_alloc_new _ _)) (by simp [Value.oneCell']) (by omega) (by unfold maxLen; omega) (by omega) (by simp; omega) (w3.heap.size + 1) (by simp) ?_; intro gg gcap w4 hown4 hgrow4 hat4 hlt4)))
            clear w1' w2' w3' hh ht2 cg
            go_wp2_with fail
            go_roundw
            case rel =>
              refine ⟨i + 1, by omega, by go_num, _, _, HC.out.step gr cr (Nat.le_trans HB4.out.size hgr) (HOR.out.alloc _) (hb6.alloc hs6 _) hown4 hgrow4, fun j hj => ?_⟩
              by_cases e : j = i
              · subst e; simpa using hcr
              · simp only [if_neg e]; exact HCP.out j (by omega)
            case measure => simp [intOf]; omega
          case neg =>
            have he : i = k := by omega
            subst he
            have hda := c1_det hC HCP.out
            have hb5 := ball hbw hC.bel
            have HDA := Lib.hid hda; clear hda hC
            have hdv := HDB.out c hlt
            have hcall := IH.out (minF m c) _ wr (by omega) HDA.out HMB.out
            generalize hD : detF i (minF m c) = dv at ht hst hdv hcall ⊢
            have HDV := Lib.hid hD; clear hD
            have HCL := Lib.hid hcall; clear hcall
            obtain ⟨⟨b1, b2⟩, b3, b4⟩ := ht
            have b5 : -20000000 ≤ sc * x * dv := by omega
            have b6 : sc * x * dv ≤ 20000000 := by omega
            have b7 : -80000000 ≤ S := by omega
            have b8 : S ≤ 80000000 := by omega
            clear b3 b4 hs hcB hdv hx hdB0 hdBk
            go_wp2_with fail
            refine HCL.out.mono ?_
            rintro e w6 ⟨rfl, hb6⟩
            go_wp2_with fail
            go_roundw
            case rel => exact ⟨c + 1, by omega, by go_num, by rw [hst.out], by rw [hsg.out], ball hb5 hb6⟩
            case measure => simp [intOf]; omega

end Go.Proofs.Ytopkohkilmlpaaa
