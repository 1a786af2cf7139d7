/-
  Matrices of all shapes that the cursor draws. Printed by gen_wyV.py. By an AI agent.
-/
import Derived.Test.YtnbenpalneodlaaWyU
namespace Go.Proofs.Ytnbenpalneodlaa
open Go.RowKit

theorem Cur.drew' {w : World} {c n : Nat} (h : Cur w c n) : Cur w.drew c n := h.below (Below.refl _ _).drew
theorem Cur.alloc' {w : World} {c n : Nat} {o : Obj} (h : Cur w c n) : Cur (w.alloc o) c n := h.below ((Below.refl _ _).alloc (Nat.le_refl _) _)
theorem MatO.rowE {w : World} {B : Nat} {v : Value} {M : List (List Int)} {vs : List Value} (h : MatO w B v M vs) {i : Nat} (hi : i < M.length) (h0 : 0 < (M.getD i []).length) : ∃ b o c, vs.getD i undef = .slice (some ⟨b, o, none⟩) (M.getD i []).length c := by
  obtain ⟨h1, _⟩ := h.rowOf hi h0
  exact ⟨_, _, _, h1⟩
theorem MatO.rowY {w : World} {B n cap g : Nat} {M : List (List Int)} {vs : List Value} (h : MatO w B (.slice (some ⟨g, 0, none⟩) n cap) M vs) {i b o len c : Nat} (hi : i < M.length) (hl : (M.getD i []).length = len) (h0 : 0 < len) (hv : vs.getD i undef = .slice (some ⟨b, o, none⟩) len c) :
    w.cell? ⟨g, i, none⟩ = some (.slice (some ⟨b, o, none⟩) len c) ∧ B ≤ b ∧ b < w.heap.size ∧ b ≠ g ∧ (∀ j, j < len → w.cell? ⟨b, o + j, none⟩ = some (.int .i64 ((M.getD i []).getD j 0)) ∧ w.frozen? ⟨b, o + j, none⟩ = false) ∧
    ∀ j x, j < len → MatO (w.setCell ⟨b, o + j, none⟩ (.int .i64 x)) B (.slice (some ⟨g, 0, none⟩) n cap) (M.set i ((M.getD i []).set j x)) vs := by
  subst hl
  obtain ⟨_, h2, h3, h4⟩ := h.rowOf hi h0
  have e1 : rowAt (vs.getD i undef) = (b, o) := by rw [hv]; rfl
  rw [e1] at h2 h3 h4
  obtain ⟨g', cap', e, hB, _, ho⟩ := h.cells (by omega)
  injection e with e _ _
  injection e with e
  injection e with e _ _
  subst e
  have hi' : i < vs.length := by rw [h.len]; exact hi
  have hc := ho.cell? (i := i) (v := vs.getD i undef) (by rw [List.getD_eq_getElem?_getD, List.getElem?_eq_getElem hi']; rfl)
  refine ⟨by rw [hc, hv], h2, h3, fun e => ?_, h4, fun j x hj => ?_⟩
  · subst e
    exact (h.each i hi).ne_row h.row (q := b) (by rw [hv]; rfl) rfl
  · have := h.set hi hj x
    rw [e1] at this
    exact this
theorem MatO.outerM {w : World} {B n cap g R : Nat} {M : List (List Int)} {vs : List Value} (h : MatO w B (.slice (some ⟨g, 0, none⟩) n cap) M vs) (hR : M.length = R) : ∀ i, i < R → w.cell? ⟨g, i, none⟩ = some (vs.getD i undef) := by
  subst hR
  intro i hi
  obtain ⟨g', cap', e, hB, _, ho⟩ := h.cells (by omega)
  injection e with e _ _
  injection e with e
  injection e with e _ _
  subst e
  have hi' : i < vs.length := by rw [h.len]; exact hi
  exact ho.cell? (i := i) (v := vs.getD i undef) (by rw [List.getD_eq_getElem?_getD, List.getElem?_eq_getElem hi']; rfl)
theorem MatO.cut {w : World} {B n cap g : Nat} {M : List (List Int)} {vs : List Value} (h : MatO w B (.slice (some ⟨g, 0, none⟩) n cap) M vs) {i b : Nat} {u : Value} {xs : List Int} (hi : i < M.length) (hb : (vs.getD i undef).ownBlock = some b) (hu : CellO w B u xs) (hub : ∀ q, u.ownBlock = some q → q = b) :
    MatO (w.setCell ⟨g, i, none⟩ u) B (.slice (some ⟨g, 0, none⟩) n cap) (M.set i xs) (vs.set i u) := by
  have hn : n = M.length := by
    obtain ⟨ad, cap', e, _⟩ := h.shape
    injection e
  subst hn
  have hvl := h.len
  have hgn : ∀ a, a < M.length → ∀ q, (vs.getD a undef).ownBlock = some q → q ≠ g := fun a ha q hq e => by
    subst e
    exact (h.each a ha).ne_row h.row hq rfl
  have e1 : ∀ a, a ≠ i → (M.set i xs).getD a [] = M.getD a [] := fun a ha => by rw [List.getD_eq_getElem?_getD, List.getElem?_set_ne (by omega), ← List.getD_eq_getElem?_getD]
  have e2 : ∀ a, a ≠ i → (vs.set i u).getD a undef = vs.getD a undef := fun a ha => by rw [List.getD_eq_getElem?_getD, List.getElem?_set_ne (by omega), ← List.getD_eq_getElem?_getD]
  have e3 : (M.set i xs).getD i [] = xs := by simp [List.getD_eq_getElem?_getD, hi]
  have e4 : (vs.set i u).getD i undef = u := by simp [List.getD_eq_getElem?_getD, hvl, hi]
  refine ⟨?_, fun a ha => ?_, fun a c ha hc hac q hq => ?_⟩
  · rw [List.length_set]
    exact (World.ownsRow.stored h.row i u).1
  · rw [List.length_set] at ha
    by_cases ea : a = i
    · subst ea
      rw [e3, e4]
      exact hu.of_block fun q hq => Deep.blk_setCell_other _ _ _ _ (by rw [hub q hq]; exact hgn a ha b hb)
    · rw [e1 a ea, e2 a ea]
      exact (h.each a ha).of_block fun q hq => Deep.blk_setCell_other _ _ _ _ (hgn a ha q hq)
  · rw [List.length_set] at ha hc
    by_cases ea : a = i
    · subst ea
      rw [e4] at hq
      rw [e2 c (by omega)]
      have := hub q hq
      subst this
      exact h.apart a c hi hc hac q hb
    · rw [e2 a ea] at hq
      by_cases ec : c = i
      · subst ec
        rw [e4]
        intro h5
        have := hub q h5
        subst this
        exact h.apart c a hi ha (by omega) q hb hq
      · rw [e2 c ec]
        exact h.apart a c ha hc hac q hq
theorem CellO.cut2 {w : World} {B b o k c : Nat} {xs : List Int} (h : CellO w B (.slice (some ⟨b, o, none⟩) (k + 1) c) xs) : CellO w B (.slice (some ⟨b, o + 1, none⟩) k (c - 1)) xs.tail := by
  obtain ⟨ad, cap, e, hcp, h⟩ := h
  injection e with e0 e1 e2
  subst e0
  rcases h with ⟨h, _⟩ | ⟨g, off, ys, h, hB, ho, hj⟩
  · cases h
  · injection h with h
    injection h with h h' _
    subst h; subst h'
    have hxl : xs.tail.length = k := by rw [List.length_tail]; omega
    refine ⟨_, _, by rw [hxl], by rw [hxl]; omega, Or.inr ⟨b, o + 1, ys, rfl, hB, ho, fun j hj2 => ?_⟩⟩
    obtain ⟨h1, h2⟩ := hj (j + 1) (by omega)
    refine ⟨by omega, ?_⟩
    rw [show o + 1 + j = o + (j + 1) by omega, ← h2]
    simp [List.getD_eq_getElem?_getD]
theorem CellO.cut1 {w : World} {B b o c : Nat} {xs : List Int} (h : CellO w B (.slice (some ⟨b, o, none⟩) (0 + 1) c) xs) : CellO w B (.slice (some ⟨b, o, none⟩) 0 0) xs.tail := by
  obtain ⟨ad, cap, e, _, h⟩ := h
  injection e with e0 e1 e2
  subst e0
  rcases h with ⟨h, _⟩ | ⟨g, off, ys, h, hB, ho, hj⟩
  · cases h
  · injection h with h
    injection h with h h' _
    subst h; subst h'
    have hxl : xs.tail.length = 0 := by rw [List.length_tail]; omega
    exact ⟨_, 0, by rw [hxl], by rw [hxl]; exact Nat.le_refl _, Or.inr ⟨b, o, ys, rfl, hB, ho, fun j hj => by omega⟩⟩
def okS (M : List (List Int)) (vs : List Value) : Prop := ∃ R C : Nat, (1 ≤ R ∧ R ≤ 6) ∧ (1 ≤ C ∧ C ≤ 6) ∧ shM R C M ∧ capM M vs
def smD (M : List (List Int)) (_ : List Value) : Prop := M.length ≤ 7 ∧ ∀ i, i < M.length → (M.getD i []).length ≤ 7
theorem smD_sh {R C : Nat} {M : List (List Int)} {vs : List Value} (h : shM R C M) (hR : R ≤ 7) (hC : C ≤ 7) : smD M vs := ⟨by rw [h.1]; exact hR, fun i hi => by rw [h.2 i (by rw [← h.1]; exact hi)]; exact hC⟩
theorem smD_set {M : List (List Int)} {vs vs' : List Value} {i : Nat} {xs : List Int} (h : smD M vs) (hx : xs.length ≤ 7) : smD (M.set i xs) vs' := by
  refine ⟨by rw [List.length_set]; exact h.1, fun a ha => ?_⟩
  rw [List.length_set] at ha
  by_cases e : a = i
  · subst e
    rw [show (M.set a xs).getD a [] = xs by simp [List.getD_eq_getElem?_getD, ha]]
    exact hx
  · rw [List.getD_eq_getElem?_getD, List.getElem?_set_ne (by omega), ← List.getD_eq_getElem?_getD]
    exact h.2 a ha

set_option maxHeartbeats 1600000 in
set_option maxRecDepth 100000 in
theorem square_c (c n : Nat) (w : World) (h : Cur w c n) (hn : n ≤ 4611686018427350000) :
    Calls Try.prog 64 #[.pointer (some ⟨c, 0, none⟩)] w (MatD okS c (n + 210) w) := by
  have hcl := h.lt
  have H := Lib.hid h; clear h
  go_enter Try.func64, Try.ntmps64
  go_wp2_with fail
  refine (pick_c 4 c n w H.out (by omega)).mono ?_
  rintro e w1 ⟨x, rfl, hx, hcu, hch⟩
  obtain ⟨N, hN⟩ : ∃ N : Nat, 1 + x = (N : Int) := ⟨(1 + x).toNat, by omega⟩
  have e1 : IntKind.i64.wrap (1 + x) = (N : Int) := by rw [i64_small (by omega) (by omega)]; exact hN
  have hN4 : 1 ≤ N ∧ N ≤ 4 := by omega
  have hz := hch.size
  have HU := Lib.hid hcu; have HF := Lib.hid hch
  clear hcu hch hx hN
  go_wp2_with fail
  refine (one_c 12 c (n + 2) w1 HU.out (by omega)).mono ?_
  rintro e w2 ⟨b, rfl, hcu, hch⟩
  have hz2 := hch.size
  have HU2 := Lib.hid hcu; have HF2 := Lib.hid (HF.out.trans hch)
  clear hcu hch
  cases b
  · go_wp2_with fail
    refine (matrix_c N N c (n + 4) w2 HU2.out (by omega) (by omega) (by omega)).mono ?_
    rintro e w3 ⟨ad, cap, M, vs, rfl, ⟨hsh, hcp⟩, hmat, hcu, hch⟩
    have HP := Lib.hid (show okS M vs from ⟨N, N, by omega, by omega, hsh, hcp⟩)
    have HM := Lib.hid (hmat.mono (B' := w.heap.size) (by omega)); have HU3 := Lib.hid hcu; have HF3 := Lib.hid (HF2.out.trans hch)
    clear hsh hcp hmat hcu hch
    go_wp2_with fail
    go_ret
    exact ⟨ad, cap, M, ⟨vs, rfl, HP.out, HM.out, HU3.out.mono (by omega), HF3.out⟩⟩
  · go_wp2_with fail
    refine (matrix_c 6 6 c (n + 4) w2 HU2.out (by omega) (by omega) (by omega)).mono ?_
    rintro e w3 ⟨ad, cap, M, vs, rfl, ⟨hsh, hcp⟩, hmat, hcu, hch⟩
    have HP := Lib.hid (show okS M vs from ⟨6, 6, by omega, by omega, hsh, hcp⟩)
    have HM := Lib.hid (hmat.mono (B' := w.heap.size) (by omega)); have HU3 := Lib.hid hcu; have HF3 := Lib.hid (HF2.out.trans hch)
    clear hsh hcp hmat hcu hch
    go_wp2_with fail
    go_ret
    exact ⟨ad, cap, M, ⟨vs, rfl, HP.out, HM.out, HU3.out.mono (by omega), HF3.out⟩⟩

set_option maxHeartbeats 6400000 in
set_option maxRecDepth 100000 in
theorem anyMatrix_c (c n : Nat) (w : World) (h : Cur w c n) (hn : n ≤ 4611686018427340000) :
    Calls Try.prog 57 #[.pointer (some ⟨c, 0, none⟩)] w (MatD smD c (n + 700) w) := by
  have hcl := h.lt
  have H := Lib.hid h; clear h
  go_enter Try.func57, Try.ntmps57
  go_wp2_with fail
  refine (square_c c n w H.out (by omega)).mono ?_
  rintro e w1 ⟨ad, cap, M, vs, rfl, hok, hmat, hcu, hch⟩
  have hz := hch.size
  have HP := Lib.hid hok; have HM := Lib.hid hmat; have HU := Lib.hid hcu; have HF := Lib.hid hch
  clear hok hmat hcu hch H
  go_wp2_with fail
  refine (one_c 3 c (n + 210) w1 HU.out (by omega)).mono ?_
  rintro e w2 ⟨b, rfl, hcu, hch⟩
  have hz2 := hch.size
  have HM2 := Lib.hid (HM.out.chg hch hcl)
  have HU2 := Lib.hid hcu; have HF2 := Lib.hid (HF.out.trans hch)
  clear hcu hch HM HU HF
  cases b
  case false =>
    obtain ⟨R, C, hR, hC, hsh, hcp⟩ := HP.out
    have hML := hsh.1
    obtain ⟨g, cav, eg, hg, _, _⟩ := HM2.out.cells (by omega)
    injection eg with eg _ eg3
    subst eg
    rw [hML] at HM2 ⊢
    have HSH := Lib.hid hsh; have HCP := Lib.hid hcp; have HML := Lib.hid hML
    have hgl : g < w2.heap.size := by
      obtain ⟨g', _, eg, _, _, ho⟩ := HM2.out.cells (by rw [hML]; omega)
      injection eg with eg _ _
      injection eg with eg
      injection eg with eg _ _
      subst eg
      exact ho.lt
    clear hsh hcp hML eg3
    go_wp2_with fail
    refine (pick_c 30 c (n + 212) w2 HU2.out (by omega)).mono ?_
    rintro e w4 ⟨x, rfl, hx, hcu, hch⟩
    have hz4 := hch.size
    have HM4 := Lib.hid (HM2.out.chg hch hcl)
    have HU4 := Lib.hid hcu; have HF4 := Lib.hid (HF2.out.trans hch)
    clear hcu hch
    by_cases h0 : x = 0
    case pos =>
      subst h0
      have hn1 : ∀ i, i < M.length → 0 < (M.getD i []).length := fun i hi => by rw [HSH.out.2 i (by rw [← HML.out]; exact hi)]; omega
      have HN1 := Lib.hid hn1; clear hn1
      have HDL := Lib.hid (fun i (hi : i < R) => HSH.out.2 i hi)
      have hx1 : (0 : Int) < (C : Int) := by omega
      have hx2 : 0 < C := by omega
      have hcw4 : c < w4.heap.size := by omega
      obtain ⟨F, hF⟩ : ∃ F : Nat → Value, ∀ i, vs.getD i undef = F i := ⟨_, fun _ => rfl⟩
      have HFV := Lib.hid hF
      clear hF
      have n4 : ∀ i, i < R → w4.cell? ⟨g, i, none⟩ = some (F i) := fun i hi => by rw [← HFV.out]; exact HM4.out.outerM HML.out i hi
      go_wp2_with fail
      go_region_held3 (fun w' => ∀ i, i < R → w'.cell? ⟨g, i, none⟩ = some (F i)) (first | assumption | (intro i hi; with_reducible repeat' (first | (apply_assumption; assumption) | apply cell_alloc' | apply cell_drew' | (refine cell_set' hbg.symm ?_))))
        (first
          | (go_at_call 20; (with_reducible refine (pick_c (R : Int) c ((n + 212) + 2) _ (by first | exact HU4.out | exact HU4.out.below (Below.refl _ _).drew) (by omega)).mono ?_); rintro e W1 ⟨y, rfl, hy, hcu, hch⟩; obtain ⟨q, rfl⟩ : ∃ q : Nat, y = (q : Int) := ⟨y.toNat, by omega⟩; have hqR : q < R := (by omega); have HMA := Lib.hid (MatO.chg (by first | exact HM4.out | exact HM4.out.below (Below.refl _ _).drew) hch hcl); have HUA := Lib.hid hcu; have HFA := Lib.hid (HF4.out.trans (Chg.trans (Chg.of_below (Below.refl _ _).drew) hch)); obtain ⟨bq, oq, cq, hvq⟩ := HMA.out.rowE (i := q) (by rw [HML.out]; exact hqR) (HN1.out q (by rw [HML.out]; exact hqR)); rw [HDL.out q hqR] at hvq; have HVQ := Lib.hid hvq; rw [HFV.out] at hvq; have nA : ∀ i, i < R → W1.cell? ⟨g, i, none⟩ = some (F i) := (fun i hi => by rw [← HFV.out]; exact HMA.out.outerM HML.out i hi); have hzA := hch.size; have hq0 : (0 : Int) ≤ (q : Int) := (by omega); have hq1 : (q : Int) < (R : Int) := (by omega); clear hcu hch hy)
          | (go_at_call 45; (with_reducible refine (anyNum_c c (((n + 212) + 2) + 2) _ HUA.out (by omega)).mono ?_); rintro e W2 ⟨z, rfl, -, hcu, hch⟩; have HMB := Lib.hid (HMA.out.chg hch hcl); have HUB := Lib.hid hcu; have HFB := Lib.hid (HFA.out.trans hch); have nB : ∀ i, i < R → W2.cell? ⟨g, i, none⟩ = some (F i) := (fun i hi => by rw [← HFV.out]; exact HMB.out.outerM HML.out i hi); obtain ⟨_, hBb, hbB, hbg, hcell, hset⟩ := HMB.out.rowY (by rw [HML.out]; exact hqR) (HDL.out q hqR) (by omega) HVQ.out; obtain ⟨mB, fB⟩ := hcell 0 (by omega); have hst := hset 0 z (by omega); rw [Nat.add_zero] at mB fB hst; have HST := Lib.hid hst; have hzB := hch.size; clear hcu hch hcell hset hst)
          | fail)
      all_goals
        have hb9 : Below w.heap.size W2 (W2.setCell ⟨bq, oq, none⟩ (.int .i64 z)) := (Below.refl w.heap.size W2).setCell (p := ⟨bq, oq, none⟩) hBb (.int .i64 z)
        have HU9 := Lib.hid (HUB.out.under hb9 hcl)
        have HF9 := Lib.hid (HFB.out.under hb9 (Nat.le_refl _) (by simp [World.setCell]))
        have HS9 := Lib.hid (smD_set (vs' := vs) (i := q) (xs := (M.getD q []).set 0 z) (smD_sh (vs := vs) HSH.out (by omega) (by omega)) (by rw [List.length_set, HDL.out q hqR]; omega))
        clear hb9
        go_wp2_with fail
        go_ret
        exact ⟨_, cap, _, ⟨_, by rw [List.length_set, HML.out]; rfl, HS9.out, by rw [List.length_set, HML.out]; exact HST.out, HU9.out.mono (by omega), HF9.out⟩⟩
    case neg =>
      have e0 : (x == 0) = false := beq_eq_false_iff_ne.2 h0
      by_cases h1 : x = 1
      case pos =>
        subst h1
        clear h0
        obtain ⟨C', hC'⟩ : ∃ C', C = C' + 1 := ⟨C - 1, by omega⟩
        subst hC'
        have h0l := HSH.out.2 0 (by omega)
        obtain ⟨b0, o0, c0, hv0⟩ := HM4.out.rowE (i := 0) (by rw [HML.out]; omega) (by rw [h0l]; omega)
        obtain ⟨_, _, hv0', hcap⟩ := HCP.out 0 (by rw [HML.out]; omega)
        rw [hv0] at hv0'
        injection hv0' with q1 q2 q3
        subst q1
        subst q3
        clear q2
        rw [h0l] at hv0 hcap
        obtain ⟨k0, hBb, hbl, hbg, _, _⟩ := HM4.out.rowY (by rw [HML.out]; omega) h0l (by omega) hv0
        have hce := HM4.out.each 0 (by rw [HML.out]; omega)
        rw [hv0] at hce
        have fz : w4.frozen? ⟨g, 0, none⟩ = false := by
          obtain ⟨g', _, eg, _, _, ho⟩ := HM4.out.cells (by rw [HML.out]; omega)
          injection eg with eg _ _
          injection eg with eg
          injection eg with eg _ _
          subst eg
          exact ho.frozen 0
        have HCT := Lib.hid (fun u (hu : CellO w4 w.heap.size u (M.getD 0 []).tail) (hq : ∀ q, u.ownBlock = some q → q = b0) => HM4.out.cut (i := 0) (by rw [HML.out]; omega) (b := b0) (by rw [hv0]; rfl) hu hq)
        have HB9 := Lib.hid (fun u => (show Below w.heap.size w4 (w4.setCell ⟨g, 0, none⟩ u) from (Below.refl w.heap.size w4).setCell (p := ⟨g, 0, none⟩) hg u))
        have HS9 := Lib.hid (fun vs' => smD_set (vs' := vs') (i := 0) (xs := (M.getD 0 []).tail) (smD_sh (vs := vs) HSH.out (by omega) (by omega)) (by rw [List.length_tail, h0l]; omega))
        have HCE := Lib.hid hce
        have hx1 : (0 : Int) < (R : Int) := by omega
        have hx2 : 0 < R := by omega
        clear hv0 hce h0l
        by_cases hc1 : c0 = 1
        case pos =>
          obtain rfl : C' = 0 := by omega
          subst hc1
          go_wp2_with fail
          go_ret
          exact ⟨_, cap, _, ⟨_, by rw [List.length_set, HML.out]; rfl, HS9.out _, by rw [List.length_set, HML.out]; exact HCT.out _ HCE.out.cut1 (fun q hq => by simpa [Value.ownBlock] using hq.symm), (HU4.out.under (HB9.out _) hcl).mono (by omega), HF4.out.under (HB9.out _) (Nat.le_refl _) (by simp [World.setCell])⟩⟩
        case neg =>
          go_wp2_with fail
          go_ret
          exact ⟨_, cap, _, ⟨_, by rw [List.length_set, HML.out]; rfl, HS9.out _, by rw [List.length_set, HML.out]; exact HCT.out _ HCE.out.cut2 (fun q hq => by simpa [Value.ownBlock] using hq.symm), (HU4.out.under (HB9.out _) hcl).mono (by omega), HF4.out.under (HB9.out _) (Nat.le_refl _) (by simp [World.setCell])⟩⟩
      case neg =>
        have e1 : (x == 1) = false := beq_eq_false_iff_ne.2 h1
        by_cases h2 : x = 2
        case pos =>
          subst h2
          have hcw4 : c < w4.heap.size := by omega
          go_wp2_with fail
          refine (among_c w4.heap.size 2 [0, 7] c ((n + 212) + 2) _ (HU4.out.below ((Below.refl _ _).alloc (Nat.le_refl _) _)) (by omega) (by simp) (by simp) (by omega) (Own.newA w4 _ 3 rfl)).mono ?_
          rintro e w5 ⟨y, rfl, hy, hcu, hch⟩
          obtain ⟨r, rfl, hr⟩ : ∃ r : Nat, y = (r : Int) ∧ r ≤ 7 := by
            simp at hy
            rcases hy with h | h
            · exact ⟨0, h, by omega⟩
            · exact ⟨7, h, by omega⟩
          have hz5 := hch.size
          have hz5' : w4.heap.size ≤ w5.heap.size := by simp at hz5; omega
          have HU5 := Lib.hid hcu; have HF5 := Lib.hid ((HF4.out.trans (Chg.of_below ((Below.refl _ _).alloc (Nat.le_refl _) _))).trans hch)
          clear hcu hch hy hz5
          go_wp2_with fail
          refine (matrix_c r 2 c (((n + 212) + 2) + 2) w5 HU5.out (by omega) (by omega) (by omega)).mono ?_
          rintro e w6 ⟨ad6, cap6, M6, vs6, rfl, ⟨hsh6, _⟩, hmat6, hcu, hch⟩
          have HP6 := Lib.hid (smD_sh (vs := vs6) hsh6 (by omega) (by omega))
          have HM6 := Lib.hid (hmat6.mono (B' := w.heap.size) (by omega)); have HU6 := Lib.hid hcu; have HF6 := Lib.hid (HF5.out.trans hch)
          clear hsh6 hmat6 hcu hch
          go_wp2_with fail
          go_ret
          exact ⟨ad6, cap6, M6, ⟨vs6, rfl, HP6.out, HM6.out, HU6.out.mono (by omega), HF6.out⟩⟩
        case neg =>
          have e2 : (x == 2) = false := beq_eq_false_iff_ne.2 h2
          by_cases h3 : x = 3
          case pos =>
            subst h3
            have hcw4 : c < w4.heap.size := by omega
            go_wp2_with fail
            refine (among_c w4.heap.size 2 [0, 7] c ((n + 212) + 2) _ (HU4.out.below ((Below.refl _ _).alloc (Nat.le_refl _) _)) (by omega) (by simp) (by simp) (by omega) (Own.newA w4 _ 3 rfl)).mono ?_
            rintro e w5 ⟨y, rfl, hy, hcu, hch⟩
            obtain ⟨r, rfl, hr⟩ : ∃ r : Nat, y = (r : Int) ∧ r ≤ 7 := by
              simp at hy
              rcases hy with h | h
              · exact ⟨0, h, by omega⟩
              · exact ⟨7, h, by omega⟩
            have hz5 := hch.size
            have hz5' : w4.heap.size ≤ w5.heap.size := by simp at hz5; omega
            have HU5 := Lib.hid hcu; have HF5 := Lib.hid ((HF4.out.trans (Chg.of_below ((Below.refl _ _).alloc (Nat.le_refl _) _))).trans hch)
            clear hcu hch hy hz5
            go_wp2_with fail
            refine (matrix_c 2 r c (((n + 212) + 2) + 2) w5 HU5.out (by omega) (by omega) (by omega)).mono ?_
            rintro e w6 ⟨ad6, cap6, M6, vs6, rfl, ⟨hsh6, _⟩, hmat6, hcu, hch⟩
            have HP6 := Lib.hid (smD_sh (vs := vs6) hsh6 (by omega) (by omega))
            have HM6 := Lib.hid (hmat6.mono (B' := w.heap.size) (by omega)); have HU6 := Lib.hid hcu; have HF6 := Lib.hid (HF5.out.trans hch)
            clear hsh6 hmat6 hcu hch
            go_wp2_with fail
            go_ret
            exact ⟨ad6, cap6, M6, ⟨vs6, rfl, HP6.out, HM6.out, HU6.out.mono (by omega), HF6.out⟩⟩
          case neg =>
            have e3 : (x == 3) = false := beq_eq_false_iff_ne.2 h3
            by_cases h4 : x = 4
            case pos =>
              subst h4
              have h0l := HSH.out.2 0 (by omega)
              obtain ⟨b0, o0, c0, hv0⟩ := HM4.out.rowE (i := 0) (by rw [HML.out]; omega) (by rw [h0l]; omega)
              rw [h0l] at hv0
              have HV0 := Lib.hid hv0
              have H0L := Lib.hid h0l
              obtain ⟨k0, hBb, hbl, hbg, _, _⟩ := HM4.out.rowY (by rw [HML.out]; omega) h0l (by omega) hv0
              have hcw4 : c < w4.heap.size := by omega
              have hx1 : (0 : Int) < (C : Int) := by omega
              have hx2 : 0 < C := by omega
              have hx3 : (0 : Int) < (R : Int) := by omega
              have hx4 : 0 < R := by omega
              clear hv0 h0l
              go_wp2_with fail
              go_region_held3 (fun w' => w'.cell? ⟨g, 0, none⟩ = some (.slice (some ⟨b0, o0, none⟩) C c0)) (first | assumption | (with_reducible repeat' (first | assumption | apply cell_alloc' | apply cell_drew' | (refine cell_set' hbg.symm ?_))))
                (first
                  | (go_at_call 22; (refine (among_c w4.heap.size 2 [1000000, -1000000] c ((n + 212) + 2) _ (by with_reducible repeat (first | exact HU4.out | apply Cur.alloc' | apply Cur.drew')) (by omega) (by simp) (by simp) (by first | omega | (simp; omega)) (by first | exact (Own.newA _ _ 3 rfl).drew | exact (Own.newA _ _ 3 rfl))).mono ?_); rintro e W1 ⟨z, rfl, -, hcu, hch⟩; have hchD := Chg.trans (Chg.of_below (b := c) ((Below.refl w4.heap.size w4).alloc (Nat.le_refl _) (.cells #[.int .i64 1000000, .int .i64 (-1000000)] 3)).drew) hch; have HMB := Lib.hid (HM4.out.chg hchD hcl); have HUB := Lib.hid hcu; have HFB := Lib.hid (HF4.out.trans hchD); obtain ⟨nB, _, _, _, hcell, hset⟩ := HMB.out.rowY (by rw [HML.out]; omega) H0L.out (by omega) HV0.out; obtain ⟨mB, fB⟩ := hcell 0 (by omega); have hst := hset 0 z (by omega); rw [Nat.add_zero] at mB fB hst; have HST := Lib.hid hst; have hzB := hchD.size; clear hcu hch hchD hcell hset hst)
                  | fail)
              all_goals
                have hb9 : Below w.heap.size W1 (W1.setCell ⟨b0, o0, none⟩ (.int .i64 z)) := (Below.refl w.heap.size W1).setCell (p := ⟨b0, o0, none⟩) hBb (.int .i64 z)
                have HU9 := Lib.hid (HUB.out.under hb9 hcl)
                have HF9 := Lib.hid (HFB.out.under hb9 (Nat.le_refl _) (by simp [World.setCell]))
                have HS9 := Lib.hid (smD_set (vs' := vs) (i := 0) (xs := (M.getD 0 []).set 0 z) (smD_sh (vs := vs) HSH.out (by omega) (by omega)) (by rw [List.length_set, H0L.out]; omega))
                clear hb9
                go_wp2_with fail
                go_ret
                exact ⟨_, cap, _, ⟨_, by rw [List.length_set, HML.out]; rfl, HS9.out, by rw [List.length_set, HML.out]; exact HST.out, HU9.out.mono (by omega), HF9.out⟩⟩
            case neg =>
              have e4 : (x == 4) = false := beq_eq_false_iff_ne.2 h4
              have HS9 := Lib.hid (smD_sh (vs := vs) HSH.out (by omega) (by omega))
              go_wp2_with fail
              go_ret
              exact ⟨_, cap, M, ⟨vs, by rw [HML.out]; rfl, HS9.out, by rw [HML.out]; exact HM4.out, HU4.out.mono (by omega), HF4.out⟩⟩
  case true =>
    clear HP HM2
    go_wp2_with fail
    refine (pick_c 4 c (n + 212) w2 HU2.out (by omega)).mono ?_
    rintro e w7 ⟨x7, rfl, hx7, hcu, hch⟩
    obtain ⟨R7, hR7⟩ : ∃ N : Nat, 1 + x7 = (N : Int) := ⟨(1 + x7).toNat, by omega⟩
    have q1 : IntKind.i64.wrap (1 + x7) = (R7 : Int) := by rw [i64_small (by omega) (by omega)]; exact hR7
    have hR72 : 1 ≤ R7 ∧ R7 ≤ 4 := by omega
    have hz7 := hch.size
    have HU7 := Lib.hid hcu; have HF7 := Lib.hid (HF2.out.trans hch)
    clear hcu hch hx7 hR7
    go_wp2_with fail
    refine (pick_c 4 c (n + 214) w7 HU7.out (by omega)).mono ?_
    rintro e w8 ⟨x8, rfl, hx8, hcu, hch⟩
    obtain ⟨C8, hC8⟩ : ∃ N : Nat, 1 + x8 = (N : Int) := ⟨(1 + x8).toNat, by omega⟩
    have q2 : IntKind.i64.wrap (1 + x8) = (C8 : Int) := by rw [i64_small (by omega) (by omega)]; exact hC8
    have hC82 : 1 ≤ C8 ∧ C8 ≤ 4 := by omega
    have hz8 := hch.size
    have HU8 := Lib.hid hcu; have HF8 := Lib.hid (HF7.out.trans hch)
    clear hcu hch hx8 hC8
    go_wp2_with fail
    refine (matrix_c R7 C8 c (n + 216) w8 HU8.out (by omega) (by omega) (by omega)).mono ?_
    rintro e w3 ⟨ad, cap, M, vs, rfl, ⟨hsh, hcp⟩, hmat, hcu, hch⟩
    have hz3 := hch.size
    have HP := Lib.hid (show okS M vs from ⟨R7, C8, by omega, by omega, hsh, hcp⟩)
    have HM3 := Lib.hid (hmat.mono (B' := w.heap.size) (by omega)); have HU3 := Lib.hid hcu; have HF3 := Lib.hid (HF8.out.trans hch)
    clear hsh hcp hmat hcu hch
    obtain ⟨R, C, hR, hC, hsh, hcp⟩ := HP.out
    have hML := hsh.1
    obtain ⟨g, cav, eg, hg, _, _⟩ := HM3.out.cells (by omega)
    injection eg with eg _ eg3
    subst eg
    rw [hML] at HM3 ⊢
    have HSH := Lib.hid hsh; have HCP := Lib.hid hcp; have HML := Lib.hid hML
    have hgl : g < w3.heap.size := by
      obtain ⟨g', _, eg, _, _, ho⟩ := HM3.out.cells (by rw [hML]; omega)
      injection eg with eg _ _
      injection eg with eg
      injection eg with eg _ _
      subst eg
      exact ho.lt
    clear hsh hcp hML eg3
    go_wp2_with fail
    refine (pick_c 30 c (n + 416) w3 HU3.out (by omega)).mono ?_
    rintro e w4 ⟨x, rfl, hx, hcu, hch⟩
    have hz4 := hch.size
    have HM4 := Lib.hid (HM3.out.chg hch hcl)
    have HU4 := Lib.hid hcu; have HF4 := Lib.hid (HF3.out.trans hch)
    clear hcu hch
    by_cases h0 : x = 0
    case pos =>
      subst h0
      have hn1 : ∀ i, i < M.length → 0 < (M.getD i []).length := fun i hi => by rw [HSH.out.2 i (by rw [← HML.out]; exact hi)]; omega
      have HN1 := Lib.hid hn1; clear hn1
      have HDL := Lib.hid (fun i (hi : i < R) => HSH.out.2 i hi)
      have hx1 : (0 : Int) < (C : Int) := by omega
      have hx2 : 0 < C := by omega
      have hcw4 : c < w4.heap.size := by omega
      obtain ⟨F, hF⟩ : ∃ F : Nat → Value, ∀ i, vs.getD i undef = F i := ⟨_, fun _ => rfl⟩
      have HFV := Lib.hid hF
      clear hF
      have n4 : ∀ i, i < R → w4.cell? ⟨g, i, none⟩ = some (F i) := fun i hi => by rw [← HFV.out]; exact HM4.out.outerM HML.out i hi
      go_wp2_with fail
      go_region_held3 (fun w' => ∀ i, i < R → w'.cell? ⟨g, i, none⟩ = some (F i)) (first | assumption | (intro i hi; with_reducible repeat' (first | (apply_assumption; assumption) | apply cell_alloc' | apply cell_drew' | (refine cell_set' hbg.symm ?_))))
        (first
          | (go_at_call 20; (with_reducible refine (pick_c (R : Int) c ((n + 416) + 2) _ (by first | exact HU4.out | exact HU4.out.below (Below.refl _ _).drew) (by omega)).mono ?_); rintro e W1 ⟨y, rfl, hy, hcu, hch⟩; obtain ⟨q, rfl⟩ : ∃ q : Nat, y = (q : Int) := ⟨y.toNat, by omega⟩; have hqR : q < R := (by omega); have HMA := Lib.hid (MatO.chg (by first | exact HM4.out | exact HM4.out.below (Below.refl _ _).drew) hch hcl); have HUA := Lib.hid hcu; have HFA := Lib.hid (HF4.out.trans (Chg.trans (Chg.of_below (Below.refl _ _).drew) hch)); obtain ⟨bq, oq, cq, hvq⟩ := HMA.out.rowE (i := q) (by rw [HML.out]; exact hqR) (HN1.out q (by rw [HML.out]; exact hqR)); rw [HDL.out q hqR] at hvq; have HVQ := Lib.hid hvq; rw [HFV.out] at hvq; have nA : ∀ i, i < R → W1.cell? ⟨g, i, none⟩ = some (F i) := (fun i hi => by rw [← HFV.out]; exact HMA.out.outerM HML.out i hi); have hzA := hch.size; have hq0 : (0 : Int) ≤ (q : Int) := (by omega); have hq1 : (q : Int) < (R : Int) := (by omega); clear hcu hch hy)
          | (go_at_call 45; (with_reducible refine (anyNum_c c (((n + 416) + 2) + 2) _ HUA.out (by omega)).mono ?_); rintro e W2 ⟨z, rfl, -, hcu, hch⟩; have HMB := Lib.hid (HMA.out.chg hch hcl); have HUB := Lib.hid hcu; have HFB := Lib.hid (HFA.out.trans hch); have nB : ∀ i, i < R → W2.cell? ⟨g, i, none⟩ = some (F i) := (fun i hi => by rw [← HFV.out]; exact HMB.out.outerM HML.out i hi); obtain ⟨_, hBb, hbB, hbg, hcell, hset⟩ := HMB.out.rowY (by rw [HML.out]; exact hqR) (HDL.out q hqR) (by omega) HVQ.out; obtain ⟨mB, fB⟩ := hcell 0 (by omega); have hst := hset 0 z (by omega); rw [Nat.add_zero] at mB fB hst; have HST := Lib.hid hst; have hzB := hch.size; clear hcu hch hcell hset hst)
          | fail)
      all_goals
        have hb9 : Below w.heap.size W2 (W2.setCell ⟨bq, oq, none⟩ (.int .i64 z)) := (Below.refl w.heap.size W2).setCell (p := ⟨bq, oq, none⟩) hBb (.int .i64 z)
        have HU9 := Lib.hid (HUB.out.under hb9 hcl)
        have HF9 := Lib.hid (HFB.out.under hb9 (Nat.le_refl _) (by simp [World.setCell]))
        have HS9 := Lib.hid (smD_set (vs' := vs) (i := q) (xs := (M.getD q []).set 0 z) (smD_sh (vs := vs) HSH.out (by omega) (by omega)) (by rw [List.length_set, HDL.out q hqR]; omega))
        clear hb9
        go_wp2_with fail
        go_ret
        exact ⟨_, cap, _, ⟨_, by rw [List.length_set, HML.out]; rfl, HS9.out, by rw [List.length_set, HML.out]; exact HST.out, HU9.out.mono (by omega), HF9.out⟩⟩
    case neg =>
      have e0 : (x == 0) = false := beq_eq_false_iff_ne.2 h0
      by_cases h1 : x = 1
      case pos =>
        subst h1
        clear h0
        obtain ⟨C', hC'⟩ : ∃ C', C = C' + 1 := ⟨C - 1, by omega⟩
        subst hC'
        have h0l := HSH.out.2 0 (by omega)
        obtain ⟨b0, o0, c0, hv0⟩ := HM4.out.rowE (i := 0) (by rw [HML.out]; omega) (by rw [h0l]; omega)
        obtain ⟨_, _, hv0', hcap⟩ := HCP.out 0 (by rw [HML.out]; omega)
        rw [hv0] at hv0'
        injection hv0' with q1 q2 q3
        subst q1
        subst q3
        clear q2
        rw [h0l] at hv0 hcap
        obtain ⟨k0, hBb, hbl, hbg, _, _⟩ := HM4.out.rowY (by rw [HML.out]; omega) h0l (by omega) hv0
        have hce := HM4.out.each 0 (by rw [HML.out]; omega)
        rw [hv0] at hce
        have fz : w4.frozen? ⟨g, 0, none⟩ = false := by
          obtain ⟨g', _, eg, _, _, ho⟩ := HM4.out.cells (by rw [HML.out]; omega)
          injection eg with eg _ _
          injection eg with eg
          injection eg with eg _ _
          subst eg
          exact ho.frozen 0
        have HCT := Lib.hid (fun u (hu : CellO w4 w.heap.size u (M.getD 0 []).tail) (hq : ∀ q, u.ownBlock = some q → q = b0) => HM4.out.cut (i := 0) (by rw [HML.out]; omega) (b := b0) (by rw [hv0]; rfl) hu hq)
        have HB9 := Lib.hid (fun u => (show Below w.heap.size w4 (w4.setCell ⟨g, 0, none⟩ u) from (Below.refl w.heap.size w4).setCell (p := ⟨g, 0, none⟩) hg u))
        have HS9 := Lib.hid (fun vs' => smD_set (vs' := vs') (i := 0) (xs := (M.getD 0 []).tail) (smD_sh (vs := vs) HSH.out (by omega) (by omega)) (by rw [List.length_tail, h0l]; omega))
        have HCE := Lib.hid hce
        have hx1 : (0 : Int) < (R : Int) := by omega
        have hx2 : 0 < R := by omega
        clear hv0 hce h0l
        by_cases hc1 : c0 = 1
        case pos =>
          obtain rfl : C' = 0 := by omega
          subst hc1
          go_wp2_with fail
          go_ret
          exact ⟨_, cap, _, ⟨_, by rw [List.length_set, HML.out]; rfl, HS9.out _, by rw [List.length_set, HML.out]; exact HCT.out _ HCE.out.cut1 (fun q hq => by simpa [Value.ownBlock] using hq.symm), (HU4.out.under (HB9.out _) hcl).mono (by omega), HF4.out.under (HB9.out _) (Nat.le_refl _) (by simp [World.setCell])⟩⟩
        case neg =>
          go_wp2_with fail
          go_ret
          exact ⟨_, cap, _, ⟨_, by rw [List.length_set, HML.out]; rfl, HS9.out _, by rw [List.length_set, HML.out]; exact HCT.out _ HCE.out.cut2 (fun q hq => by simpa [Value.ownBlock] using hq.symm), (HU4.out.under (HB9.out _) hcl).mono (by omega), HF4.out.under (HB9.out _) (Nat.le_refl _) (by simp [World.setCell])⟩⟩
      case neg =>
        have e1 : (x == 1) = false := beq_eq_false_iff_ne.2 h1
        by_cases h2 : x = 2
        case pos =>
          subst h2
          have hcw4 : c < w4.heap.size := by omega
          go_wp2_with fail
          refine (among_c w4.heap.size 2 [0, 7] c ((n + 416) + 2) _ (HU4.out.below ((Below.refl _ _).alloc (Nat.le_refl _) _)) (by omega) (by simp) (by simp) (by omega) (Own.newA w4 _ 3 rfl)).mono ?_
          rintro e w5 ⟨y, rfl, hy, hcu, hch⟩
          obtain ⟨r, rfl, hr⟩ : ∃ r : Nat, y = (r : Int) ∧ r ≤ 7 := by
            simp at hy
            rcases hy with h | h
            · exact ⟨0, h, by omega⟩
            · exact ⟨7, h, by omega⟩
          have hz5 := hch.size
          have hz5' : w4.heap.size ≤ w5.heap.size := by simp at hz5; omega
          have HU5 := Lib.hid hcu; have HF5 := Lib.hid ((HF4.out.trans (Chg.of_below ((Below.refl _ _).alloc (Nat.le_refl _) _))).trans hch)
          clear hcu hch hy hz5
          go_wp2_with fail
          refine (matrix_c r 2 c (((n + 416) + 2) + 2) w5 HU5.out (by omega) (by omega) (by omega)).mono ?_
          rintro e w6 ⟨ad6, cap6, M6, vs6, rfl, ⟨hsh6, _⟩, hmat6, hcu, hch⟩
          have HP6 := Lib.hid (smD_sh (vs := vs6) hsh6 (by omega) (by omega))
          have HM6 := Lib.hid (hmat6.mono (B' := w.heap.size) (by omega)); have HU6 := Lib.hid hcu; have HF6 := Lib.hid (HF5.out.trans hch)
          clear hsh6 hmat6 hcu hch
          go_wp2_with fail
          go_ret
          exact ⟨ad6, cap6, M6, ⟨vs6, rfl, HP6.out, HM6.out, HU6.out.mono (by omega), HF6.out⟩⟩
        case neg =>
          have e2 : (x == 2) = false := beq_eq_false_iff_ne.2 h2
          by_cases h3 : x = 3
          case pos =>
            subst h3
            have hcw4 : c < w4.heap.size := by omega
            go_wp2_with fail
            refine (among_c w4.heap.size 2 [0, 7] c ((n + 416) + 2) _ (HU4.out.below ((Below.refl _ _).alloc (Nat.le_refl _) _)) (by omega) (by simp) (by simp) (by omega) (Own.newA w4 _ 3 rfl)).mono ?_
            rintro e w5 ⟨y, rfl, hy, hcu, hch⟩
            obtain ⟨r, rfl, hr⟩ : ∃ r : Nat, y = (r : Int) ∧ r ≤ 7 := by
              simp at hy
              rcases hy with h | h
              · exact ⟨0, h, by omega⟩
              · exact ⟨7, h, by omega⟩
            have hz5 := hch.size
            have hz5' : w4.heap.size ≤ w5.heap.size := by simp at hz5; omega
            have HU5 := Lib.hid hcu; have HF5 := Lib.hid ((HF4.out.trans (Chg.of_below ((Below.refl _ _).alloc (Nat.le_refl _) _))).trans hch)
            clear hcu hch hy hz5
            go_wp2_with fail
            refine (matrix_c 2 r c (((n + 416) + 2) + 2) w5 HU5.out (by omega) (by omega) (by omega)).mono ?_
            rintro e w6 ⟨ad6, cap6, M6, vs6, rfl, ⟨hsh6, _⟩, hmat6, hcu, hch⟩
            have HP6 := Lib.hid (smD_sh (vs := vs6) hsh6 (by omega) (by omega))
            have HM6 := Lib.hid (hmat6.mono (B' := w.heap.size) (by omega)); have HU6 := Lib.hid hcu; have HF6 := Lib.hid (HF5.out.trans hch)
            clear hsh6 hmat6 hcu hch
            go_wp2_with fail
            go_ret
            exact ⟨ad6, cap6, M6, ⟨vs6, rfl, HP6.out, HM6.out, HU6.out.mono (by omega), HF6.out⟩⟩
          case neg =>
            have e3 : (x == 3) = false := beq_eq_false_iff_ne.2 h3
            by_cases h4 : x = 4
            case pos =>
              subst h4
              have h0l := HSH.out.2 0 (by omega)
              obtain ⟨b0, o0, c0, hv0⟩ := HM4.out.rowE (i := 0) (by rw [HML.out]; omega) (by rw [h0l]; omega)
              rw [h0l] at hv0
              have HV0 := Lib.hid hv0
              have H0L := Lib.hid h0l
              obtain ⟨k0, hBb, hbl, hbg, _, _⟩ := HM4.out.rowY (by rw [HML.out]; omega) h0l (by omega) hv0
              have hcw4 : c < w4.heap.size := by omega
              have hx1 : (0 : Int) < (C : Int) := by omega
              have hx2 : 0 < C := by omega
              have hx3 : (0 : Int) < (R : Int) := by omega
              have hx4 : 0 < R := by omega
              clear hv0 h0l
              go_wp2_with fail
              go_region_held3 (fun w' => w'.cell? ⟨g, 0, none⟩ = some (.slice (some ⟨b0, o0, none⟩) C c0)) (first | assumption | (with_reducible repeat' (first | assumption | apply cell_alloc' | apply cell_drew' | (refine cell_set' hbg.symm ?_))))
                (first
                  | (go_at_call 22; (refine (among_c w4.heap.size 2 [1000000, -1000000] c ((n + 416) + 2) _ (by with_reducible repeat (first | exact HU4.out | apply Cur.alloc' | apply Cur.drew')) (by omega) (by simp) (by simp) (by first | omega | (simp; omega)) (by first | exact (Own.newA _ _ 3 rfl).drew | exact (Own.newA _ _ 3 rfl))).mono ?_); rintro e W1 ⟨z, rfl, -, hcu, hch⟩; have hchD := Chg.trans (Chg.of_below (b := c) ((Below.refl w4.heap.size w4).alloc (Nat.le_refl _) (.cells #[.int .i64 1000000, .int .i64 (-1000000)] 3)).drew) hch; have HMB := Lib.hid (HM4.out.chg hchD hcl); have HUB := Lib.hid hcu; have HFB := Lib.hid (HF4.out.trans hchD); obtain ⟨nB, _, _, _, hcell, hset⟩ := HMB.out.rowY (by rw [HML.out]; omega) H0L.out (by omega) HV0.out; obtain ⟨mB, fB⟩ := hcell 0 (by omega); have hst := hset 0 z (by omega); rw [Nat.add_zero] at mB fB hst; have HST := Lib.hid hst; have hzB := hchD.size; clear hcu hch hchD hcell hset hst)
                  | fail)
              all_goals
                have hb9 : Below w.heap.size W1 (W1.setCell ⟨b0, o0, none⟩ (.int .i64 z)) := (Below.refl w.heap.size W1).setCell (p := ⟨b0, o0, none⟩) hBb (.int .i64 z)
                have HU9 := Lib.hid (HUB.out.under hb9 hcl)
                have HF9 := Lib.hid (HFB.out.under hb9 (Nat.le_refl _) (by simp [World.setCell]))
                have HS9 := Lib.hid (smD_set (vs' := vs) (i := 0) (xs := (M.getD 0 []).set 0 z) (smD_sh (vs := vs) HSH.out (by omega) (by omega)) (by rw [List.length_set, H0L.out]; omega))
                clear hb9
                go_wp2_with fail
                go_ret
                exact ⟨_, cap, _, ⟨_, by rw [List.length_set, HML.out]; rfl, HS9.out, by rw [List.length_set, HML.out]; exact HST.out, HU9.out.mono (by omega), HF9.out⟩⟩
            case neg =>
              have e4 : (x == 4) = false := beq_eq_false_iff_ne.2 h4
              have HS9 := Lib.hid (smD_sh (vs := vs) HSH.out (by omega) (by omega))
              go_wp2_with fail
              go_ret
              exact ⟨_, cap, M, ⟨vs, by rw [HML.out]; rfl, HS9.out, by rw [HML.out]; exact HM4.out, HU4.out.mono (by omega), HF4.out⟩⟩

end Go.Proofs.Ytnbenpalneodlaa
