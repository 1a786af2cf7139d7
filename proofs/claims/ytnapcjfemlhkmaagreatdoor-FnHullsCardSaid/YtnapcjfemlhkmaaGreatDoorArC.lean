/-
  Polygons that the cursor draws. By an AI agent.
-/
import Derived.Test.YtnapcjfemlhkmaaGreatDoorArB
import Derived.Test.YtnapcjfemlhkmaaGreatDoorPyHull
import Derived.Test.YtnapcjfemlhkmaaGreatDoorSortB
namespace Go.Proofs.YtnapcjfemlhkmaaGreatDoor
open Go.RowKit

def PolP (l : List Pt) : Prop := 0 < l.length ∧ l.length ≤ 80 ∧ ∀ p ∈ l, ptB p = true
theorem hullF_pos {l : List Pt} (h : 0 < l.length) : 0 < (hullF (pySortF l)).length := by
  have h1 := pySortF_pos h
  obtain ⟨x, hx⟩ : ∃ x, x ∈ pySortF l := ⟨_, List.getElem_mem h1⟩
  obtain ⟨y, hy, _⟩ := Geo.support (pySortF_strict l) 0 0 hx
  exact List.length_pos_of_mem hy
theorem row_lit3 (w : World) (a b c d e f : Int) : RowP (w.alloc (.cells #[.int .i64 a, .int .i64 b, .int .i64 c, .int .i64 d, .int .i64 e, .int .i64 f] 30)) w.heap.size (.slice (some ⟨w.heap.size, 0, none⟩) 3 3) [⟨a, b⟩, ⟨c, d⟩, ⟨e, f⟩] :=
  ⟨rfl, Or.inr ⟨w.heap.size, 3, _, rfl, Nat.le_refl _, heap_alloc_new _ _, by simp, by decide, rfl, rfl⟩⟩

set_option maxHeartbeats 3200000 in
set_option maxRecDepth 100000 in
theorem polygon_c (c n : Nat) (w : World) (h : Cur w c n) (hn : n ≤ 4611686018427320000) :
    Calls Tryz.prog 44 #[.pointer (some ⟨c, 0, none⟩)] w (ListP PolP c (n + 1000) w) := by
  have hcl := h.lt
  have H := Lib.hid h; clear h
  go_enter Tryz.func44, Tryz.ntmps44
  go_wp2_with fail
  refine (points_c c n w H.out (by omega)).mono ?_
  rintro e w1 ⟨v, l, rfl, hrow, hl, hcu, hch⟩
  obtain ⟨ad, cap, rfl, hcap, _⟩ := hrow.shape
  have H1 := Lib.hid hcu; have F1 := Lib.hid hch; have R1 := Lib.hid hrow
  have hl : l.length ≤ 41 := hl
  clear hcu hch hrow H
  have c1 := Lib.hid (pyPoints_c ad cap l w1 (RowP.rd R1.out) (by omega))
  obtain ⟨b, hb⟩ : ∃ b, ptsB l = b := ⟨_, rfl⟩
  rw [hb] at c1
  have HB := Lib.hid hb; clear hb
  go_wp2_with fail
  refine c1.out.mono ?_
  rintro e w2 ⟨rfl, hbw⟩
  have H2 := Lib.hid (H1.out.below hbw); have F2 := Lib.hid (F1.out.trans (Chg.of_below hbw)); have R2 := Lib.hid (RowP.below R1.out hbw)
  have hz2 := F2.out.size
  clear hbw H1 F1 R1 c1
  cases b
  case false =>
    go_wp2_with fail
    go_ret
    have hbA := (Below.refl w2.heap.size w2).alloc (Nat.le_refl _) (.cells #[.int .i64 0, .int .i64 0, .int .i64 2, .int .i64 0, .int .i64 0, .int .i64 2] 30)
    exact ⟨_, _, rfl, RowP.mono (row_lit3 w2 0 0 2 0 0 2) hz2, ⟨by simp, by simp, fun p hp => by simp at hp; rcases hp with rfl | rfl | rfl <;> decide⟩, (H2.out.below hbA).mono (by omega), F2.out.trans (Chg.of_below hbA)⟩
  case true =>
    obtain ⟨h1, h2, hs⟩ := ptsB_t HB.out
    have c2 := Lib.hid (pyHullR_c ad cap l w2 (RowP.rd R2.out) (by omega) hs)
    have hp := hullF_pos (l := l) (by omega)
    have hq := hullF_len (pySortF l)
    have hq2 := pySortF_len l
    have hX := Lib.hid (show ∀ p ∈ hullF (pySortF l), ptB p = true from fun p hp => by
      have h3 := HB.out
      unfold ptsB at h3
      exact List.all_eq_true.1 (Bool.and_eq_true_iff.1 h3).2 p ((pySortF_mem _ _).1 (Geo.hull_sub (pySortF_strict _) hp)))
    generalize hullF (pySortF l) = X at c2 hp hq hX
    go_wp2_with fail
    refine c2.out.mono ?_
    rintro e w3 ⟨v3, rfl, hr3, hbw⟩
    have H3 := Lib.hid (H2.out.below hbw); have F3 := Lib.hid (F2.out.trans (Chg.of_below hbw))
    have R3 := Lib.hid (RowP.mono hr3 hz2)
    clear hbw hr3 c2
    go_wp2_with fail
    go_ret
    exact ⟨_, X, rfl, R3.out, ⟨hp, by omega, hX.out⟩, H3.out.mono (by omega), F3.out⟩

theorem getD_zero_cons {l : List Pt} (h : 0 < l.length) : l = l.getD 0 default :: l.drop 1 := by
  cases l with
  | nil => simp at h
  | cons a l => simp
set_option maxHeartbeats 6400000 in
set_option maxRecDepth 100000 in
theorem anyPolygon_c (c n : Nat) (w : World) (h : Cur w c n) (hn : n ≤ 4611686018427310000) :
    Calls Tryz.prog 42 #[.pointer (some ⟨c, 0, none⟩)] w (ListP (fun l => l.length ≤ 80) c (n + 2010) w) := by
  have hcl := h.lt
  have H := Lib.hid h; clear h
  go_enter Tryz.func42, Tryz.ntmps42
  go_wp2_with fail
  refine (polygon_c c n w H.out (by omega)).mono ?_
  rintro e w1 ⟨v, l, rfl, hrow, ⟨hl0, hl, -⟩, hcu, hch⟩
  obtain ⟨ad, cap, rfl, hcap, _⟩ := hrow.shape
  have H1 := Lib.hid hcu; have F1 := Lib.hid hch; have R1 := Lib.hid hrow
  clear hcu hch hrow H
  go_wp2_with fail
  refine (pick_c 24 c (n + 1000) w1 H1.out (by omega)).mono ?_
  rintro e w2 ⟨x, rfl, hx, hcu, hch⟩
  have H2 := Lib.hid hcu; have F2 := Lib.hid (F1.out.trans hch); have R2 := Lib.hid (rowP_chg R1.out hch (by omega))
  have hz2 := F2.out.size
  clear hcu hch H1 F1 R1
  by_cases h1 : x = 0
  case pos =>
    subst h1
    go_wp2_with fail
    refine (points_c c (n + 1000 + 2) w2 H2.out (by omega)).mono ?_
    rintro e w3 ⟨v3, l3, rfl, hr3, hl3, hcu, hch⟩
    have hl3 : l3.length ≤ 41 := hl3
    have R3 := Lib.hid (RowP.mono hr3 hz2)
    have H3 := Lib.hid hcu; have F3 := Lib.hid (F2.out.trans hch)
    clear hr3 hcu hch
    go_wp2_with fail
    go_ret
    exact ⟨_, l3, rfl, R3.out, (by show l3.length ≤ 80; omega), H3.out.mono (by omega), F3.out⟩
  case neg =>
    have e1 : (x == 0) = false := beq_eq_false_iff_ne.2 h1
    by_cases h2 : x = 1
    case pos =>
      subst h2
      obtain ⟨L, hL⟩ : ∃ L, l.length = L := ⟨_, rfl⟩
      have R2' := R2.out
      obtain ⟨g, ead, hBg, hgl⟩ := RowP.ownA R2' hl0
      subst ead
      obtain ⟨p1, p2⟩ := RdP.at (RowP.rd R2') hl0
      obtain ⟨_, hA⟩ := RdP.takeDrop (RowP.rd R2') 1
      have hlist := getD_zero_cons hl0
      obtain ⟨⟨px, py⟩, hpp⟩ : ∃ x, l.getD 0 default = x := ⟨_, rfl⟩
      rw [hpp] at p1 p2 hlist
      simp only [Nat.zero_mul, Nat.zero_add, Nat.one_mul] at p1 p2 hA
      have hdl : (l.drop 1).length = L - 1 := by rw [List.length_drop, hL]
      obtain ⟨D, hD⟩ : ∃ D, l.drop 1 = D := ⟨_, rfl⟩
      rw [hD] at hA hdl
      rw [hL] at hl hl0 hcap ⊢
      clear hpp hlist hD hL R2' R2
      have x1 : (1 : Int) ≤ (L : Int) := by omega
      have x2 : (L : Int) ≤ (cap : Int) := by omega
      have x3 : (0 : Int) < (L : Int) := by omega
      have hbal : ∀ W' o1, Below w2.heap.size w2 W' → Below w2.heap.size w2 (W'.alloc o1) := fun W' o1 h => h.alloc h.size o1
      have hbdr : ∀ W', Below w2.heap.size w2 W' → Below w2.heap.size w2 W'.drew := fun W' h => h.drew
      have HBA := Lib.hid hbal; have HBD := Lib.hid hbdr; clear hbal hbdr
      by_cases hkc : 1 < cap
      case pos =>
        obtain ⟨C, rfl⟩ : ∃ C, cap = C + 2 := ⟨cap - 2, by omega⟩
        obtain ⟨M, rfl⟩ : ∃ M, L = M + 1 := ⟨L - 1, by omega⟩
        rw [show M + 1 - 1 = M by omega] at hdl
        have f1 : (M : Int) + 1 ≤ (C : Int) + 2 := by omega
        have f2 : (M : Int) ≤ (C : Int) + 1 := by omega
        have f3 : M ≤ C + 1 := by omega
        have f5 : (0 : Int) ≤ (M : Int) := by omega
        have f6 : (1 : Int) ≤ (M : Int) + 1 := by omega
        have f7 : (0 : Int) < (M : Int) + 1 := by omega
        have HX1 := Lib.hid (show ReadsP w2 (.slice (some ⟨g, 2, none⟩) M (C + 1)) D from Or.inr ⟨_, _, _, by rw [hdl], hA⟩)
        go_upto_region 6 with fail
        go_region_held3 (fun w' => w'.cell? ⟨g, 0, none⟩ = some (.int .i64 px) ∧ w'.cell? ⟨g, 1, none⟩ = some (.int .i64 py)) (first | exact ⟨by assumption, by assumption⟩ | exact ⟨bcell (by (with_reducible repeat (first | exact Below.refl _ _ | exact HZ1.out | apply HBD.out | apply HBA.out))) hgl p1, bcell (by (with_reducible repeat (first | exact Below.refl _ _ | exact HZ1.out | apply HBD.out | apply HBA.out))) hgl p2⟩)
          (first
            | (refine step_app (by rfl) _ _ (by rfl) w2.heap.size (.slice (some ⟨_, 0, none⟩) 0 0) (.slice (some ⟨g, 2, none⟩) M (C + 1)) [] D (by rfl) (by rfl) (by (with_reducible repeat (first | exact rowP_new _ _ _ (by simp) (by simp) | apply RowP.alloc' | apply RowP.drew'))) (by (with_reducible repeat (first | exact (HX1.out.below (by (with_reducible repeat (first | exact Below.refl _ _ | exact HZ1.out | apply HBD.out | apply HBA.out)))) | apply ReadsP.alloc' | apply ReadsP.drew'))) (by simp) (by first | omega | simp) (by (try simp) <;> omega) ?_; intro v1 w5 hown1 hb1 hg1; have hz1 : Below w2.heap.size w2 w5 := Below.trans (by (with_reducible repeat (first | exact Below.refl _ _ | exact HZ1.out | apply HBD.out | apply HBA.out))) hb1; have HO1 := Lib.hid hown1; have HG1 := Lib.hid hg1; have n10 := bcell hz1 hgl p1; have n11 := bcell hz1 hgl p2; have hzz1 := hz1.size; have HZ1 := Lib.hid hz1; clear hown1 hb1 hg1 hz1)
            | (refine step_app (by rfl) _ _ (by rfl) w2.heap.size v1 (.slice (some ⟨_, 0, none⟩) 1 1) _ [⟨px, py⟩] (by rfl) (by rfl) (by (with_reducible repeat (first | exact HO1.out | apply RowP.alloc' | apply RowP.drew'))) (by (with_reducible repeat (first | exact readsP_one _ _ _ _ (by simp) | apply ReadsP.alloc' | apply ReadsP.drew' | refine ReadsP.grown ?_ HG1.out (by simp [Value.ownBlock])))) (by (try simp) <;> omega) (by simp) (by first | exact hzz1 | ((try simp) <;> omega)) ?_; intro v2 w6 hown2 hb2 hg2; have hz2 : Below w2.heap.size w2 w6 := Below.trans (by (with_reducible repeat (first | exact HZ1.out | apply HBD.out | apply HBA.out))) hb2; have HO2 := Lib.hid hown2; have n20 := bcell hz2 hgl p1; have n21 := bcell hz2 hgl p2; have hzz2 := hz2.size; have HZ2 := Lib.hid hz2; clear hown2 hb2 hg2 hz2))
        all_goals
          have hrow := RowP.mono HO2.out hz2
          have HRR := Lib.hid hrow; clear hrow
          go_wp2_with fail
          go_ret
          exact ⟨_, _, rfl, HRR.out, (by show ([] ++ D ++ [(⟨px, py⟩ : Pt)]).length ≤ 80; simp; omega), (H2.out.below HZ2.out).mono (by omega), F2.out.trans (Chg.of_below HZ2.out)⟩
      case neg =>
        obtain rfl : cap = 1 := by omega
        obtain rfl : L = 1 := by omega
        obtain rfl : D = [] := List.length_eq_zero_iff.1 (by omega)
        have HX1 := Lib.hid (show ReadsP w2 (.slice (some ⟨g, 0, none⟩) (1 - 1) (1 - 1)) ([] : List Pt) from Or.inr ⟨_, _, _, rfl, RdP.nil _ _⟩)
        go_upto_region 6 with fail
        go_region_held3 (fun w' => w'.cell? ⟨g, 0, none⟩ = some (.int .i64 px) ∧ w'.cell? ⟨g, 1, none⟩ = some (.int .i64 py)) (first | exact ⟨by assumption, by assumption⟩ | exact ⟨bcell (by (with_reducible repeat (first | exact Below.refl _ _ | exact HZ1.out | apply HBD.out | apply HBA.out))) hgl p1, bcell (by (with_reducible repeat (first | exact Below.refl _ _ | exact HZ1.out | apply HBD.out | apply HBA.out))) hgl p2⟩)
          (first
            | (refine step_app (by rfl) _ _ (by rfl) w2.heap.size (.slice (some ⟨_, 0, none⟩) 0 0) (.slice (some ⟨g, 0, none⟩) (1 - 1) (1 - 1)) [] ([] : List Pt) (by rfl) (by rfl) (by (with_reducible repeat (first | exact rowP_new _ _ _ (by simp) (by simp) | apply RowP.alloc' | apply RowP.drew'))) (by (with_reducible repeat (first | exact (HX1.out.below (by (with_reducible repeat (first | exact Below.refl _ _ | exact HZ1.out | apply HBD.out | apply HBA.out)))) | apply ReadsP.alloc' | apply ReadsP.drew'))) (by simp) (by first | omega | simp) (by (try simp) <;> omega) ?_; intro v1 w5 hown1 hb1 hg1; have hz1 : Below w2.heap.size w2 w5 := Below.trans (by (with_reducible repeat (first | exact Below.refl _ _ | exact HZ1.out | apply HBD.out | apply HBA.out))) hb1; have HO1 := Lib.hid hown1; have HG1 := Lib.hid hg1; have n10 := bcell hz1 hgl p1; have n11 := bcell hz1 hgl p2; have hzz1 := hz1.size; have HZ1 := Lib.hid hz1; clear hown1 hb1 hg1 hz1)
            | (refine step_app (by rfl) _ _ (by rfl) w2.heap.size v1 (.slice (some ⟨_, 0, none⟩) 1 1) _ [⟨px, py⟩] (by rfl) (by rfl) (by (with_reducible repeat (first | exact HO1.out | apply RowP.alloc' | apply RowP.drew'))) (by (with_reducible repeat (first | exact readsP_one _ _ _ _ (by simp) | apply ReadsP.alloc' | apply ReadsP.drew' | refine ReadsP.grown ?_ HG1.out (by simp [Value.ownBlock])))) (by (try simp) <;> omega) (by simp) (by first | exact hzz1 | ((try simp) <;> omega)) ?_; intro v2 w6 hown2 hb2 hg2; have hz2 : Below w2.heap.size w2 w6 := Below.trans (by (with_reducible repeat (first | exact HZ1.out | apply HBD.out | apply HBA.out))) hb2; have HO2 := Lib.hid hown2; have n20 := bcell hz2 hgl p1; have n21 := bcell hz2 hgl p2; have hzz2 := hz2.size; have HZ2 := Lib.hid hz2; clear hown2 hb2 hg2 hz2))
        all_goals
          have hrow := RowP.mono HO2.out hz2
          have HRR := Lib.hid hrow; clear hrow
          go_wp2_with fail
          go_ret
          exact ⟨_, _, rfl, HRR.out, (by show ([] ++ ([] : List Pt) ++ [(⟨px, py⟩ : Pt)]).length ≤ 80; simp), (H2.out.below HZ2.out).mono (by omega), F2.out.trans (Chg.of_below HZ2.out)⟩
    case neg =>
      have e2 : (x == 1) = false := beq_eq_false_iff_ne.2 h2
      by_cases h3 : x = 2
      case pos =>
        subst h3
        go_wp2_with fail
        go_ret
        have hbA := (Below.refl w2.heap.size w2).alloc (Nat.le_refl _) (.cells #[.int .i64 (-100), .int .i64 (-100), .int .i64 100, .int .i64 (-100), .int .i64 100, .int .i64 100] 30)
        exact ⟨_, _, rfl, RowP.mono (row_lit3 w2 (-100) (-100) 100 (-100) 100 100) hz2, (by simp), (H2.out.below hbA).mono (by omega), F2.out.trans (Chg.of_below hbA)⟩
      case neg =>
        have e3 : (x == 2) = false := beq_eq_false_iff_ne.2 h3
        go_wp2_with fail
        go_ret
        exact ⟨_, l, rfl, R2.out, hl, H2.out.mono (by omega), F2.out⟩
end Go.Proofs.YtnapcjfemlhkmaaGreatDoor
