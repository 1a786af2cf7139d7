/-
  Lines that the cursor draws.
-/
import Derived.Test.YtbkfgaibcoekgaaDoorLineI
import Derived.Test.YtbkfgaibcoekgaaDoorDrawM
namespace Go.Proofs.YtbkfgaibcoekgaaDoor
open Go.RowKit

def SomeL (P : Ln → Prop) (c n : Nat) (w : World) (e : Ending) (w' : World) : Prop := ∃ l : Ln, e = .returned (lnV l) ∧ P l ∧ Cur w' c n ∧ Chg c w w'
theorem LnO.chg {w w' : World} {g c : Nat} {l : Ln} (h : LnO w g l) (hc : Chg c w w') (hg : g ≠ c) : LnO w' g l := Own.chg h hc hg
theorem LnO.alloc {w : World} {g : Nat} {l : Ln} (h : LnO w g l) (o : Obj) : LnO (w.alloc o) g l := Own.alloc h o
theorem LnO.lt {w : World} {g : Nat} {l : Ln} (h : LnO w g l) : g < w.heap.size := Own.lt h
theorem LnO.setOther {w : World} {g h : Nat} {l : Ln} (hl : LnO w g l) (hne : g ≠ h) (a b c : Int) : LnO (ln3 w h a b c) g l :=
  Own.setOther (Own.setOther (Own.setOther hl (a := ⟨h, 0, none⟩) hne _) (a := ⟨h, 1, none⟩) hne _) (a := ⟨h, 2, none⟩) hne _
/-- The end of a drawing function that gives a line by its cell. -/
theorem ln3_endD {u w : World} {g c n : Nat} {l : Ln} {x y z : Int} (h : LnO w g l) (hu : Cur w c n) (hc : Chg c u w) (hg : u.heap.size ≤ g) (hcl : c < u.heap.size) : ∃ W, ln3 w g x y z = W ∧ (W.cell? ⟨g, 0, none⟩ = some (.int .i64 x) ∧ W.cell? ⟨g, 1, none⟩ = some (.int .i64 y) ∧ W.cell? ⟨g, 2, none⟩ = some (.int .i64 z)) ∧ Cur W c n ∧ Chg c u W := by
  have h1 := ((Chg.set g 0 w (.int .i64 x)).trans (Chg.set g 1 _ (.int .i64 y))).trans (Chg.set g 2 _ (.int .i64 z))
  have hb : Below u.heap.size w (ln3 w g x y z) := h1.below hg hc.size
  exact ⟨_, rfl, (h.set x y z).at, hu.under hb hcl, hc.under hb (Nat.le_refl _) h1.size⟩
/-- One store into a line of one's own. -/
theorem ln1_set {u w : World} {g c n : Nat} {i : Nat} {x : Int} (hu : Cur w c n) (hc : Chg c u w) (hg : u.heap.size ≤ g) (hcl : c < u.heap.size) : Cur (w.setCell ⟨g, i, none⟩ (.int .i64 x)) c n ∧ Chg c u (w.setCell ⟨g, i, none⟩ (.int .i64 x)) := by
  have h1 := Chg.set g i w (.int .i64 x)
  have hb : Below u.heap.size w (w.setCell ⟨g, i, none⟩ (.int .i64 x)) := h1.below hg hc.size
  exact ⟨hu.under hb hcl, hc.under hb (Nat.le_refl _) h1.size⟩

set_option maxHeartbeats 400000 in
theorem small_c (c n : Nat) (w : World) (h : Cur w c n) (hn : n ≤ 4611686018427380000) :
    Calls Tryd.prog 55 #[.pointer (some ⟨c, 0, none⟩)] w (SomeI (fun x => -4 ≤ x ∧ x ≤ 8) c (n + 2) w) := by
  have H := Lib.hid h; clear h
  go_enter Tryd.func55, Tryd.ntmps55
  go_wp2_with fail
  refine (pick_c 13 c n w H.out (by omega)).mono ?_
  rintro e w1 ⟨x, rfl, hx, hcu, hch⟩
  have e1 : IntKind.i64.wrap (x - 4) = x - 4 := i64_small (by omega) (by omega)
  have hx' := Lib.hid (show -4 ≤ x - 4 ∧ x - 4 ≤ 8 by omega)
  clear hx
  have HU := Lib.hid hcu; clear hcu
  go_wp2_with fail
  go_ret
  exact ⟨_, rfl, hx'.out, HU.out, hch⟩

def SmallL (l : Ln) : Prop := (-4 ≤ l.a ∧ l.a ≤ 8) ∧ (-4 ≤ l.b ∧ l.b ≤ 8) ∧ (-4 ≤ l.c ∧ l.c ≤ 8)
set_option maxHeartbeats 1600000 in
theorem line_c (c n : Nat) (w : World) (h : Cur w c n) (hn : n ≤ 4611686018427370000) :
    Calls Tryd.prog 37 #[.pointer (some ⟨c, 0, none⟩)] w (SomeL SmallL c (n + 6) w) := by
  have hcl := h.lt
  have hz := LnO.new w 0 0 0 rfl
  have h0 := h.below ((Below.refl _ _).alloc (Nat.le_refl _) (.cells #[.int .i64 0, .int .i64 0, .int .i64 0] 24))
  have f0 := Chg.alloc c w (.cells #[.int .i64 0, .int .i64 0, .int .i64 0] 24)
  have H := Lib.hid h0; have F := Lib.hid f0; clear h h0 f0
  obtain ⟨g, hg⟩ : ∃ g, w.heap.size = g := ⟨_, rfl⟩
  rw [hg] at hz
  have hgc : g ≠ c := by omega
  go_enter Tryd.func37, Tryd.ntmps37
  go_wp2_with fail
  refine (small_c c n _ H.out (by omega)).mono ?_
  rintro e w1 ⟨x, rfl, hx, hcu, hch⟩
  have H1 := Lib.hid hcu; have F1 := Lib.hid (F.out.trans hch)
  have o1 := hz.chg hch hgc
  clear hcu hch hz
  go_wp2_with fail
  refine (small_c c (n + 2) _ H1.out (by omega)).mono ?_
  rintro e w2 ⟨y, rfl, hy, hcu, hch⟩
  have H2 := Lib.hid hcu; have F2 := Lib.hid (F1.out.trans hch)
  have o2 := o1.chg hch hgc
  clear hcu hch o1
  go_wp2_with fail
  refine (small_c c (n + 2 + 2) _ H2.out (by omega)).mono ?_
  rintro e w3 ⟨z, rfl, hz, hcu, hch⟩
  have H3 := Lib.hid hcu; have F3 := Lib.hid (F2.out.trans hch)
  have o3 := o2.chg hch hgc
  clear hcu hch o2
  have hsm := Lib.hid (show SmallL ⟨x, y, z⟩ from ⟨hx, hy, hz⟩)
  clear hx hy hz
  obtain ⟨x0, x1, x2⟩ := o3.at
  obtain ⟨y0, y1, y2⟩ := o3.fr
  go_wp2_with fail
  obtain ⟨W, hW, ⟨q0, q1, q2⟩, hU, hC⟩ := ln3_endD (x := x) (y := y) (z := z) o3 H3.out F3.out (by omega) hcl
  unfold ln3 at hW
  rw [hW]
  exact bodyPost_ret (v := .agg #[.int .i64 x, .int .i64 y, .int .i64 z]) (by simp [results, Tryd.results37, go_sem, q0, q1, q2]) rfl ⟨⟨x, y, z⟩, rfl, hsm.out, hU.mono (by omega), hC⟩

set_option maxHeartbeats 3200000 in
theorem anyLine_c (c n : Nat) (w : World) (h : Cur w c n) (hn : n ≤ 4611686018427360000) :
    Calls Tryd.prog 20 #[.pointer (some ⟨c, 0, none⟩)] w (SomeL (fun _ => True) c (n + 14) w) := by
  have hcl := h.lt
  have hz := LnO.new w 0 0 0 rfl
  have h0 := h.below ((Below.refl _ _).alloc (Nat.le_refl _) (.cells #[.int .i64 0, .int .i64 0, .int .i64 0] 24))
  have f0 := Chg.alloc c w (.cells #[.int .i64 0, .int .i64 0, .int .i64 0] 24)
  have H := Lib.hid h0; have F := Lib.hid f0; clear h h0 f0
  obtain ⟨g, hg⟩ : ∃ g, w.heap.size = g := ⟨_, rfl⟩
  rw [hg] at hz
  have hgc : g ≠ c := by omega
  go_enter Tryd.func20, Tryd.ntmps20
  go_wp2_with fail
  refine (line_c c n _ H.out (by omega)).mono ?_
  rintro e w1 ⟨l, rfl, hl, hcu, hch⟩
  clear hl
  obtain ⟨la, lb, lc⟩ := l
  unfold lnV
  simp only
  have o1 := hz.chg hch hgc
  have f1 := F.out.trans hch
  have hs1 := f1.size
  have hlt1 := o1.lt
  obtain ⟨k, hk⟩ : ∃ k, w1.heap.size = k := ⟨_, rfl⟩
  have p2 := LnO.new w1 la lb lc hk.symm
  have o2 := o1.alloc (.cells #[.int .i64 la, .int .i64 lb, .int .i64 lc] 24)
  have h2 := hcu.below ((Below.refl _ _).alloc (Nat.le_refl _) (.cells #[.int .i64 la, .int .i64 lb, .int .i64 lc] 24))
  have f2 := f1.trans (Chg.alloc c w1 (.cells #[.int .i64 la, .int .i64 lb, .int .i64 lc] 24))
  have hkc : k ≠ c := by omega
  have hkg : k ≠ g := by omega
  have hwk : w.heap.size ≤ k := by omega
  have hwg : w.heap.size ≤ g := by omega
  clear hz hcu hch o1 f1 hs1 hlt1
  have H2 := Lib.hid h2; have F2 := Lib.hid f2; clear h2 f2
  go_wp2_with fail
  generalize w1.alloc (.cells #[.int .i64 la, .int .i64 lb, .int .i64 lc] 24) = w2 at o2 p2 H2 F2 ⊢
  clear hk
  refine (pick_c 24 c (n + 6) w2 H2.out (by omega)).mono ?_
  rintro e w3 ⟨x, rfl, hx, hcu, hch⟩
  have o3 := o2.chg hch hgc
  have p3 := p2.chg hch hkc
  have H3 := Lib.hid hcu; have F3 := Lib.hid (F2.out.trans hch)
  clear hcu hch o2 p2
  by_cases h1 : x = 0
  case pos =>
    subst h1
    go_wp2_with fail
    refine (anyNum_c c (n + 8) _ H3.out (by omega)).mono ?_
    rintro e w5 ⟨y, rfl, hy, hcu, hch⟩
    have o5 := o3.chg hch hgc
    have p5 := p3.chg hch hkc
    have H5 := Lib.hid hcu; have F5 := Lib.hid (F3.out.trans hch)
    clear hcu hch hy o3 p3
    obtain ⟨a0, a1, a2⟩ := p5.at
    obtain ⟨b0, b1, b2⟩ := p5.fr
    obtain ⟨x0, x1, x2⟩ := o5.at
    obtain ⟨y0, y1, y2⟩ := o5.fr
    have hgk := Ne.symm hkg
    go_wp2_with fail
    have o6 := Own.setOther (v := .int .i64 y) (a := ⟨k, 0, none⟩) o5 (Ne.symm hkg)
    have p6 : LnO (w5.setCell ⟨k, 0, none⟩ (.int .i64 y)) k ⟨y, lb, lc⟩ := Own.set p5 0 (.int .i64 y)
    obtain ⟨h6, f6⟩ := ln1_set (i := 0) (x := y) H5.out F5.out hwk hcl
    have H6 := Lib.hid h6; have F6 := Lib.hid f6; clear h6 f6
    change LnO _ g ⟨0, 0, 0⟩ at o6
    obtain ⟨W, hW, ⟨q0, q1, q2⟩, hU, hC⟩ := ln3_endD (x := y) (y := lb) (z := lc) o6 H6.out F6.out hwg hcl
    unfold ln3 at hW
    rw [hW]
    exact bodyPost_ret (v := .agg #[.int .i64 y, .int .i64 lb, .int .i64 lc]) (by simp [results, Tryd.results20, go_sem, q0, q1, q2]) rfl ⟨⟨y, lb, lc⟩, rfl, trivial, hU.mono (by omega), hC⟩
  case neg =>
    have e1 : (x == 0) = false := beq_eq_false_iff_ne.2 h1
    by_cases h2 : x = 1
    case pos =>
      subst h2
      have H4 := Lib.hid (H3.out.below ((Below.refl _ _).alloc (Nat.le_refl _) (.cells #[.int .i64 1000000, .int .i64 (-1000000), .int .i64 1000001] 3)))
      have F4 := Lib.hid (F3.out.trans (Chg.alloc c w3 (.cells #[.int .i64 1000000, .int .i64 (-1000000), .int .i64 1000001] 3)))
      have o4 := o3.alloc (.cells #[.int .i64 1000000, .int .i64 (-1000000), .int .i64 1000001] 3)
      have p4 := p3.alloc (.cells #[.int .i64 1000000, .int .i64 (-1000000), .int .i64 1000001] 3)
      have hlt3 := H3.out.lt
      go_wp2_with fail
      refine (among_c w3.heap.size 3 [1000000, -1000000, 1000001] c (n + 8) (w3.alloc (.cells #[.int .i64 1000000, .int .i64 (-1000000), .int .i64 1000001] 3)) H4.out (by omega) (by simp) (by simp) (by omega) (Own.newA w3 _ 3 rfl)).mono ?_
      rintro e w5 ⟨y, rfl, hy, hcu, hch⟩
      have o5 := o4.chg hch hgc
      have p5 := p4.chg hch hkc
      have H5 := Lib.hid hcu; have F5 := Lib.hid (F4.out.trans hch)
      clear hcu hch hy o4 p4 o3 p3 hlt3
      obtain ⟨a0, a1, a2⟩ := p5.at
      obtain ⟨b0, b1, b2⟩ := p5.fr
      obtain ⟨x0, x1, x2⟩ := o5.at
      obtain ⟨y0, y1, y2⟩ := o5.fr
      have hgk := Ne.symm hkg
      go_wp2_with fail
      have o6 := Own.setOther (v := .int .i64 y) (a := ⟨k, 1, none⟩) o5 (Ne.symm hkg)
      have p6 : LnO (w5.setCell ⟨k, 1, none⟩ (.int .i64 y)) k ⟨la, y, lc⟩ := Own.set p5 1 (.int .i64 y)
      obtain ⟨h6, f6⟩ := ln1_set (i := 1) (x := y) H5.out F5.out hwk hcl
      have H6 := Lib.hid h6; have F6 := Lib.hid f6; clear h6 f6
      change LnO _ g ⟨0, 0, 0⟩ at o6
      obtain ⟨W, hW, ⟨q0, q1, q2⟩, hU, hC⟩ := ln3_endD (x := la) (y := y) (z := lc) o6 H6.out F6.out hwg hcl
      unfold ln3 at hW
      rw [hW]
      exact bodyPost_ret (v := .agg #[.int .i64 la, .int .i64 y, .int .i64 lc]) (by simp [results, Tryd.results20, go_sem, q0, q1, q2]) rfl ⟨⟨la, y, lc⟩, rfl, trivial, hU.mono (by omega), hC⟩
    case neg =>
      have e2 : (x == 1) = false := beq_eq_false_iff_ne.2 h2
      by_cases h3 : x = 2
      case pos =>
        subst h3
        have H4 := Lib.hid (H3.out.below ((Below.refl _ _).alloc (Nat.le_refl _) (.cells #[.int .i64 1000000, .int .i64 (-1000000), .int .i64 (-1000001), .int .i64 1000000000] 3)))
        have F4 := Lib.hid (F3.out.trans (Chg.alloc c w3 (.cells #[.int .i64 1000000, .int .i64 (-1000000), .int .i64 (-1000001), .int .i64 1000000000] 3)))
        have o4 := o3.alloc (.cells #[.int .i64 1000000, .int .i64 (-1000000), .int .i64 (-1000001), .int .i64 1000000000] 3)
        have p4 := p3.alloc (.cells #[.int .i64 1000000, .int .i64 (-1000000), .int .i64 (-1000001), .int .i64 1000000000] 3)
        have hlt3 := H3.out.lt
        go_wp2_with fail
        refine (among_c w3.heap.size 4 [1000000, -1000000, -1000001, 1000000000] c (n + 8) (w3.alloc (.cells #[.int .i64 1000000, .int .i64 (-1000000), .int .i64 (-1000001), .int .i64 1000000000] 3)) H4.out (by omega) (by simp) (by simp) (by omega) (Own.newA w3 _ 3 rfl)).mono ?_
        rintro e w5 ⟨y, rfl, hy, hcu, hch⟩
        have o5 := o4.chg hch hgc
        have p5 := p4.chg hch hkc
        have H5 := Lib.hid hcu; have F5 := Lib.hid (F4.out.trans hch)
        clear hcu hch hy o4 p4 o3 p3 hlt3
        obtain ⟨a0, a1, a2⟩ := p5.at
        obtain ⟨b0, b1, b2⟩ := p5.fr
        obtain ⟨x0, x1, x2⟩ := o5.at
        obtain ⟨y0, y1, y2⟩ := o5.fr
        have hgk := Ne.symm hkg
        go_wp2_with fail
        have o6 := Own.setOther (v := .int .i64 y) (a := ⟨k, 2, none⟩) o5 (Ne.symm hkg)
        have p6 : LnO (w5.setCell ⟨k, 2, none⟩ (.int .i64 y)) k ⟨la, lb, y⟩ := Own.set p5 2 (.int .i64 y)
        obtain ⟨h6, f6⟩ := ln1_set (i := 2) (x := y) H5.out F5.out hwk hcl
        have H6 := Lib.hid h6; have F6 := Lib.hid f6; clear h6 f6
        change LnO _ g ⟨0, 0, 0⟩ at o6
        obtain ⟨W, hW, ⟨q0, q1, q2⟩, hU, hC⟩ := ln3_endD (x := la) (y := lb) (z := y) o6 H6.out F6.out hwg hcl
        unfold ln3 at hW
        rw [hW]
        exact bodyPost_ret (v := .agg #[.int .i64 la, .int .i64 lb, .int .i64 y]) (by simp [results, Tryd.results20, go_sem, q0, q1, q2]) rfl ⟨⟨la, lb, y⟩, rfl, trivial, hU.mono (by omega), hC⟩
      case neg =>
        have e3 : (x == 2) = false := beq_eq_false_iff_ne.2 h3
        obtain ⟨x0, x1, x2⟩ := o3.at
        obtain ⟨y0, y1, y2⟩ := o3.fr
        obtain ⟨z0, z1, z2⟩ := p3.at
        go_wp2_with fail
        obtain ⟨W, hW, ⟨q0, q1, q2⟩, hU, hC⟩ := ln3_endD (x := la) (y := lb) (z := lc) o3 H3.out F3.out hwg hcl
        unfold ln3 at hW
        rw [hW]
        exact bodyPost_ret (v := .agg #[.int .i64 la, .int .i64 lb, .int .i64 lc]) (by simp [results, Tryd.results20, go_sem, q0, q1, q2]) rfl ⟨⟨la, lb, lc⟩, rfl, trivial, hU.mono (by omega), hC⟩

set_option maxHeartbeats 3200000 in
theorem coord_c (c n : Nat) (w : World) (h : Cur w c n) (hn : n ≤ 4611686018427360000) :
    Calls Tryd.prog 33 #[.pointer (some ⟨c, 0, none⟩)] w (SomeI (fun _ => True) c (n + 16) w) := by
  have hcl := h.lt
  have H0 := Lib.hid h; have F0 := Lib.hid (Chg.refl c w); clear h
  go_enter Tryd.func33, Tryd.ntmps33
  go_wp2_with fail
  refine (small_c c (n + 0) _ H0.out (by omega)).mono ?_
  rintro e w1 ⟨x1, rfl, hx, hcu, hch⟩
  have H1 := Lib.hid hcu; have F1 := Lib.hid (F0.out.trans hch)
  clear hcu hch hx
  go_wp2_with fail
  refine (small_c c (n + 2) _ H1.out (by omega)).mono ?_
  rintro e w2 ⟨x2, rfl, hx, hcu, hch⟩
  have H2 := Lib.hid hcu; have F2 := Lib.hid (F1.out.trans hch)
  clear hcu hch hx
  go_wp2_with fail
  refine (small_c c (n + 4) _ H2.out (by omega)).mono ?_
  rintro e w3 ⟨x3, rfl, hx, hcu, hch⟩
  have H3 := Lib.hid hcu; have F3 := Lib.hid (F2.out.trans hch)
  clear hcu hch hx
  go_wp2_with fail
  refine (small_c c (n + 6) _ H3.out (by omega)).mono ?_
  rintro e w4 ⟨x4, rfl, hx, hcu, hch⟩
  have H4 := Lib.hid hcu; have F4 := Lib.hid (F3.out.trans hch)
  clear hcu hch hx
  go_wp2_with fail
  refine (small_c c (n + 8) _ H4.out (by omega)).mono ?_
  rintro e w5 ⟨x5, rfl, hx, hcu, hch⟩
  have H5 := Lib.hid hcu; have F5 := Lib.hid (F4.out.trans hch)
  clear hcu hch hx
  go_wp2_with fail
  refine (small_c c (n + 10) _ H5.out (by omega)).mono ?_
  rintro e w6 ⟨x6, rfl, hx, hcu, hch⟩
  have H6 := Lib.hid hcu; have F6 := Lib.hid (F5.out.trans hch)
  clear hcu hch hx
  have H7 := Lib.hid (H6.out.below ((Below.refl _ _).alloc (Nat.le_refl _) (.cells #[.int .i64 0, .int .i64 1000000, .int .i64 (-1000000), .int .i64 1000000000, .int .i64 (-9223372036854775808), .int .i64 x6] 3)))
  have F7 := Lib.hid (F6.out.trans (Chg.alloc c w6 (.cells #[.int .i64 0, .int .i64 1000000, .int .i64 (-1000000), .int .i64 1000000000, .int .i64 (-9223372036854775808), .int .i64 x6] 3)))
  have hl6 := H6.out.lt
  go_wp2_with fail
  refine (among_c w6.heap.size 6 [0, 1000000, -1000000, 1000000000, -9223372036854775808, x6] c (n + 12) (w6.alloc (.cells #[.int .i64 0, .int .i64 1000000, .int .i64 (-1000000), .int .i64 1000000000, .int .i64 (-9223372036854775808), .int .i64 x6] 3)) H7.out (by omega) (by simp) (by simp) (by omega) (Own.newA w6 _ 3 rfl)).mono ?_
  rintro e w7 ⟨x7, rfl, hy, hcu, hch⟩
  have H8 := Lib.hid (hcu.below ((Below.refl _ _).alloc (Nat.le_refl _) (.cells #[.int .i64 x1, .int .i64 x2, .int .i64 x3, .int .i64 x4, .int .i64 x5, .int .i64 x7] 3)))
  have F8 := Lib.hid ((F7.out.trans hch).trans (Chg.alloc c w7 (.cells #[.int .i64 x1, .int .i64 x2, .int .i64 x3, .int .i64 x4, .int .i64 x5, .int .i64 x7] 3)))
  have hl7 := hcu.lt
  clear hcu hch hy
  go_wp2_with fail
  refine (among_c w7.heap.size 6 [x1, x2, x3, x4, x5, x7] c (n + 14) (w7.alloc (.cells #[.int .i64 x1, .int .i64 x2, .int .i64 x3, .int .i64 x4, .int .i64 x5, .int .i64 x7] 3)) H8.out (by omega) (by simp) (by simp) (by omega) (Own.newA w7 _ 3 rfl)).mono ?_
  rintro e w9 ⟨x9, rfl, hy, hcu, hch⟩
  have H9 := Lib.hid hcu; have F9 := Lib.hid (F8.out.trans hch)
  clear hcu hch hy
  go_wp2_with fail
  go_ret
  exact ⟨_, rfl, trivial, H9.out.mono (by omega), F9.out⟩

end Go.Proofs.YtbkfgaibcoekgaaDoor
