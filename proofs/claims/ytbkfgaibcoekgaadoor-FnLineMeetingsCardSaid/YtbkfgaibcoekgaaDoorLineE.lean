/-
  Two lines, a line and its move, texts of lines that the cursor draws. Printed by gen_lineE.py.
-/
import Derived.Test.YtbkfgaibcoekgaaDoorLineD
import Derived.Test.YtbkfgaibcoekgaaDoorLineX
namespace Go.Proofs.YtbkfgaibcoekgaaDoor
open Go.RowKit

def MoveD (w : World) (e : Ending) (w' : World) : Prop := ∃ (l : Ln) (x y : Int), e = .returned (.tuple #[lnV l, .int .i64 x, .int .i64 y]) ∧ Below w.heap.size w w'
def TwoD (w : World) (e : Ending) (w' : World) : Prop := ∃ l m : Ln, e = .returned (.tuple #[lnV l, lnV m]) ∧ Below w.heap.size w w'
theorem anyLine_e (c n : Nat) (w : World) (h : Cur w c n) (hn : n ≤ 4611686018427360000) :
    Calls Tryd.prog 20 #[.pointer (some ⟨c, 0, none⟩)] w fun e w' => ∃ x y z : Int, e = .returned (.agg #[.int .i64 x, .int .i64 y, .int .i64 z]) ∧ Cur w' c (n + 14) ∧ Chg c w w' := by
  refine (anyLine_c c n w h hn).mono ?_
  rintro e w' ⟨l, rfl, _, hu, hc⟩
  exact ⟨l.a, l.b, l.c, rfl, hu, hc⟩
/-- Two lines by their cells. -/
theorem ln6_end {u w : World} {g h : Nat} {l m : Ln} {a b c d e f : Int} (hg : LnO w g l) (hh : LnO w h m) (hne : g ≠ h) (hb : Below u.heap.size u w) (h1 : u.heap.size ≤ g) (h2 : u.heap.size ≤ h) : ∃ W, ln3 (ln3 w g a b c) h d e f = W ∧ (W.cell? ⟨g, 0, none⟩ = some (.int .i64 a) ∧ W.cell? ⟨g, 1, none⟩ = some (.int .i64 b) ∧ W.cell? ⟨g, 2, none⟩ = some (.int .i64 c)) ∧ (W.cell? ⟨h, 0, none⟩ = some (.int .i64 d) ∧ W.cell? ⟨h, 1, none⟩ = some (.int .i64 e) ∧ W.cell? ⟨h, 2, none⟩ = some (.int .i64 f)) ∧ Below u.heap.size u W :=
  ⟨_, rfl, ((hg.set a b c).setOther hne d e f).at, ((hh.setOther (Ne.symm hne) a b c).set d e f).at, ln3_below (ln3_below hb h1) h2⟩

set_option maxHeartbeats 1600000 in
theorem drawMoveLine_c (ad : Option Addr) (len cap : Nat) (w : World) (hl : len ≤ 9223372036854775807) (hr : RdB w ad len) :
    Calls Tryd.prog 14 #[.slice ad len cap] w (MoveD w) := by
  have hb0 : Below w.heap.size w (w.alloc (.cells #[.int .i64 0, .int .i64 0, .int .i64 0] 24)) := (Below.refl _ _).alloc (Nat.le_refl _) _
  have hc := cur_new (cap := cap) (hr.below hb0) hl
  have hz := (LnO.new w 0 0 0 rfl).alloc (.cells #[.slice ad len cap, .int .i64 0, .int .u64 0] 46)
  have hb1 : Below w.heap.size w ((w.alloc (.cells #[.int .i64 0, .int .i64 0, .int .i64 0] 24)).alloc (.cells #[.slice ad len cap, .int .i64 0, .int .u64 0] 46)) := hb0.alloc hb0.size _
  clear hr hl hb0
  obtain ⟨g, hg⟩ : ∃ g, w.heap.size = g := ⟨_, rfl⟩
  rw [hg] at hz
  rw [show (w.alloc (.cells #[.int .i64 0, .int .i64 0, .int .i64 0] 24)).heap.size = g + 1 by simp [hg]] at hc
  have hgc : g ≠ g + 1 := by omega
  have HC := Lib.hid hc; have HB := Lib.hid hb1; clear hc hb1
  go_enter Tryd.func14, Tryd.ntmps14
  go_wp2_with fail
  refine (anyLine_c (g + 1) 0 _ HC.out (by omega)).mono ?_
  rintro e w1 ⟨l, rfl, -, hcu, hch⟩
  obtain ⟨la, lb, lc⟩ := l
  unfold lnV
  simp only
  have H1 := Lib.hid hcu; have B1 := Lib.hid (bchg HB.out hch (by omega) HB.out.size)
  have o1 := hz.chg hch hgc
  clear hcu hch hz
  go_wp2_with fail
  refine (coord_c (g + 1) (0 + 14) _ H1.out (by omega)).mono ?_
  rintro e w2 ⟨x, rfl, -, hcu, hch⟩
  have H2 := Lib.hid hcu; have B2 := Lib.hid (bchg B1.out hch (by omega) B1.out.size)
  have o2 := o1.chg hch hgc
  clear hcu hch o1
  go_wp2_with fail
  refine (coord_c (g + 1) (0 + 14 + 16) _ H2.out (by omega)).mono ?_
  rintro e w3 ⟨y, rfl, -, hcu, hch⟩
  have B3 := Lib.hid (bchg B2.out hch (by omega) B2.out.size)
  have o3 := o2.chg hch hgc
  clear hcu hch o2
  obtain ⟨x0, x1, x2⟩ := o3.at
  obtain ⟨y0, y1, y2⟩ := o3.fr
  go_wp2_with fail
  obtain ⟨W, hW, ⟨q0, q1, q2⟩, hB⟩ := ln3_end (a := la) (b := lb) (c := lc) o3 B3.out (by omega)
  unfold ln3 at hW
  rw [hW]
  exact bodyPost_ret (v := .tuple #[.agg #[.int .i64 la, .int .i64 lb, .int .i64 lc], .int .i64 x, .int .i64 y]) (by simp [results, Tryd.results14, go_sem, q0, q1, q2]) rfl ⟨⟨la, lb, lc⟩, x, y, rfl, hB⟩

set_option maxHeartbeats 6400000 in
set_option maxRecDepth 100000 in
theorem drawMeetingPoint_c (ad : Option Addr) (len cap : Nat) (w : World) (hl : len ≤ 9223372036854775807) (hr : RdB w ad len) :
    Calls Tryd.prog 4 #[.slice ad len cap] w (TwoD w) := by
  have hb0 : Below w.heap.size w (w.alloc (.cells #[.int .i64 0, .int .i64 0, .int .i64 0] 24)) := (Below.refl _ _).alloc (Nat.le_refl _) _
  have hb1 : Below w.heap.size w ((w.alloc (.cells #[.int .i64 0, .int .i64 0, .int .i64 0] 24)).alloc (.cells #[.int .i64 0, .int .i64 0, .int .i64 0] 24)) := hb0.alloc hb0.size _
  have hc := cur_new (cap := cap) (hr.below hb1) hl
  have hz := ((LnO.new w 0 0 0 rfl).alloc (.cells #[.int .i64 0, .int .i64 0, .int .i64 0] 24)).alloc (.cells #[.slice ad len cap, .int .i64 0, .int .u64 0] 46)
  have hy := (LnO.new (g := w.heap.size + 1) (w.alloc (.cells #[.int .i64 0, .int .i64 0, .int .i64 0] 24)) 0 0 0 (by simp)).alloc (.cells #[.slice ad len cap, .int .i64 0, .int .u64 0] 46)
  have hb2 : Below w.heap.size w (((w.alloc (.cells #[.int .i64 0, .int .i64 0, .int .i64 0] 24)).alloc (.cells #[.int .i64 0, .int .i64 0, .int .i64 0] 24)).alloc (.cells #[.slice ad len cap, .int .i64 0, .int .u64 0] 46)) := hb1.alloc hb1.size _
  clear hr hl hb0 hb1
  obtain ⟨g, hg⟩ : ∃ g, w.heap.size = g := ⟨_, rfl⟩
  rw [hg] at hz hy
  rw [show ((w.alloc (.cells #[.int .i64 0, .int .i64 0, .int .i64 0] 24)).alloc (.cells #[.int .i64 0, .int .i64 0, .int .i64 0] 24)).heap.size = g + 1 + 1 by simp [hg]] at hc
  obtain ⟨h, hh⟩ : ∃ h, g + 1 = h := ⟨_, rfl⟩
  rw [hh] at hy hc
  obtain ⟨c, hcd⟩ : ∃ c, h + 1 = c := ⟨_, rfl⟩
  rw [hcd] at hc
  have hgc : g ≠ c := by omega
  have hhc : h ≠ c := by omega
  have hgh : g ≠ h := by omega
  have hhg : h ≠ g := by omega
  have hwg : w.heap.size ≤ g := by omega
  have hwh : w.heap.size ≤ h := by omega
  have hwc : w.heap.size ≤ c := by omega
  have HC := Lib.hid hc; have HB := Lib.hid hb2; clear hc hb2
  have hcl := HC.out.lt
  go_enter Tryd.func4, Tryd.ntmps4
  go_wp2_with fail
  refine (anyLine_c c 0 _ HC.out (by omega)).mono ?_
  rintro e w1 ⟨l, rfl, -, hcu, hch⟩
  have hgood := fun w => lnGood_c l w
  obtain ⟨la, lb, lc⟩ := l
  have hbd := fun h => lnB_bd (a := la) (b := lb) (c := lc) h
  generalize lnB ⟨la, lb, lc⟩ = t at hgood hbd
  unfold lnV at hgood ⊢
  simp only at hgood ⊢
  have GOOD := Lib.hid hgood; clear hgood
  have o1 := hz.chg hch hgc
  have p1 := hy.chg hch hhc
  have B1 := Lib.hid (bchg HB.out hch hwc HB.out.size)
  have hcl1 := Nat.lt_of_lt_of_le hcl hch.size
  clear hz hy hch hcl HC HB
  have hlt1 := o1.lt
  have hlt2 := p1.lt
  obtain ⟨k, hk⟩ : ∃ k, w1.heap.size = k := ⟨_, rfl⟩
  have q2 := LnO.new w1 la lb lc hk.symm
  have o2 := o1.alloc (.cells #[.int .i64 la, .int .i64 lb, .int .i64 lc] 24)
  have p2 := p1.alloc (.cells #[.int .i64 la, .int .i64 lb, .int .i64 lc] 24)
  have h2 := hcu.below ((Below.refl _ _).alloc (Nat.le_refl _) (.cells #[.int .i64 la, .int .i64 lb, .int .i64 lc] 24))
  have B2 := Lib.hid (bal_alloc (o := (.cells #[.int .i64 la, .int .i64 lb, .int .i64 lc] 24)) B1.out)
  have hkc : k ≠ c := by omega
  have hkg' : g < k ∧ h < k := by omega
  clear hcu o1 p1 hcl1 hlt1 hlt2 B1
  have H2 := Lib.hid h2; clear h2
  go_wp2_with fail
  generalize w1.alloc (.cells #[.int .i64 la, .int .i64 lb, .int .i64 lc] 24) = w2 at o2 p2 q2 H2 B2 ⊢
  clear hk
  refine (GOOD.out _).mono ?_
  rintro e w3 ⟨rfl, hw3⟩
  have o3 := o2.below hw3
  have p3 := p2.below hw3
  have q3 := q2.below hw3
  have H3 := Lib.hid (H2.out.below hw3)
  have B3 := Lib.hid (ball B2.out hw3)
  clear o2 p2 q2 H2 B2 hw3 GOOD
  cases t
  case false =>
    clear hbd
    obtain ⟨z0, z1, z2⟩ := q3.at
    go_wp2_with fail
    obtain ⟨a0, a1, a2⟩ := q3.at
    obtain ⟨b0, b1, b2⟩ := o3.at
    obtain ⟨c0, c1, c2⟩ := o3.fr
    obtain ⟨d0, d1, d2⟩ := p3.at
    obtain ⟨f0, f1, f2⟩ := p3.fr
    have hkg : k ≠ g := by omega
    have hkh : k ≠ h := by omega
    go_region_held3 (fun w' => w'.cell? ⟨k, 0, none⟩ = some (.int .i64 la) ∧ w'.cell? ⟨k, 1, none⟩ = some (.int .i64 lb) ∧ w'.cell? ⟨k, 2, none⟩ = some (.int .i64 lc)) (with_reducible repeat' (first | apply And.intro | assumption | (apply cell_set' hkg) | (apply cell_set' hkh) | apply cell_drew'))
      (first
        | (go_at_call 20; (with_reducible refine (anyLine_e c (0 + 14) _ (by first | exact H3.out | exact H3.out.below (Below.refl _ _).drew) (by omega)).mono ?_); rintro e W1 ⟨ma, mb, mc, rfl, hcu, hch⟩; have oW := LnO.chg (by exact o3) hch hgc; have pW := LnO.chg (by exact p3) hch hhc; have qW := LnO.chg (by exact q3) hch hkc; have BW := Lib.hid (bchg (by first | exact B3.out | exact B3.out.drew) hch hwc (by first | exact B3.out.size | exact B3.out.drew.size)); obtain ⟨a0', a1', a2'⟩ := qW.at; obtain ⟨b0', b1', b2'⟩ := oW.at; obtain ⟨c0', c1', c2'⟩ := oW.fr; obtain ⟨d0', d1', d2'⟩ := pW.at; obtain ⟨f0', f1', f2'⟩ := pW.fr))
    all_goals
      go_wp2_with fail
      obtain ⟨W, hW, ⟨s0, s1, s2⟩, ⟨t0, t1, t2⟩, hB⟩ := ln6_end (a := la) (b := lb) (c := lc) (d := ma) (e := mb) (f := mc) oW pW hgh BW.out hwg hwh
      unfold ln3 at hW
      rw [hW]
      exact bodyPost_ret (v := .tuple #[.agg #[.int .i64 la, .int .i64 lb, .int .i64 lc], .agg #[.int .i64 ma, .int .i64 mb, .int .i64 mc]]) (by simp [results, Tryd.results4, go_sem, s0, s1, s2, t0, t1, t2]) rfl ⟨⟨la, lb, lc⟩, ⟨ma, mb, mc⟩, rfl, hB⟩
  case true =>
    have hbd' := hbd rfl
    clear hbd
    have e1 : IntKind.i64.wrap (la + 1) = la + 1 := i64_small (by omega) (by omega)
    have e2 : IntKind.i64.wrap (lb + 1) = lb + 1 := i64_small (by omega) (by omega)
    have e3 : IntKind.i64.wrap (lc + 1) = lc + 1 := i64_small (by omega) (by omega)
    have e4 := Lib.hid (fun x (h0 : 0 ≤ x) (h1 : x < 2) => show IntKind.i64.wrap (lc + 1 + x) = lc + 1 + x from i64_small (by omega) (by omega))
    clear hbd'
    obtain ⟨z0, z1, z2⟩ := q3.at
    go_wp2_with fail
    refine (one_c 4 c (0 + 14) _ H3.out (by omega)).mono ?_
    rintro e w4 ⟨t, rfl, hcu, hch⟩
    have o4 := o3.chg hch hgc
    have p4 := p3.chg hch hhc
    have q4 := q3.chg hch hkc
    have H4 := Lib.hid hcu
    have B4 := Lib.hid (bchg B3.out hch hwc B3.out.size)
    clear hcu hch o3 p3 q3 H3 B3 z0 z1 z2
    cases t
    case false =>
      go_wp2_with fail
      obtain ⟨a0, a1, a2⟩ := q4.at
      obtain ⟨b0, b1, b2⟩ := o4.at
      obtain ⟨c0, c1, c2⟩ := o4.fr
      obtain ⟨d0, d1, d2⟩ := p4.at
      obtain ⟨f0, f1, f2⟩ := p4.fr
      have hkg : k ≠ g := by omega
      have hkh : k ≠ h := by omega
      go_region_held3 (fun w' => w'.cell? ⟨k, 0, none⟩ = some (.int .i64 la) ∧ w'.cell? ⟨k, 1, none⟩ = some (.int .i64 lb) ∧ w'.cell? ⟨k, 2, none⟩ = some (.int .i64 lc)) (with_reducible repeat' (first | apply And.intro | assumption | (apply cell_set' hkg) | (apply cell_set' hkh) | apply cell_drew'))
        (first
          | (go_at_call 20; (with_reducible refine (anyLine_e c (0 + 14 + 2) _ (by first | exact H4.out | exact H4.out.below (Below.refl _ _).drew) (by omega)).mono ?_); rintro e W1 ⟨ma, mb, mc, rfl, hcu, hch⟩; have oW := LnO.chg (by exact o4) hch hgc; have pW := LnO.chg (by exact p4) hch hhc; have qW := LnO.chg (by exact q4) hch hkc; have BW := Lib.hid (bchg (by first | exact B4.out | exact B4.out.drew) hch hwc (by first | exact B4.out.size | exact B4.out.drew.size)); obtain ⟨a0', a1', a2'⟩ := qW.at; obtain ⟨b0', b1', b2'⟩ := oW.at; obtain ⟨c0', c1', c2'⟩ := oW.fr; obtain ⟨d0', d1', d2'⟩ := pW.at; obtain ⟨f0', f1', f2'⟩ := pW.fr))
      all_goals
        go_wp2_with fail
        obtain ⟨W, hW, ⟨s0, s1, s2⟩, ⟨t0, t1, t2⟩, hB⟩ := ln6_end (a := la) (b := lb) (c := lc) (d := ma) (e := mb) (f := mc) oW pW hgh BW.out hwg hwh
        unfold ln3 at hW
        rw [hW]
        exact bodyPost_ret (v := .tuple #[.agg #[.int .i64 la, .int .i64 lb, .int .i64 lc], .agg #[.int .i64 ma, .int .i64 mb, .int .i64 mc]]) (by simp [results, Tryd.results4, go_sem, s0, s1, s2, t0, t1, t2]) rfl ⟨⟨la, lb, lc⟩, ⟨ma, mb, mc⟩, rfl, hB⟩
    case true =>
      go_wp2_with fail
      obtain ⟨a0, a1, a2⟩ := q4.at
      obtain ⟨b0, b1, b2⟩ := o4.at
      obtain ⟨c0, c1, c2⟩ := o4.fr
      obtain ⟨d0, d1, d2⟩ := p4.at
      obtain ⟨f0, f1, f2⟩ := p4.fr
      have hkg : k ≠ g := by omega
      have hkh : k ≠ h := by omega
      go_region_held3 (fun w' => w'.cell? ⟨k, 0, none⟩ = some (.int .i64 la) ∧ w'.cell? ⟨k, 1, none⟩ = some (.int .i64 lb) ∧ w'.cell? ⟨k, 2, none⟩ = some (.int .i64 lc)) (with_reducible repeat' (first | apply And.intro | assumption | (apply cell_set' hkg) | (apply cell_set' hkh) | apply cell_drew'))
        (first
          | (go_at_call 23; (with_reducible refine (pick_c 2 c (0 + 14 + 2) _ (by first | exact H4.out | exact H4.out.below (Below.refl _ _).drew) (by omega)).mono ?_); rintro e W1 ⟨x, rfl, ⟨hx0, hx1⟩, hcu, hch⟩; have oW := LnO.chg (by exact o4) hch hgc; have pW := LnO.chg (by exact p4) hch hhc; have qW := LnO.chg (by exact q4) hch hkc; have BW := Lib.hid (bchg (by first | exact B4.out | exact B4.out.drew) hch hwc (by first | exact B4.out.size | exact B4.out.drew.size)); obtain ⟨a0', a1', a2'⟩ := qW.at; obtain ⟨b0', b1', b2'⟩ := oW.at; obtain ⟨c0', c1', c2'⟩ := oW.fr; obtain ⟨d0', d1', d2'⟩ := pW.at; obtain ⟨f0', f1', f2'⟩ := pW.fr; have e5 := e4.out x hx0 (by omega); clear hx0 hx1))
      all_goals
        go_wp2_with fail
        obtain ⟨W, hW, ⟨s0, s1, s2⟩, ⟨t0, t1, t2⟩, hB⟩ := ln6_end (a := la) (b := lb) (c := lc) (d := (la + 1)) (e := (lb + 1)) (f := (lc + 1 + x)) oW pW hgh BW.out hwg hwh
        unfold ln3 at hW
        rw [hW]
        exact bodyPost_ret (v := .tuple #[.agg #[.int .i64 la, .int .i64 lb, .int .i64 lc], .agg #[.int .i64 (la + 1), .int .i64 (lb + 1), .int .i64 (lc + 1 + x)]]) (by simp [results, Tryd.results4, go_sem, s0, s1, s2, t0, t1, t2]) rfl ⟨⟨la, lb, lc⟩, ⟨(la + 1), (lb + 1), (lc + 1 + x)⟩, rfl, hB⟩

theorem itoa_small {n : Int} (h : -4 ≤ n ∧ n ≤ 8) : (Lib.itoa n).length ≤ 2 := by
  obtain ⟨h0, h1⟩ := h
  have : n = -4 ∨ n = -3 ∨ n = -2 ∨ n = -1 ∨ n = 0 ∨ n = 1 ∨ n = 2 ∨ n = 3 ∨ n = 4 ∨ n = 5 ∨ n = 6 ∨ n = 7 ∨ n = 8 := by omega
  rcases this with h | h | h | h | h | h | h | h | h | h | h | h | h <;> (subst h; simp [Lib.itoa, Lib.decDigits])
theorem lineTxt_small {l : Ln} (h : SmallL l) : (lineTxt l).length ≤ 8 := by
  have h1 := itoa_small h.1
  have h2 := itoa_small h.2.1
  have h3 := itoa_small h.2.2
  simp [lineTxt]
  omega
theorem SmallL.good {l : Ln} (h : SmallL l) : lnB l = true := by
  obtain ⟨h1, h2, h3⟩ := h
  exact lnB_t.2 ⟨by omega, by omega, by omega⟩

set_option maxHeartbeats 1600000 in
set_option maxRecDepth 100000 in
theorem drawParseLine_c (ad : Option Addr) (len cap : Nat) (w : World) (hl : len ≤ 9223372036854775807) (hr : RdB w ad len) :
    Calls Tryd.prog 17 #[.slice ad len cap] w (TextD 18 w) := by
  have HC := Lib.hid (cur_new (cap := cap) hr hl)
  clear hr
  go_enter Tryd.func17, Tryd.ntmps17
  go_wp2_with fail
  obtain ⟨wA, hwA⟩ : ∃ x, w.alloc (.cells #[.slice ad len cap, .int .i64 0, .int .u64 0] 46) = x := ⟨_, rfl⟩
  have hnew : ∀ w', Chg w.heap.size wA w' → Below w.heap.size w w' := fun w' h => by rw [← hwA] at h; exact chg_new h
  rw [hwA] at HC ⊢
  have HNEW := Lib.hid hnew; clear hnew hwA
  obtain ⟨g, hg⟩ : ∃ g, w.heap.size = g := ⟨_, rfl⟩
  rw [hg] at HC HNEW ⊢
  have hcl := HC.out.lt
  have HG := Lib.hid hg; clear hg
  have HF1 := Lib.hid (Chg.refl g wA)
  refine (line_c g 0 wA HC.out (by omega)).mono ?_
  rintro e w3 ⟨x2, rfl, hx, hcu, hch⟩
  have HU4 := Lib.hid hcu; clear hcu
  have HF5 := Lib.hid (HF1.out.trans hch)
  clear hch
  have hz6 := HF5.out.size
  have hgood := SmallL.good hx
  have ht := lineTxt_small hx
  have ct := lnText_c x2 w3 hgood
  clear hx hgood
  obtain ⟨T, hT⟩ : ∃ T : ByteArray, T = ⟨(lineTxt x2).toArray⟩ := ⟨_, rfl⟩
  have hTs : T.size ≤ 8 := by rw [hT]; simp only [ByteArray.size, List.size_toArray]; exact ht
  unfold strV at ct
  rw [← hT] at ct
  clear hT ht
  obtain ⟨la, lb, lc⟩ := x2
  unfold lnV at ct ⊢
  simp only at ct ⊢
  have CT := Lib.hid ct; clear ct
  go_wp2_with fail
  refine CT.out.mono ?_
  rintro e w8 ⟨rfl, hb8⟩
  have HU7 := Lib.hid (HU4.out.below hb8)
  have HF8 := Lib.hid (HF5.out.trans (Chg.of_below hb8))
  have hz9 := HF8.out.size
  clear CT
  go_wp2_with fail
  refine (pick_c 4 g (0 + 6) w8 HU7.out (by omega)).mono ?_
  rintro e w11 ⟨x10, rfl, hp12, hcu, hch⟩
  have HU13 := Lib.hid hcu; clear hcu
  have HF14 := Lib.hid (HF8.out.trans hch)
  clear hch
  have hz15 := HF14.out.size
  by_cases h1 : x10 = 0
  case pos =>
    subst h1
    go_wp2_with fail
    refine (spoilt_c T ⟨#[32, 45, 48, 49, 50, 105]⟩ 8 g (0 + 8) w11 HU13.out (by omega) hTs (by omega) (by decide) (by decide)).mono ?_
    rintro e w9 ⟨u, rfl, hu, hcu, hch⟩
    have HU16 := Lib.hid hcu; clear hcu
    have HF17 := Lib.hid (HF14.out.trans hch)
    clear hch
    have hz18 := HF17.out.size
    go_wp2_with fail
    go_ret
    exact ⟨u, rfl, by omega, by rw [HG.out]; exact HNEW.out _ HF17.out⟩
  case neg =>
    have e1 : (x10 == 0) = false := beq_eq_false_iff_ne.2 h1
    by_cases h2 : x10 = 1
    case pos =>
      subst h2
      go_wp2_with fail
      have hold := HU13.out.lt
      have HU19 := Lib.hid (HU13.out.below ((Below.refl _ _).alloc (Nat.le_refl _) (.cells #[.string ⟨#[]⟩, .string ⟨#[49, 32, 50]⟩, .string ⟨#[49, 32, 50, 32, 51, 32, 52]⟩, .string ⟨#[105, 110, 102, 32, 48, 32, 48]⟩, .string ⟨#[45, 48, 32, 49, 32, 50]⟩, .string ⟨#[48, 49, 32, 50, 32, 51]⟩, .string ⟨#[49, 48, 48, 48, 48, 48, 48, 32, 45, 49, 48, 48, 48, 48, 48, 48, 32, 48]⟩, .string ⟨#[49, 48, 48, 48, 48, 48, 49, 32, 48, 32, 48]⟩] 9)))
      have hl20 := HU13.out.lt
      have HF21 := Lib.hid (HF14.out.trans (Chg.alloc g w11 (.cells #[.string ⟨#[]⟩, .string ⟨#[49, 32, 50]⟩, .string ⟨#[49, 32, 50, 32, 51, 32, 52]⟩, .string ⟨#[105, 110, 102, 32, 48, 32, 48]⟩, .string ⟨#[45, 48, 32, 49, 32, 50]⟩, .string ⟨#[48, 49, 32, 50, 32, 51]⟩, .string ⟨#[49, 48, 48, 48, 48, 48, 48, 32, 45, 49, 48, 48, 48, 48, 48, 48, 32, 48]⟩, .string ⟨#[49, 48, 48, 48, 48, 48, 49, 32, 48, 32, 48]⟩] 9)))
      refine (of_c w11.heap.size 8 [⟨#[]⟩, ⟨#[49, 32, 50]⟩, ⟨#[49, 32, 50, 32, 51, 32, 52]⟩, ⟨#[105, 110, 102, 32, 48, 32, 48]⟩, ⟨#[45, 48, 32, 49, 32, 50]⟩, ⟨#[48, 49, 32, 50, 32, 51]⟩, ⟨#[49, 48, 48, 48, 48, 48, 48, 32, 45, 49, 48, 48, 48, 48, 48, 48, 32, 48]⟩, ⟨#[49, 48, 48, 48, 48, 48, 49, 32, 48, 32, 48]⟩] g (0 + 8) (w11.alloc (.cells #[.string ⟨#[]⟩, .string ⟨#[49, 32, 50]⟩, .string ⟨#[49, 32, 50, 32, 51, 32, 52]⟩, .string ⟨#[105, 110, 102, 32, 48, 32, 48]⟩, .string ⟨#[45, 48, 32, 49, 32, 50]⟩, .string ⟨#[48, 49, 32, 50, 32, 51]⟩, .string ⟨#[49, 48, 48, 48, 48, 48, 48, 32, 45, 49, 48, 48, 48, 48, 48, 48, 32, 48]⟩, .string ⟨#[49, 48, 48, 48, 48, 48, 49, 32, 48, 32, 48]⟩] 9)) HU19.out (by omega) (by simp) (by simp) (by omega) (Own.newA w11 _ 9 rfl)).mono ?_
      rintro e w9 ⟨u, rfl, hu, hcu, hch⟩
      have hu2 : u.size ≤ 18 := by simp at hu; rcases hu with h | h | h | h | h | h | h | h <;> (subst h; decide)
      clear hu
      have HU22 := Lib.hid hcu; clear hcu
      have HF23 := Lib.hid (HF21.out.trans hch)
      clear hch
      have hz24 := HF23.out.size
      go_wp2_with fail
      go_ret
      exact ⟨u, rfl, hu2, by rw [HG.out]; exact HNEW.out _ HF23.out⟩
    case neg =>
      have e2 : (x10 == 1) = false := beq_eq_false_iff_ne.2 h2
      go_wp2_with fail
      go_ret
      exact ⟨T, rfl, by omega, by rw [HG.out]; exact HNEW.out _ HF14.out⟩

end Go.Proofs.YtbkfgaibcoekgaaDoor
