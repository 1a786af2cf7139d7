/-
  Some texts of this proof in one: CsU CsV. Each part tells what it proves. By an AI agent.
-/
import Derived.Test.YtbcmnhppodfhpaaGreatCsN
import Derived.Test.YtbcmnhppodfhpaaGreatPlO
import Derived.Deep.RegionLaw

/-
  What the law of the cells' edges draws. By an AI agent.
-/
namespace Go.Proofs.YtbcmnhppodfhpaaGreat
open Go.RowKit

theorem Cur.dr {w : World} {c n : Nat} (h : Cur w c n) : Cur w.drew c n := h.below (Below.refl _ _).drew
theorem Cur.al {w : World} {c n : Nat} {o : Obj} (h : Cur w c n) : Cur (w.alloc o) c n := h.below (bal_alloc (Below.refl _ _))
theorem RowT.reads {w : World} {B : Nat} {v : Value} {l : List Tm} (h : RowT w B v l) : ReadsT w v l := by
  rcases h.2 with ⟨e, e2⟩ | ⟨g, cap, cur, e, _, _, _⟩
  · have hl := h.1
    have : l = [] := List.eq_nil_of_length_eq_zero (by omega)
    subst this
    exact Or.inl ⟨e, rfl⟩
  · refine Or.inr ⟨g, 0, cap, e, ?_⟩
    subst e
    exact RowT.rd h

set_option maxHeartbeats 6400000 in
set_option maxRecDepth 100000 in
theorem drawHaveSameCells_c (ad : Option Addr) (len cap : Nat) (w : World) (hl : len ≤ 9223372036854775807) (hr : RdB w ad len) :
    Calls Tryz.prog 21 #[.slice ad len cap] w (DrwTwo w) := by
  have hc := cur_new (cap := cap) hr hl
  have hb1 : Below w.heap.size w (w.alloc (.cells #[.slice ad len cap, .int .i64 0, .int .u64 0] 78)) := (Below.refl _ _).alloc (Nat.le_refl _) _
  have hs1 : (w.alloc (.cells #[.slice ad len cap, .int .i64 0, .int .u64 0] 78)).heap.size = w.heap.size + 1 := by simp
  clear hr hl
  obtain ⟨c, hcd⟩ : ∃ c, w.heap.size = c := ⟨_, rfl⟩
  rw [hcd] at hc hs1
  have hwc : w.heap.size ≤ c := by omega
  have HC := Lib.hid hc; have HB := Lib.hid hb1; clear hc hb1
  go_enter Tryz.func21, Tryz.ntmps21
  go_wp2_with fail
  refine (anyPlane_c c 0 _ HC.out (by omega)).mono ?_
  rintro e w1 ⟨v, l, rfl, hrow, hll, hcu, hch⟩
  have hll : l.length ≤ 13 := hll
  rw [hs1] at hrow
  obtain ⟨ad1, cap1, rfl, hcap1, _⟩ := hrow.shape
  have B1 := Lib.hid (bchg HB.out hch hwc HB.out.size)
  have R1 := Lib.hid hrow
  have U1 := Lib.hid hcu
  clear hcu hch HC HB hrow hs1
  go_wp2_with fail
  refine (one_c 4 c (0 + 200) w1 U1.out (by omega)).mono ?_
  rintro e w2 ⟨bb, rfl, hcu, hch⟩
  have B2 := Lib.hid (bchg B1.out hch hwc B1.out.size)
  have R2 := Lib.hid (show RowT w2 _ _ l from row_chg R1.out hch (by omega))
  have U2 := Lib.hid hcu
  clear hcu hch B1 R1 U1
  cases bb
  case true =>
    go_wp2_with fail
    refine (anyPlane_c c (0 + 200 + 2) w2 U2.out (by omega)).mono ?_
    rintro e w3 ⟨v2, l2, rfl, hrow2, hll2, hcu, hch⟩
    have hll2 : l2.length ≤ 13 := hll2
    obtain ⟨ad2, cap2, rfl, hcap2, _⟩ := hrow2.shape
    have B3 := bchg B2.out hch hwc B2.out.size
    have R3 := Lib.hid (RowT.rd (show RowT w3 _ _ l from row_chg R2.out hch (by omega)))
    have R4 := Lib.hid (RowT.rd hrow2)
    clear hcu hch B2 R2 U2 hrow2
    go_wp2_with fail
    exact bodyPost_ret (v := .tuple #[.slice ad1 l.length cap1, .slice ad2 l2.length cap2]) (by simp [results, Tryz.results21, go_sem]) rfl ⟨ad1, cap1, l, ad2, cap2, l2, rfl, ⟨hll, hll2⟩, R3.out, R4.out, B3⟩
  case false =>
    have hsz2 := B2.out.size
    have U2S := Lib.hid hsz2
    have HO := Lib.hid (rowY_new w2 w2.heap.size w2.heap.size (Nat.le_refl _) rfl)
    have HX := Lib.hid R2.out.reads
    obtain ⟨nl, hnl⟩ : ∃ z, l.length = z := ⟨_, rfl⟩
    have HNL := Lib.hid hnl
    have hcl := U2.out.lt
    rw [hnl] at R2 hll HX ⊢
    by_cases h0 : 0 < nl
    case neg =>
      obtain rfl : nl = 0 := by omega
      go_wp2_with (at_builtin; refine wpList_appT rfl _ _ rfl w2.heap.size _ _ [] l rfl rfl HO.out HX.out.alloc' (by simp) (by rw [HNL.out]; omega) (by simp) ?_; intro ad5 cap5 N5 w5 hN5 hown hbm hgr)
      rw [List.nil_append] at hown
      have hN6 : 0 = N5 := by rw [hN5, HNL.out]; simp
      subst hN6
      clear hnl hN5
      have hb5 : Below w2.heap.size w2 w5 := ((Below.refl w2.heap.size w2).alloc (Nat.le_refl _) _).trans hbm
      have U5 := Lib.hid (U2.out.below hb5)
      have B5 := Lib.hid (ball B2.out hb5)
      have R5 := Lib.hid (show RowT w5 _ _ l from RowT.below R2.out hb5)
      have R2' := Lib.hid R2.out
      have HC25 := Lib.hid (Chg.of_below (b := c) hb5)
      have hs5 := hb5.size
      rw [← HNL.out] at hown
      have HOW := Lib.hid hown
      clear hown hbm hgr hb5 HO HX U2 B2 R2
      obtain ⟨_, _, e5, hcap5, _⟩ := HOW.out.shape
      have R6 := Lib.hid (RowT.rd HOW.out)
      go_wp2_with fail
      exact bodyPost_ret (v := .tuple #[.slice ad1 0 cap1, .slice ad5 0 cap5]) (by simp [results, Tryz.results21, go_sem]) rfl ⟨ad1, cap1, l, ad5, cap5, l, by rw [HNL.out], ⟨by rw [HNL.out]; exact hll, by rw [HNL.out]; exact hll⟩, R5.out.rd, R6.out, B5.out⟩
    case pos =>
      have d1 : decide (0 < (nl : Int)) = true := decide_eq_true (by omega)
      have d2 : decide (0 < nl) = true := decide_eq_true h0
      go_wp2_with (at_builtin; refine wpList_appT rfl _ _ rfl w2.heap.size _ _ [] l rfl rfl HO.out HX.out.alloc' (by simp) (by rw [HNL.out]; omega) (by simp) ?_; intro ad5 cap5 N5 w5 hN5 hown hbm hgr)
      rw [List.nil_append] at hown
      have hN6 : nl = N5 := by rw [hN5, HNL.out]; simp
      subst hN6
      clear hnl hN5
      have hb5 : Below w2.heap.size w2 w5 := ((Below.refl w2.heap.size w2).alloc (Nat.le_refl _) _).trans hbm
      have U5 := Lib.hid (U2.out.below hb5)
      have B5 := Lib.hid (ball B2.out hb5)
      have R5 := Lib.hid (show RowT w5 _ _ l from RowT.below R2.out hb5)
      have R2' := Lib.hid R2.out
      have HC25 := Lib.hid (Chg.of_below (b := c) hb5)
      have hs5 := hb5.size
      rw [← HNL.out] at hown
      have HOW := Lib.hid hown
      clear hown hbm hgr hb5 HO HX U2 B2 R2
      obtain ⟨_, _, e5, hcap5, _⟩ := HOW.out.shape
      have hO5 := HOW.out.own (by rw [HNL.out]; exact h0)
      obtain ⟨g, cg, e5, hBg, hg5⟩ := hO5
      injection e5 with e5 _ e6
      subst e5
      clear e6
      obtain ⟨F, hF⟩ : ∃ F : Nat → Int, F = fun j => (l.getD j default).c := ⟨_, rfl⟩
      have HLD := Lib.hid (fun (u : World) (h : RowT u w2.heap.size (.slice (some ⟨g, 0, none⟩) l.length cap5) l) p (hp : p < nl) => show u.cell? ⟨g, p * 3 + 2, none⟩ = some (.int .i64 (F p)) from by
        have cz := World.ownsRow.cellAt h (p * 3 + 2) (by rw [HNL.out]; omega)
        rw [(tmsV_get (show p < l.length by rw [HNL.out]; exact hp)).2.2] at cz
        rw [hF]
        exact cz)
      have HFZ := Lib.hid (fun (u : World) (h : RowT u w2.heap.size (.slice (some ⟨g, 0, none⟩) l.length cap5) l) p => World.ownsRow.frozenAt h (p * 3 + 2))
      have hcl5 := U5.out.lt
      have AM := Lib.hid (fun (gl n : Nat) (u : World) (h : Cur u c n) (hn : n ≤ 4611686018427387901) (hg : gl ≠ c) (ho : Own u gl 3 (ints [0, 1, (-1), 2])) => show Calls Tryz.prog 54 #[.pointer (some ⟨c, 0, none⟩), .slice (some ⟨gl, 0, none⟩) 4 4] u (SomeI (fun x => x ∈ ([0, 1, (-1), 2] : List Int)) c (n + 2) u) from among_c gl 4 [0, 1, (-1), 2] c n u h hn (by simp) (by simp) hg ho)
      clear hF
      go_wp2_with fail
      go_region_law (first
        | (go_simp; go_at_call 53; (with_reducible refine (pick_c (nl : Int) c (0 + 200 + 2) _ (by with_reducible repeat (first | exact U5.out | apply Cur.al | apply Cur.dr)) (by omega)).mono ?_); rintro e W1 ⟨y, rfl, hy, hcu, hch⟩; obtain ⟨p, rfl⟩ : ∃ p : Nat, y = (p : Int) := ⟨y.toNat, by omega⟩; have hchD : Chg c w5 W1 := Chg.trans (Chg.of_below (by with_reducible repeat (first | exact Below.refl _ _ | apply Below.drew | apply bal_alloc))) hch; have U6 := Lib.hid hcu; have R6 := Lib.hid (show RowT W1 w2.heap.size (.slice (some ⟨g, 0, none⟩) l.length cap5) l from row_chg HOW.out hchD (by omega)); have HC6 := Lib.hid hchD; have hpk : p < nl := (by omega); have k0 := HLD.out W1 R6.out p hpk; have k1 : ∀ o, (W1.alloc o).cell? ⟨g, p * 3 + 2, none⟩ = some (.int .i64 (F p)) := (fun o => cell_alloc' k0); have x1 : (0 : Int) ≤ (p : Int) := (by omega); have x2 : (p : Int) < (nl : Int) := (by omega); try (have HLI := Lib.hid (show Own W1 w5.heap.size 3 (ints [0, 1, (-1), 2]) from Own.chg (by first | exact (Own.newA _ _ 3 rfl).drew | exact (Own.newA _ _ 3 rfl)) hch (by omega))); clear hcu hch hchD hy)
        | (go_simp; go_at_call 54; (with_reducible refine (AM.out W1.heap.size (0 + 200 + 2 + 2) _ (by with_reducible repeat (first | exact U6.out | apply Cur.al | apply Cur.dr)) (by omega) (by have := U6.out.lt; omega) (by with_reducible first | exact (Own.newA _ _ 3 rfl).drew | exact (Own.newA _ _ 3 rfl))).mono ?_); rintro e W3 ⟨z, rfl, -, hcu, hch⟩; have hchD : Chg c W1 W3 := Chg.trans (Chg.of_below (by with_reducible repeat (first | exact Below.refl _ _ | apply Below.drew | apply bal_alloc))) hch; have R7 := Lib.hid (show RowT W3 w2.heap.size (.slice (some ⟨g, 0, none⟩) l.length cap5) l from row_chg R6.out hchD (by omega)); have HC7 := Lib.hid (HC6.out.trans hchD); have m0 := HLD.out W3 R7.out p hpk; have m1 := HFZ.out W3 R7.out p; clear hcu hch hchD)
        | (go_simp; go_at_call 54; (with_reducible refine (AM.out w5.heap.size (0 + 200 + 2 + 2) _ (by with_reducible repeat (first | exact U6.out | apply Cur.al | apply Cur.dr)) (by omega) (by have := U5.out.lt; omega) HLI.out).mono ?_); rintro e W3 ⟨z, rfl, -, hcu, hch⟩; have hchD : Chg c W1 W3 := Chg.trans (Chg.of_below (by with_reducible repeat (first | exact Below.refl _ _ | apply Below.drew | apply bal_alloc))) hch; have R7 := Lib.hid (show RowT W3 w2.heap.size (.slice (some ⟨g, 0, none⟩) l.length cap5) l from row_chg R6.out hchD (by omega)); have HC7 := Lib.hid (HC6.out.trans hchD); have m0 := HLD.out W3 R7.out p hpk; have m1 := HFZ.out W3 R7.out p; clear hcu hch hchD)
        | fail)
      all_goals
        have HSET := Lib.hid (RowT.set2 (by exact R7.out) (show p < l.length by rw [HNL.out]; exact hpk) (IntKind.i64.wrap (F p + z)))
        have hbS := (Below.refl w2.heap.size W3).setCell (p := ⟨g, p * 3 + 2, none⟩) hBg (.int .i64 (IntKind.i64.wrap (F p + z)))
        have HCT := (HC25.out.trans HC7.out).under hbS (Nat.le_refl _) (by simp)
        have RA := Lib.hid (RowT.rd (show RowT (W3.setCell ⟨g, p * 3 + 2, none⟩ (.int .i64 (IntKind.i64.wrap (F p + z)))) _ _ l from row_chg R2'.out HCT (by omega)))
        have BF := Lib.hid ((bchg B5.out HC7.out hwc B5.out.size).setCell (p := ⟨g, p * 3 + 2, none⟩) (show w.heap.size ≤ g by have := U2S.out; omega) (.int .i64 (IntKind.i64.wrap (F p + z))))
        obtain ⟨l2, hl2⟩ : ∃ z2, l.set p ⟨(l.getD p default).i, (l.getD p default).j, IntKind.i64.wrap (F p + z)⟩ = z2 := ⟨_, rfl⟩
        have hsl : l2.length = nl := by rw [← hl2, List.length_set, HNL.out]
        rw [hl2] at HSET
        have RB := Lib.hid (RowT.rd HSET.out)
        have HSL := Lib.hid hsl
        clear hl2 hsl hbS HCT HSET m0 m1
        go_wp2_with fail
        exact bodyPost_ret (v := .tuple #[.slice ad1 nl cap1, .slice (some ⟨g, 0, none⟩) nl cap5]) (by simp [results, Tryz.results21, go_sem]) rfl ⟨ad1, cap1, l, some ⟨g, 0, none⟩, cap5, l2, by rw [HNL.out, HSL.out], ⟨by rw [HNL.out]; exact hll, by rw [HSL.out]; exact hll⟩, RA.out, RB.out, BF.out⟩
end Go.Proofs.YtbcmnhppodfhpaaGreat

/-
  DrawEdgeLength and DrawInnerEdges. By an AI agent.
-/
namespace Go.Proofs.YtbcmnhppodfhpaaGreat
open Go.RowKit

def DrwEdg (w : World) (e : Ending) (w' : World) : Prop := ∃ ad1 cap1 l x y, e = .returned (.tuple #[.slice ad1 (List.length l) cap1, .int .i64 x, .int .i64 y]) ∧ List.length l ≤ 13 ∧ (Wf x ∧ Wf y) ∧ RdT w' ad1 l ∧ Below w.heap.size w w'
def DrwPln (w : World) (e : Ending) (w' : World) : Prop := ∃ ad1 cap1 l, e = .returned (.slice ad1 (List.length l) cap1) ∧ List.length l ≤ 13 ∧ RdT w' ad1 l ∧ Below w.heap.size w w'

set_option maxHeartbeats 3200000 in
set_option maxRecDepth 100000 in
theorem drawCellsOf_c (ad : Option Addr) (len cap : Nat) (w : World) (hl : len ≤ 9223372036854775807) (hr : RdB w ad len) :
    Calls Tryz.prog 25 #[.slice ad len cap] w (DrwPln w) := by
  have hc := cur_new (cap := cap) hr hl
  have hb1 : Below w.heap.size w (w.alloc (.cells #[.slice ad len cap, .int .i64 0, .int .u64 0] 78)) := (Below.refl _ _).alloc (Nat.le_refl _) _
  have hs1 : (w.alloc (.cells #[.slice ad len cap, .int .i64 0, .int .u64 0] 78)).heap.size = w.heap.size + 1 := by simp
  clear hr hl
  obtain ⟨c, hcd⟩ : ∃ c, w.heap.size = c := ⟨_, rfl⟩
  rw [hcd] at hc hs1
  have hwc : w.heap.size ≤ c := by omega
  have HC := Lib.hid hc; have HB := Lib.hid hb1; clear hc hb1
  go_enter Tryz.func25, Tryz.ntmps25
  go_wp2_with fail
  refine (anyPlane_c c 0 _ HC.out (by omega)).mono ?_
  rintro e w1 ⟨v, l, rfl, hrow, hll, hcu, hch⟩
  have hll : l.length ≤ 13 := hll
  obtain ⟨ad1, cap1, rfl, hcap1, _⟩ := hrow.shape
  have B1 := Lib.hid (bchg HB.out hch hwc HB.out.size)
  have R1 := Lib.hid (RowT.rd hrow)
  clear hcu hch HC HB hrow hs1
  go_wp2_with fail
  go_ret
  exact ⟨ad1, cap1, l, rfl, hll, R1.out, B1.out⟩
theorem drawInnerEdges_c (ad : Option Addr) (len cap : Nat) (w : World) (hl : len ≤ 9223372036854775807) (hr : RdB w ad len) :
    Calls Tryz.prog 5 #[.slice ad len cap] w (DrwPln w) := by
  have C := Lib.hid (drawCellsOf_c ad len cap w hl hr); clear hl hr
  go_enter Tryz.func5, Tryz.ntmps5
  go_wp2_with fail
  refine C.out.mono ?_
  rintro e w1 ⟨ad1, cap1, l, rfl, h1, h2, h3⟩
  go_wp2_with fail
  go_ret
  exact ⟨ad1, cap1, l, rfl, h1, h2, h3⟩

set_option maxHeartbeats 6400000 in
set_option maxRecDepth 100000 in
theorem drawEdgeLength_c (ad : Option Addr) (len cap : Nat) (w : World) (hl : len ≤ 9223372036854775807) (hr : RdB w ad len) :
    Calls Tryz.prog 23 #[.slice ad len cap] w (DrwEdg w) := by
  have hc := cur_new (cap := cap) hr hl
  have hb1 : Below w.heap.size w (w.alloc (.cells #[.slice ad len cap, .int .i64 0, .int .u64 0] 78)) := (Below.refl _ _).alloc (Nat.le_refl _) _
  have hs1 : (w.alloc (.cells #[.slice ad len cap, .int .i64 0, .int .u64 0] 78)).heap.size = w.heap.size + 1 := by simp
  clear hr hl
  obtain ⟨c, hcd⟩ : ∃ c, w.heap.size = c := ⟨_, rfl⟩
  rw [hcd] at hc hs1
  have hwc : w.heap.size ≤ c := by omega
  have HC := Lib.hid hc; have HB := Lib.hid hb1; clear hc hb1
  go_enter Tryz.func23, Tryz.ntmps23
  go_wp2_with fail
  refine (anyPlane_c c 0 _ HC.out (by omega)).mono ?_
  rintro e w1 ⟨v, l, rfl, hrow, hll, hcu, hch⟩
  have hll : l.length ≤ 13 := hll
  rw [hs1] at hrow
  obtain ⟨ad1, cap1, rfl, hcap1, _⟩ := hrow.shape
  have B1 := Lib.hid (bchg HB.out hch hwc HB.out.size)
  have R1 := Lib.hid hrow
  have U1 := Lib.hid hcu
  have CG := plGood_c ad1 cap1 l w1 (RowT.rd hrow) (by omega)
  obtain ⟨nl, hnl⟩ : ∃ z, l.length = z := ⟨_, rfl⟩
  have HNL := Lib.hid hnl
  rw [hnl] at CG hll ⊢
  obtain ⟨PB, hPB⟩ : ∃ z, planeB l = z := ⟨_, rfl⟩
  rw [hPB] at CG
  have CG := Lib.hid CG
  clear hcu hch HC HB hrow hs1 hnl
  go_wp2_with fail
  refine CG.out.mono ?_
  rintro e w2 ⟨rfl, hb2⟩
  have hcl1 := U1.out.lt
  have B2 := Lib.hid (ball B1.out hb2)
  have R2 := Lib.hid (RowT.below R1.out hb2)
  have U2 := Lib.hid (U1.out.below hb2)
  have hs2 := hb2.size
  clear hb2 R1 B1 U1 CG
  cases PB
  case false =>
    clear hPB
    go_wp2_with fail
    obtain ⟨WA, hWA⟩ : ∃ u, u = w2.alloc (.cells #[.int .i64 0, .int .i64 1, .int .i64 (-1), .int .i64 2] 3) := ⟨_, rfl⟩
    have hbA : Below w2.heap.size w2 WA := by rw [hWA]; exact bal_alloc (Below.refl _ _)
    have hOA : Own WA w2.heap.size 3 (ints [0, 1, (-1), 2]) := by rw [hWA]; exact Own.new w2 [.int .i64 0, .int .i64 1, .int .i64 (-1), .int .i64 2] 3
    have UA := Lib.hid (U2.out.below hbA)
    have BA := Lib.hid (ball B2.out hbA)
    have RA := Lib.hid (RowT.below R2.out hbA)
    have hcA := U2.out.lt
    rw [← hWA]
    clear hWA hbA
    refine (among_c w2.heap.size 4 [0, 1, (-1), 2] c (0 + 200) WA UA.out (by omega) (by simp) (by simp) (by omega) hOA).mono ?_
    rintro e WB ⟨x, rfl, hx, hcu, hch⟩
    have hwx : Wf x := by
      simp only [List.mem_cons, List.not_mem_nil, or_false] at hx
      rcases hx with rfl | rfl | rfl | rfl <;> exact WalkArith.wf_i64 (by omega)
    have BB := Lib.hid (bchg BA.out hch hwc BA.out.size)
    have RB := Lib.hid (show RowT WB _ _ l from row_chg RA.out hch (by omega))
    have UB := Lib.hid hcu
    clear hcu hch UA BA RA hOA hx
    go_wp2_with fail
    obtain ⟨WC, hWC⟩ : ∃ u, u = WB.alloc (.cells #[.int .i64 1, .int .i64 2, .int .i64 3, .int .i64 12, .int .i64 (-9223372036854775808)] 3) := ⟨_, rfl⟩
    have hbC : Below WB.heap.size WB WC := by rw [hWC]; exact bal_alloc (Below.refl _ _)
    have hOC : Own WC WB.heap.size 3 (ints [1, 2, 3, 12, (-9223372036854775808)]) := by rw [hWC]; exact Own.new WB [.int .i64 1, .int .i64 2, .int .i64 3, .int .i64 12, .int .i64 (-9223372036854775808)] 3
    have UC := Lib.hid (UB.out.below hbC)
    have BC := Lib.hid (ball BB.out hbC)
    have RC := Lib.hid (RowT.below RB.out hbC)
    have hcC := UB.out.lt
    rw [← hWC]
    clear hWC hbC
    refine (among_c WB.heap.size 5 [1, 2, 3, 12, (-9223372036854775808)] c (0 + 200 + 2) WC UC.out (by omega) (by simp) (by simp) (by omega) hOC).mono ?_
    rintro e WD ⟨y, rfl, hy, hcu, hch⟩
    have hwy : Wf y := by
      simp only [List.mem_cons, List.not_mem_nil, or_false] at hy
      rcases hy with rfl | rfl | rfl | rfl | rfl <;> exact WalkArith.wf_i64 (by omega)
    have BD := Lib.hid (bchg BC.out hch hwc BC.out.size)
    have RD := Lib.hid (RowT.rd (show RowT WD _ _ l from row_chg RC.out hch (by omega)))
    clear hcu hch UC BC RC hOC hy
    go_wp2_with fail
    exact bodyPost_ret (v := .tuple #[.slice ad1 nl cap1, .int .i64 x, .int .i64 y]) (by simp [results, Tryz.results23, go_sem]) rfl ⟨ad1, cap1, l, x, y, by rw [HNL.out], by rw [HNL.out]; exact hll, ⟨hwx, hwy⟩, RD.out, BD.out⟩
  case true =>
    obtain ⟨h0, h12, hp⟩ := planeB_t hPB
    have hd := plane_dist hPB
    have hrd := RowT.rd R2.out
    obtain ⟨bl, ol, rfl, _⟩ := hrd 0 h0
    have CE := ceEdges_c bl ol cap1 l false w2 (by simpa using hrd) hp h12 h0 hd
    have hel := edgA_len h12
    have HTW := Lib.hid (fun j (hj : j < (edgA l).length) => edgA_two hd (show (edgA l).getD j [] ∈ edgA l by rw [List.getD_eq_getElem?_getD, List.getElem?_eq_getElem hj]; exact List.getElem_mem _))
    rw [if_neg (by simp)] at CE
    rw [HNL.out] at CE h12
    generalize edgA l = E at CE HTW hel
    obtain ⟨m, hm⟩ : ∃ z, E.length = z := ⟨_, rfl⟩
    have HM := Lib.hid hm
    unfold PutR at CE
    rw [hm] at CE HTW hel
    have CE := Lib.hid CE
    clear hPB h0 hp hd hrd hm
    go_wp2_with fail
    refine CE.out.mono ?_
    rintro e w3 ⟨adE, capE, vsE, rfl, hmE, hb3⟩
    have hcl2 := U2.out.lt
    have HME := Lib.hid hmE
    have B3 := Lib.hid (ball B2.out hb3)
    have R3 := Lib.hid (RowT.below R2.out hb3)
    have U3 := Lib.hid (U2.out.below hb3)
    clear hb3 R2 B2 U2 CE hmE
    by_cases h0 : 0 < m
    case neg =>
      obtain rfl : m = 0 := by omega
      go_wp2_with fail
      obtain ⟨WA, hWA⟩ : ∃ u, u = w3.alloc (.cells #[.int .i64 0, .int .i64 1, .int .i64 (-1), .int .i64 2] 3) := ⟨_, rfl⟩
      have hbA : Below w3.heap.size w3 WA := by rw [hWA]; exact bal_alloc (Below.refl _ _)
      have hOA : Own WA w3.heap.size 3 (ints [0, 1, (-1), 2]) := by rw [hWA]; exact Own.new w3 [.int .i64 0, .int .i64 1, .int .i64 (-1), .int .i64 2] 3
      have UA := Lib.hid (U3.out.below hbA)
      have BA := Lib.hid (ball B3.out hbA)
      have RA := Lib.hid (RowT.below R3.out hbA)
      have hcA := U3.out.lt
      rw [← hWA]
      clear hWA hbA
      refine (among_c w3.heap.size 4 [0, 1, (-1), 2] c (0 + 200) WA UA.out (by omega) (by simp) (by simp) (by omega) hOA).mono ?_
      rintro e WB ⟨x, rfl, hx, hcu, hch⟩
      have hwx : Wf x := by
        simp only [List.mem_cons, List.not_mem_nil, or_false] at hx
        rcases hx with rfl | rfl | rfl | rfl <;> exact WalkArith.wf_i64 (by omega)
      have BB := Lib.hid (bchg BA.out hch hwc BA.out.size)
      have RB := Lib.hid (show RowT WB _ _ l from row_chg RA.out hch (by omega))
      have UB := Lib.hid hcu
      clear hcu hch UA BA RA hOA hx
      go_wp2_with fail
      obtain ⟨WC, hWC⟩ : ∃ u, u = WB.alloc (.cells #[.int .i64 1, .int .i64 2, .int .i64 3, .int .i64 12, .int .i64 (-9223372036854775808)] 3) := ⟨_, rfl⟩
      have hbC : Below WB.heap.size WB WC := by rw [hWC]; exact bal_alloc (Below.refl _ _)
      have hOC : Own WC WB.heap.size 3 (ints [1, 2, 3, 12, (-9223372036854775808)]) := by rw [hWC]; exact Own.new WB [.int .i64 1, .int .i64 2, .int .i64 3, .int .i64 12, .int .i64 (-9223372036854775808)] 3
      have UC := Lib.hid (UB.out.below hbC)
      have BC := Lib.hid (ball BB.out hbC)
      have RC := Lib.hid (RowT.below RB.out hbC)
      have hcC := UB.out.lt
      rw [← hWC]
      clear hWC hbC
      refine (among_c WB.heap.size 5 [1, 2, 3, 12, (-9223372036854775808)] c (0 + 200 + 2) WC UC.out (by omega) (by simp) (by simp) (by omega) hOC).mono ?_
      rintro e WD ⟨y, rfl, hy, hcu, hch⟩
      have hwy : Wf y := by
        simp only [List.mem_cons, List.not_mem_nil, or_false] at hy
        rcases hy with rfl | rfl | rfl | rfl | rfl <;> exact WalkArith.wf_i64 (by omega)
      have BD := Lib.hid (bchg BC.out hch hwc BC.out.size)
      have RD := Lib.hid (RowT.rd (show RowT WD _ _ l from row_chg RC.out hch (by omega)))
      clear hcu hch UC BC RC hOC hy
      go_wp2_with fail
      exact bodyPost_ret (v := .tuple #[.slice (some ⟨bl, ol, none⟩) nl cap1, .int .i64 x, .int .i64 y]) (by simp [results, Tryz.results23, go_sem]) rfl ⟨some ⟨bl, ol, none⟩, cap1, l, x, y, by rw [HNL.out], by rw [HNL.out]; exact hll, ⟨hwx, hwy⟩, RD.out, BD.out⟩
    case pos =>
      have d1 : decide (0 < (m : Int)) = true := decide_eq_true (by omega)
      have d2 : decide (0 < m) = true := decide_eq_true h0
      go_wp2_with fail
      refine (one_c 4 c (0 + 200) w3 U3.out (by omega)).mono ?_
      rintro e w4 ⟨b4, rfl, hcu, hch⟩
      have B4 := Lib.hid (bchg B3.out hch hwc B3.out.size)
      have R4 := Lib.hid (show RowT w4 _ _ l from row_chg R3.out hch (by omega))
      have U4 := Lib.hid hcu
      have HME4 := Lib.hid (HME.out.chg hch (by omega) (by omega))
      clear hcu hch B3 R3 U3 HME
      cases b4
      case true =>
        go_wp2_with fail
        obtain ⟨WA, hWA⟩ : ∃ u, u = w4.alloc (.cells #[.int .i64 0, .int .i64 1, .int .i64 (-1), .int .i64 2] 3) := ⟨_, rfl⟩
        have hbA : Below w4.heap.size w4 WA := by rw [hWA]; exact bal_alloc (Below.refl _ _)
        have hOA : Own WA w4.heap.size 3 (ints [0, 1, (-1), 2]) := by rw [hWA]; exact Own.new w4 [.int .i64 0, .int .i64 1, .int .i64 (-1), .int .i64 2] 3
        have UA := Lib.hid (U4.out.below hbA)
        have BA := Lib.hid (ball B4.out hbA)
        have RA := Lib.hid (RowT.below R4.out hbA)
        have hcA := U4.out.lt
        rw [← hWA]
        clear hWA hbA
        refine (among_c w4.heap.size 4 [0, 1, (-1), 2] c (0 + 200 + 2) WA UA.out (by omega) (by simp) (by simp) (by omega) hOA).mono ?_
        rintro e WB ⟨x, rfl, hx, hcu, hch⟩
        have hwx : Wf x := by
          simp only [List.mem_cons, List.not_mem_nil, or_false] at hx
          rcases hx with rfl | rfl | rfl | rfl <;> exact WalkArith.wf_i64 (by omega)
        have BB := Lib.hid (bchg BA.out hch hwc BA.out.size)
        have RB := Lib.hid (show RowT WB _ _ l from row_chg RA.out hch (by omega))
        have UB := Lib.hid hcu
        clear hcu hch UA BA RA hOA hx
        go_wp2_with fail
        obtain ⟨WC, hWC⟩ : ∃ u, u = WB.alloc (.cells #[.int .i64 1, .int .i64 2, .int .i64 3, .int .i64 12, .int .i64 (-9223372036854775808)] 3) := ⟨_, rfl⟩
        have hbC : Below WB.heap.size WB WC := by rw [hWC]; exact bal_alloc (Below.refl _ _)
        have hOC : Own WC WB.heap.size 3 (ints [1, 2, 3, 12, (-9223372036854775808)]) := by rw [hWC]; exact Own.new WB [.int .i64 1, .int .i64 2, .int .i64 3, .int .i64 12, .int .i64 (-9223372036854775808)] 3
        have UC := Lib.hid (UB.out.below hbC)
        have BC := Lib.hid (ball BB.out hbC)
        have RC := Lib.hid (RowT.below RB.out hbC)
        have hcC := UB.out.lt
        rw [← hWC]
        clear hWC hbC
        refine (among_c WB.heap.size 5 [1, 2, 3, 12, (-9223372036854775808)] c (0 + 200 + 2 + 2) WC UC.out (by omega) (by simp) (by simp) (by omega) hOC).mono ?_
        rintro e WD ⟨y, rfl, hy, hcu, hch⟩
        have hwy : Wf y := by
          simp only [List.mem_cons, List.not_mem_nil, or_false] at hy
          rcases hy with rfl | rfl | rfl | rfl | rfl <;> exact WalkArith.wf_i64 (by omega)
        have BD := Lib.hid (bchg BC.out hch hwc BC.out.size)
        have RD := Lib.hid (RowT.rd (show RowT WD _ _ l from row_chg RC.out hch (by omega)))
        clear hcu hch UC BC RC hOC hy
        go_wp2_with fail
        exact bodyPost_ret (v := .tuple #[.slice (some ⟨bl, ol, none⟩) nl cap1, .int .i64 x, .int .i64 y]) (by simp [results, Tryz.results23, go_sem]) rfl ⟨some ⟨bl, ol, none⟩, cap1, l, x, y, by rw [HNL.out], by rw [HNL.out]; exact hll, ⟨hwx, hwy⟩, RD.out, BD.out⟩
      case false =>
        go_wp2_with fail
        refine (pick_c (m : Int) c (0 + 200 + 2) w4 U4.out (by omega)).mono ?_
        rintro e w5 ⟨y, rfl, hy, hcu, hch⟩
        obtain ⟨p, rfl⟩ : ∃ p : Nat, y = (p : Int) := ⟨y.toNat, by omega⟩
        have hpm : p < m := by omega
        have B5 := Lib.hid (bchg B4.out hch hwc B4.out.size)
        have R5 := Lib.hid (show RowT w5 _ _ l from row_chg R4.out hch (by omega))
        have U5 := Lib.hid hcu
        have HME5 := Lib.hid (HME4.out.chg hch (by omega) (by omega))
        obtain ⟨bE, aE, cE, hadE, hbE, kE, hrE⟩ := HME5.out.atC (i := p) (by rw [HM.out]; exact hpm)
        subst hadE
        obtain ⟨ea, eb, he, ha0, hab, hbl⟩ := HTW.out p hpm
        rw [he] at kE hrE
        have e2 : ([ea, eb] : List Int).length = 2 := rfl
        rw [e2] at kE hrE
        have x1 : (0 : Int) ≤ (p : Int) := by omega
        have x2 : (p : Int) < (m : Int) := by omega
        have HRE := Lib.hid hrE
        have HWF := Lib.hid (show Wf ea ∧ Wf eb from by have := HNL.out; exact ⟨wf_nat (by omega) (by omega), wf_nat (by omega) (by omega)⟩)
        clear hcu hch B4 R4 U4 HME4 hy he ha0 hab hbl hrE e2
        go_wp2_with fail
        refine (one_c 8 c (0 + 200 + 2 + 2) w5 U5.out (by omega)).mono ?_
        rintro e w6 ⟨b6, rfl, hcu, hch⟩
        have B6 := Lib.hid (bchg B5.out hch hwc B5.out.size)
        have R6 := Lib.hid (RowT.rd (show RowT w6 _ _ l from row_chg R5.out hch (by omega)))
        have hcj := HRE.out
        have hcj6 : CellO w6 _ (.slice aE 2 cE) [ea, eb] := hcj.of_block fun q hq => hch.block q (hcj.lt hq).2 (by have := (hcj.lt hq).1; omega)
        have hrF := hcj6.rd
        obtain ⟨g2, o2, rfl, _, q0⟩ := hrF 0 (by simp)
        have q1 := hrF.at (j := 1) (by simp)
        rw [Nat.add_zero] at q0
        have q0 : w6.cell? ⟨g2, o2, none⟩ = some (.int .i64 ea) := q0
        have q1 : w6.cell? ⟨g2, o2 + 1, none⟩ = some (.int .i64 eb) := q1
        have f0 : (0 : Int) < 2 := by omega
        clear hcu hch hcj hcj6 hrF B5 R5 U5 HME5 HRE
        cases b6
        all_goals
          go_wp2_with fail
          go_quiet (fail)
          have B7 := Lib.hid (bdrewN B6.out nq)
          have R7 := Lib.hid (RdT.below R6.out (bdrewN (Below.refl _ _) nq))
          go_wp2_with fail
        · exact bodyPost_ret (v := .tuple #[.slice (some ⟨bl, ol, none⟩) nl cap1, .int .i64 ea, .int .i64 eb]) (by simp [results, Tryz.results23, go_sem]) rfl ⟨some ⟨bl, ol, none⟩, cap1, l, ea, eb, by rw [HNL.out], by rw [HNL.out]; exact hll, HWF.out, R7.out, B7.out⟩
        · exact bodyPost_ret (v := .tuple #[.slice (some ⟨bl, ol, none⟩) nl cap1, .int .i64 eb, .int .i64 ea]) (by simp [results, Tryz.results23, go_sem]) rfl ⟨some ⟨bl, ol, none⟩, cap1, l, eb, ea, by rw [HNL.out], by rw [HNL.out]; exact hll, ⟨HWF.out.2, HWF.out.1⟩, R7.out, B7.out⟩
end Go.Proofs.YtbcmnhppodfhpaaGreat
