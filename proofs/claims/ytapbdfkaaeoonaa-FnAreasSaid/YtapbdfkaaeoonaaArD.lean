/-
  The draws of FnAreas: two polygons, one, one and a point. By an AI agent.
-/
import Derived.Test.YtapbdfkaaeoonaaArC
import Derived.Test.YtapbdfkaaeoonaaOpenB
namespace Go.Proofs.Ytapbdfkaaeoonaa
open Go.RowKit

def TwoPD (w : World) (e : Ending) (w' : World) : Prop := ∃ (ad1 : Option Addr) (c1 : Nat) (l1 : List Pt) (ad2 : Option Addr) (c2 : Nat) (l2 : List Pt), e = .returned (.tuple #[.slice ad1 l1.length c1, .slice ad2 l2.length c2]) ∧ l1.length ≤ 80 ∧ l2.length ≤ 80 ∧ RdP w' ad1 l1 ∧ RdP w' ad2 l2 ∧ Below w.heap.size w w'

set_option maxHeartbeats 3200000 in
set_option maxRecDepth 100000 in
theorem drawSum_c (ad : Option Addr) (len cap : Nat) (w : World) (hl : len ≤ 9223372036854775807) (hr : RdB w ad len) :
    Calls Try.prog 21 #[.slice ad len cap] w (TwoPD w) := by
  have hc := cur_new (cap := cap) hr hl
  have hb1 : Below w.heap.size w (w.alloc (.cells #[.slice ad len cap, .int .i64 0, .int .u64 0] 46)) := (Below.refl _ _).alloc (Nat.le_refl _) _
  have hs1 : (w.alloc (.cells #[.slice ad len cap, .int .i64 0, .int .u64 0] 46)).heap.size = w.heap.size + 1 := by simp
  clear hr hl
  obtain ⟨c, hcd⟩ : ∃ c, w.heap.size = c := ⟨_, rfl⟩
  rw [hcd] at hc
  have hwc : w.heap.size ≤ c := by omega
  have HC := Lib.hid hc; have HB := Lib.hid hb1; clear hc hb1
  go_enter Try.func21, Try.ntmps21
  go_wp2_with fail
  refine (anyPolygon_c c 0 _ HC.out (by omega)).mono ?_
  rintro e w1 ⟨v, l, rfl, hrow, hll, hcu, hch⟩
  rw [hs1] at hrow
  have hll : l.length ≤ 80 := hll
  obtain ⟨ad1, cap1, rfl, hcap1, _⟩ := hrow.shape
  have B1 := Lib.hid (bchg HB.out hch hwc HB.out.size)
  have H1 := Lib.hid hcu
  have R1 := Lib.hid hrow
  have hz1 := hch.size
  rw [hs1] at hz1
  clear hcu hch HC HB hrow hs1
  go_wp2_with fail
  refine (one_c 4 c (0 + 2010) _ H1.out (by omega)).mono ?_
  rintro e w2 ⟨t, rfl, hcu, hch⟩
  have B2 := Lib.hid (bchg B1.out hch hwc B1.out.size)
  have H2 := Lib.hid hcu
  have R2 := Lib.hid (rowP_chg R1.out hch (by omega))
  have hz2 := hch.size
  clear hcu hch H1 B1 R1
  cases t
  case true =>
    have hBA := B2.out.alloc B2.out.size (.cells #[] 35)
    have hRA := RowP.alloc' (o := .cells #[] 35) R2.out
    have RA := Lib.hid hRA; have BA := Lib.hid hBA
    clear hBA hRA
    go_wp2_with (at_builtin; refine wpList_appR rfl _ _ rfl w2.heap.size _ (.slice ad1 l.length cap1) [] l rfl rfl (rowP_empty w2) (RowP.reads RA.out) (by simp) (by omega) (by simp) ?_; intro v3 w3 hown hbm hgr)
    have hb3 : Below w2.heap.size w2 w3 := ((Below.refl w2.heap.size w2).alloc (Nat.le_refl _) _).trans hbm
    obtain ⟨ad3, cap3, rfl, _, _⟩ := RowP.shape hown
    have R3 := Lib.hid (RowP.rd hown)
    have R4 := Lib.hid ((RowP.rd R2.out).below hb3)
    have hB := Lib.hid (ball B2.out hb3)
    clear hown hbm hgr
    go_wp2_with fail
    go_ret2
    exact ⟨_, _, l, _, _, [] ++ l, rfl, hll, by simpa using hll, R4.out, R3.out, hB.out⟩
  case false =>
    go_wp2_with fail
    refine (anyPolygon_c c (0 + 2010 + 2) _ H2.out (by omega)).mono ?_
    rintro e w3 ⟨v3, l3, rfl, hr3, hl3, hcu, hch⟩
    have hl3 : l3.length ≤ 80 := hl3
    obtain ⟨ad3, cap3, rfl, _, _⟩ := hr3.shape
    have R3 := Lib.hid (RowP.rd hr3)
    have R4 := Lib.hid (RowP.rd (rowP_chg R2.out hch (by omega)))
    have hB := Lib.hid (bchg B2.out hch hwc B2.out.size)
    clear hcu hch hr3
    go_wp2_with fail
    go_ret2
    exact ⟨_, _, l, _, _, l3, rfl, hll, hl3, R4.out, R3.out, hB.out⟩

set_option maxHeartbeats 3200000 in
theorem drawMixed_c (ad : Option Addr) (len cap : Nat) (w : World) (hl : len ≤ 9223372036854775807) (hr : RdB w ad len) :
    Calls Try.prog 4 #[.slice ad len cap] w (TwoPD w) := by
  have c1 := Lib.hid (drawSum_c ad len cap w hl hr)
  clear hl hr
  go_enter Try.func4, Try.ntmps4
  go_wp2_with fail
  refine c1.out.mono ?_
  rintro e w1 ⟨ad1, k1, l1, ad2, k2, l2, rfl, h1, h2, h3, h4, h5⟩
  have H3 := Lib.hid h3; have H4 := Lib.hid h4; have H5 := Lib.hid h5; clear h3 h4 h5
  go_wp2_with fail
  go_ret2
  exact ⟨_, _, l1, _, _, l2, rfl, h1, h2, H3.out, H4.out, H5.out⟩

def OnePD (w : World) (e : Ending) (w' : World) : Prop := ∃ (ad1 : Option Addr) (c1 : Nat) (l1 : List Pt), e = .returned (.slice ad1 l1.length c1) ∧ l1.length ≤ 80 ∧ RdP w' ad1 l1 ∧ Below w.heap.size w w'
set_option maxHeartbeats 3200000 in
set_option maxRecDepth 100000 in
theorem drawIsPolygon_c (ad : Option Addr) (len cap : Nat) (w : World) (hl : len ≤ 9223372036854775807) (hr : RdB w ad len) :
    Calls Try.prog 29 #[.slice ad len cap] w (OnePD w) := by
  have hc := cur_new (cap := cap) hr hl
  have hb1 : Below w.heap.size w (w.alloc (.cells #[.slice ad len cap, .int .i64 0, .int .u64 0] 46)) := (Below.refl _ _).alloc (Nat.le_refl _) _
  clear hr hl
  obtain ⟨c, hcd⟩ : ∃ c, w.heap.size = c := ⟨_, rfl⟩
  rw [hcd] at hc
  have hwc : w.heap.size ≤ c := by omega
  have HC := Lib.hid hc; have HB := Lib.hid hb1; clear hc hb1
  go_enter Try.func29, Try.ntmps29
  go_wp2_with fail
  refine (anyPolygon_c c 0 _ HC.out (by omega)).mono ?_
  rintro e w1 ⟨v, l, rfl, hrow, hll, hcu, hch⟩
  have hll : l.length ≤ 80 := hll
  obtain ⟨ad1, cap1, rfl, hcap1, _⟩ := hrow.shape
  have B1 := Lib.hid (bchg HB.out hch hwc HB.out.size)
  have R1 := Lib.hid (RowP.rd hrow)
  clear hcu hch HC HB hrow
  go_wp2_with fail
  go_ret
  exact ⟨_, _, l, rfl, hll, R1.out, B1.out⟩
set_option maxHeartbeats 3200000 in
theorem drawDoubleArea_c (ad : Option Addr) (len cap : Nat) (w : World) (hl : len ≤ 9223372036854775807) (hr : RdB w ad len) :
    Calls Try.prog 12 #[.slice ad len cap] w (OnePD w) := by
  have c1 := Lib.hid (drawIsPolygon_c ad len cap w hl hr)
  clear hl hr
  go_enter Try.func12, Try.ntmps12
  go_wp2_with fail
  refine c1.out.mono ?_
  rintro e w1 ⟨ad1, k1, l1, rfl, h1, h3, h5⟩
  have H3 := Lib.hid h3; have H5 := Lib.hid h5; clear h3 h5
  go_wp2_with fail
  go_ret
  exact ⟨_, _, l1, rfl, h1, H3.out, H5.out⟩

/-- A polygon and a point. -/
def WidD (w : World) (e : Ending) (w' : World) : Prop := ∃ (ad1 : Option Addr) (c1 : Nat) (l1 : List Pt) (x y : Int), e = .returned (.tuple #[.slice ad1 l1.length c1, .agg #[.int .i64 x, .int .i64 y]]) ∧ l1.length ≤ 80 ∧ RdP w' ad1 l1 ∧ Below w.heap.size w w'
set_option maxHeartbeats 3200000 in
set_option maxRecDepth 100000 in
theorem drawWidth_c (ad : Option Addr) (len cap : Nat) (w : World) (hl : len ≤ 9223372036854775807) (hr : RdB w ad len) :
    Calls Try.prog 18 #[.slice ad len cap] w (WidD w) := by
  have hb0 : Below w.heap.size w (w.alloc (.cells #[.int .i64 0, .int .i64 0] 35)) := (Below.refl _ _).alloc (Nat.le_refl _) _
  have hc := cur_new (cap := cap) (hr.below hb0) hl
  have hz := Own.alloc (PtO.new w 0 0 rfl) (.cells #[.slice ad len cap, .int .i64 0, .int .u64 0] 46)
  have hb1 : Below w.heap.size w ((w.alloc (.cells #[.int .i64 0, .int .i64 0] 35)).alloc (.cells #[.slice ad len cap, .int .i64 0, .int .u64 0] 46)) := hb0.alloc hb0.size _
  have hs1 : ((w.alloc (.cells #[.int .i64 0, .int .i64 0] 35)).alloc (.cells #[.slice ad len cap, .int .i64 0, .int .u64 0] 46)).heap.size = w.heap.size + 1 + 1 := by simp
  clear hr hl hb0
  obtain ⟨g, hg⟩ : ∃ g, w.heap.size = g := ⟨_, rfl⟩
  rw [hg] at hz hs1
  rw [show (w.alloc (.cells #[.int .i64 0, .int .i64 0] 35)).heap.size = g + 1 by simp [hg]] at hc
  obtain ⟨c, hcd⟩ : ∃ c, g + 1 = c := ⟨_, rfl⟩
  rw [hcd] at hc hs1
  have hgc : g ≠ c := by omega
  have hwg : w.heap.size ≤ g := by omega
  have hwc : w.heap.size ≤ c := by omega
  have HC := Lib.hid hc; have HB := Lib.hid hb1; clear hc hb1
  go_enter Try.func18, Try.ntmps18
  go_wp2_with fail
  refine (anyPolygon_c c 0 _ HC.out (by omega)).mono ?_
  rintro e w1 ⟨v, l, rfl, hrow, hll, hcu, hch⟩
  rw [hs1] at hrow
  have hll : l.length ≤ 80 := hll
  obtain ⟨ad1, cap1, rfl, hcap1, _⟩ := hrow.shape
  have o1 : PtO w1 g ⟨0, 0⟩ := Own.chg hz hch hgc
  have B1 := Lib.hid (bchg HB.out hch hwc HB.out.size)
  have H1 := Lib.hid hcu
  have R1 := Lib.hid hrow
  have hz1 := hch.size
  rw [hs1] at hz1
  clear hcu hch HC HB hrow hs1 hz
  go_wp2_with fail
  refine (anyPoint_c c (0 + 2010) _ H1.out (by omega)).mono ?_
  rintro e w2 ⟨x, y, rfl, -, hcu, hch⟩
  have o2 := o1.chg hch hgc
  have B2 := bchg B1.out hch hwc B1.out.size
  have R2 := rowP_chg R1.out hch (by omega)
  have hRR := Lib.hid (RowP.rd (rowP_chg (rowP_chg R2 (Chg.set g 0 w2 (.int .i64 x)) (by omega)) (Chg.set g 1 _ (.int .i64 y)) (by omega)))
  clear hcu hch R2 o1 B1
  obtain ⟨z0, z1⟩ := o2.at
  obtain ⟨y0, y1⟩ := o2.fr
  have h1 := two_chg w2 g x y
  have hb : Below w.heap.size w2 (two w2 g x y) := h1.below hwg B2.size
  have hBB := Lib.hid (B2.trans hb)
  have q := o2.set x y
  go_wp2_with fail
  obtain ⟨q0, q1⟩ := q.at
  obtain ⟨W, hW⟩ : ∃ W, two w2 g x y = W := ⟨_, rfl⟩
  have HRR := hRR.out
  have HBB := hBB.out
  unfold two at hW q0 q1 HBB
  rw [hW] at q0 q1 HRR HBB ⊢
  exact bodyPost_ret (v := .tuple #[.slice ad1 l.length cap1, .agg #[.int .i64 x, .int .i64 y]]) (by simp [results, Try.results18, go_sem, q0, q1]) rfl ⟨_, _, l, x, y, rfl, hll, HRR, HBB⟩
end Go.Proofs.Ytapbdfkaaeoonaa
