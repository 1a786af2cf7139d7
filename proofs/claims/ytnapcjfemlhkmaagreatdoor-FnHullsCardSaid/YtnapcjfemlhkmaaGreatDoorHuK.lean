/-
  The draws of FnHulls. By an AI agent.
-/
import Derived.Test.YtnapcjfemlhkmaaGreatDoorHuC
import Derived.Test.YtnapcjfemlhkmaaGreatDoorArD
namespace Go.Proofs.YtnapcjfemlhkmaaGreatDoor
open Go.RowKit

set_option maxHeartbeats 3200000 in
set_option maxRecDepth 100000 in
theorem drawHullOf_c (ad : Option Addr) (len cap : Nat) (w : World) (hl : len ≤ 9223372036854775807) (hr : RdB w ad len) :
    Calls Tryz.prog 4 #[.slice ad len cap] w (OnePD w) := by
  have hc := cur_new (cap := cap) hr hl
  have hb1 : Below w.heap.size w (w.alloc (.cells #[.slice ad len cap, .int .i64 0, .int .u64 0] 45)) := (Below.refl _ _).alloc (Nat.le_refl _) _
  clear hr hl
  obtain ⟨c, hcd⟩ : ∃ c, w.heap.size = c := ⟨_, rfl⟩
  rw [hcd] at hc
  have hwc : w.heap.size ≤ c := by omega
  have HC := Lib.hid hc; have HB := Lib.hid hb1; clear hc hb1
  go_enter Tryz.func4, Tryz.ntmps4
  go_wp2_with fail
  refine (points_c c 0 _ HC.out (by omega)).mono ?_
  rintro e w1 ⟨v, l, rfl, hrow, hll, hcu, hch⟩
  have hll : l.length ≤ 41 := hll
  obtain ⟨ad1, cap1, rfl, hcap1, _⟩ := hrow.shape
  have B1 := Lib.hid (bchg HB.out hch hwc HB.out.size)
  have R1 := Lib.hid (RowP.rd hrow)
  clear hcu hch HC HB hrow
  go_wp2_with fail
  go_ret
  exact ⟨_, _, l, rfl, by omega, R1.out, B1.out⟩

/-- A point. -/
def PtD (w : World) (e : Ending) (w' : World) : Prop := ∃ x y : Int, e = .returned (.agg #[.int .i64 x, .int .i64 y]) ∧ Below w.heap.size w w'
set_option maxHeartbeats 3200000 in
set_option maxRecDepth 100000 in
theorem drawIsPoint_c (ad : Option Addr) (len cap : Nat) (w : World) (hl : len ≤ 9223372036854775807) (hr : RdB w ad len) :
    Calls Tryz.prog 17 #[.slice ad len cap] w (PtD w) := by
  have hb0 : Below w.heap.size w (w.alloc (.cells #[.int .i64 0, .int .i64 0] 30)) := (Below.refl _ _).alloc (Nat.le_refl _) _
  have hc := cur_new (cap := cap) (hr.below hb0) hl
  have hz := Own.alloc (PtO.new w 0 0 rfl) (.cells #[.slice ad len cap, .int .i64 0, .int .u64 0] 45)
  have hb1 : Below w.heap.size w ((w.alloc (.cells #[.int .i64 0, .int .i64 0] 30)).alloc (.cells #[.slice ad len cap, .int .i64 0, .int .u64 0] 45)) := hb0.alloc hb0.size _
  clear hr hl hb0
  obtain ⟨g, hg⟩ : ∃ g, w.heap.size = g := ⟨_, rfl⟩
  rw [hg] at hz
  rw [show (w.alloc (.cells #[.int .i64 0, .int .i64 0] 30)).heap.size = g + 1 by simp [hg]] at hc
  obtain ⟨c, hcd⟩ : ∃ c, g + 1 = c := ⟨_, rfl⟩
  rw [hcd] at hc
  have hgc : g ≠ c := by omega
  have hwg : w.heap.size ≤ g := by omega
  have hwc : w.heap.size ≤ c := by omega
  have HC := Lib.hid hc; have HB := Lib.hid hb1; clear hc hb1
  go_enter Tryz.func17, Tryz.ntmps17
  go_wp2_with fail
  refine (anyPoint_c c 0 _ HC.out (by omega)).mono ?_
  rintro e w2 ⟨x, y, rfl, -, hcu, hch⟩
  have o2 : PtO w2 g ⟨0, 0⟩ := Own.chg hz hch hgc
  have B2 := bchg HB.out hch hwc HB.out.size
  clear hcu hch HC HB hz
  obtain ⟨z0, z1⟩ := o2.at
  obtain ⟨y0, y1⟩ := o2.fr
  have h1 := two_chg w2 g x y
  have hb : Below w.heap.size w2 (two w2 g x y) := h1.below hwg B2.size
  have hBB := Lib.hid (B2.trans hb)
  have q := o2.set x y
  go_wp2_with fail
  obtain ⟨q0, q1⟩ := q.at
  obtain ⟨W, hW⟩ : ∃ W, two w2 g x y = W := ⟨_, rfl⟩
  have HBB := hBB.out
  unfold two at hW q0 q1 HBB
  rw [hW] at q0 q1 HBB ⊢
  exact bodyPost_ret (v := .agg #[.int .i64 x, .int .i64 y]) (by simp [results, Tryz.results17, go_sem, q0, q1]) rfl ⟨x, y, rfl, HBB⟩

/-- A text of a bounded length. -/
def TxtD (S : Nat) (w : World) (e : Ending) (w' : World) : Prop := ∃ u : List UInt8, e = .returned (.string ⟨u.toArray⟩) ∧ u.length ≤ S ∧ Below w.heap.size w w'
theorem txtD {S : Nat} {w : World} {e : Ending} {w' : World} (u : ByteArray) (he : e = .returned (.string u)) (hu : u.size ≤ S) (hb : Below w.heap.size w w') : TxtD S w e w' :=
  ⟨u.toList, by rw [he, ByteArray.toList_eq], by rw [len_str]; exact hu, hb⟩
set_option maxHeartbeats 3200000 in
set_option maxRecDepth 100000 in
theorem drawParsePol_c (ad : Option Addr) (len cap : Nat) (w : World) (hl : len ≤ 9223372036854775807) (hr : RdB w ad len) :
    Calls Tryz.prog 18 #[.slice ad len cap] w (TxtD 3000 w) := by
  have hc := cur_new (cap := cap) hr hl
  have hb1 : Below w.heap.size w (w.alloc (.cells #[.slice ad len cap, .int .i64 0, .int .u64 0] 45)) := (Below.refl _ _).alloc (Nat.le_refl _) _
  clear hr hl
  obtain ⟨c, hcd⟩ : ∃ c, w.heap.size = c := ⟨_, rfl⟩
  rw [hcd] at hc
  have hwc : w.heap.size ≤ c := by omega
  have HC := Lib.hid hc; have HB := Lib.hid hb1; clear hc hb1
  go_enter Tryz.func18, Tryz.ntmps18
  go_wp2_with fail
  refine (polygon_c c 0 _ HC.out (by omega)).mono ?_
  rintro e w1 ⟨v, l, rfl, hrow, ⟨hl0, hll, hlp⟩, hcu, hch⟩
  obtain ⟨ad1, cap1, rfl, hcap1, _⟩ := hrow.shape
  have B1 := Lib.hid (bchg HB.out hch hwc HB.out.size)
  have R1 := Lib.hid (RowP.rd hrow)
  have U1 := Lib.hid hcu
  have ct := Lib.hid (pyText_c ad1 cap1 l w1 R1.out (by omega) hlp)
  have hlen := polTxt_len l hlp
  clear hcu hch HC HB hrow hlp
  obtain ⟨T, hT⟩ : ∃ T : ByteArray, T = ⟨(polTxt l).toArray⟩ := ⟨_, rfl⟩
  have hTs : T.size ≤ 1920 := by rw [hT]; simp only [ByteArray.size, List.size_toArray]; omega
  unfold strV at ct
  rw [← hT] at ct
  clear hT hlen
  go_wp2_with fail
  refine ct.out.mono ?_
  rintro e w2 ⟨rfl, hb2⟩
  have B2 := Lib.hid (B1.out.trans (hb2.mono B1.out.size))
  have U2 := Lib.hid (U1.out.below hb2)
  clear B1 U1 R1 hb2
  go_wp2_with fail
  refine (pick_c 4 c (0 + 1000) w2 U2.out (by omega)).mono ?_
  rintro e w3 ⟨x, rfl, hx, hcu, hch⟩
  have B3 := Lib.hid (bchg B2.out hch hwc B2.out.size)
  have U3 := Lib.hid hcu
  clear hcu hch B2 U2
  by_cases h1 : x = 0
  case pos =>
    subst h1
    go_wp2_with fail
    refine (spoilt_c T ⟨#[45, 44, 59, 48, 49, 50]⟩ 1920 c (0 + 1000 + 2) w3 U3.out (by omega) hTs (by omega) (by decide) (by decide)).mono ?_
    rintro e w4 ⟨u, rfl, hu, hcu, hch⟩
    have B4 := Lib.hid (bchg B3.out hch hwc B3.out.size)
    clear hcu hch
    go_wp2_with fail
    go_ret
    exact txtD u rfl (by omega) B4.out
  case neg =>
    have e1 : (x == 0) = false := beq_eq_false_iff_ne.2 h1
    by_cases h2 : x = 1
    case pos =>
      subst h2
      go_wp2_with fail
      have hBA := B3.out.alloc B3.out.size (.cells #[.string ⟨#[]⟩, .string ⟨#[59]⟩, .string ⟨#[48, 44, 48, 59]⟩, .string ⟨#[48, 44, 48]⟩, .string ⟨#[48, 44, 48, 59, 50, 44, 48, 59, 48, 44, 50, 59]⟩, .string ⟨#[50, 44, 48, 59, 48, 44, 50, 59, 48, 44, 48, 59]⟩, .string ⟨#[45, 48, 44, 48, 59]⟩, .string ⟨#[48, 49, 44, 48, 59]⟩, .string ⟨#[48, 44, 48, 59, 49, 44, 48, 59, 50, 44, 48, 59]⟩, .string ⟨#[49, 48, 49, 44, 48, 59]⟩] 9)
      have hUA := U3.out.below ((Below.refl _ _).alloc (Nat.le_refl _) (.cells #[.string ⟨#[]⟩, .string ⟨#[59]⟩, .string ⟨#[48, 44, 48, 59]⟩, .string ⟨#[48, 44, 48]⟩, .string ⟨#[48, 44, 48, 59, 50, 44, 48, 59, 48, 44, 50, 59]⟩, .string ⟨#[50, 44, 48, 59, 48, 44, 50, 59, 48, 44, 48, 59]⟩, .string ⟨#[45, 48, 44, 48, 59]⟩, .string ⟨#[48, 49, 44, 48, 59]⟩, .string ⟨#[48, 44, 48, 59, 49, 44, 48, 59, 50, 44, 48, 59]⟩, .string ⟨#[49, 48, 49, 44, 48, 59]⟩] 9))
      have hcl3 := U3.out.lt
      have HBA := Lib.hid hBA; clear hBA
      refine (of_c w3.heap.size 10 [⟨#[]⟩, ⟨#[59]⟩, ⟨#[48, 44, 48, 59]⟩, ⟨#[48, 44, 48]⟩, ⟨#[48, 44, 48, 59, 50, 44, 48, 59, 48, 44, 50, 59]⟩, ⟨#[50, 44, 48, 59, 48, 44, 50, 59, 48, 44, 48, 59]⟩, ⟨#[45, 48, 44, 48, 59]⟩, ⟨#[48, 49, 44, 48, 59]⟩, ⟨#[48, 44, 48, 59, 49, 44, 48, 59, 50, 44, 48, 59]⟩, ⟨#[49, 48, 49, 44, 48, 59]⟩] c (0 + 1000 + 2) _ hUA (by omega) (by simp) (by simp) (by omega) (Own.newA w3 _ 9 rfl)).mono ?_
      rintro e w4 ⟨u, rfl, hu, hcu, hch⟩
      have hu2 : u.size ≤ 18 := by simp at hu; rcases hu with h | h | h | h | h | h | h | h | h | h <;> (subst h; decide)
      have B4 := Lib.hid (bchg HBA.out hch hwc HBA.out.size)
      clear hu hcu hch HBA hUA
      go_wp2_with fail
      go_ret
      exact txtD u rfl (by omega) B4.out
    case neg =>
      have e2 : (x == 1) = false := beq_eq_false_iff_ne.2 h2
      go_wp2_with fail
      go_ret
      exact txtD T rfl (by omega) B3.out

set_option maxHeartbeats 6400000 in
set_option maxRecDepth 100000 in
theorem drawHasPoint_c (ad : Option Addr) (len cap : Nat) (w : World) (hl : len ≤ 9223372036854775807) (hr : RdB w ad len) :
    Calls Tryz.prog 20 #[.slice ad len cap] w (WidD w) := by
  have hb0 : Below w.heap.size w (w.alloc (.cells #[.int .i64 0, .int .i64 0] 30)) := (Below.refl _ _).alloc (Nat.le_refl _) _
  have hc := cur_new (cap := cap) (hr.below hb0) hl
  have hz := Own.alloc (PtO.new w 0 0 rfl) (.cells #[.slice ad len cap, .int .i64 0, .int .u64 0] 45)
  have hb1 : Below w.heap.size w ((w.alloc (.cells #[.int .i64 0, .int .i64 0] 30)).alloc (.cells #[.slice ad len cap, .int .i64 0, .int .u64 0] 45)) := hb0.alloc hb0.size _
  have hs1 : ((w.alloc (.cells #[.int .i64 0, .int .i64 0] 30)).alloc (.cells #[.slice ad len cap, .int .i64 0, .int .u64 0] 45)).heap.size = w.heap.size + 1 + 1 := by simp
  clear hr hl hb0
  obtain ⟨g, hg⟩ : ∃ g, w.heap.size = g := ⟨_, rfl⟩
  rw [hg] at hz hs1
  rw [show (w.alloc (.cells #[.int .i64 0, .int .i64 0] 30)).heap.size = g + 1 by simp [hg]] at hc
  obtain ⟨c, hcd⟩ : ∃ c, g + 1 = c := ⟨_, rfl⟩
  rw [hcd] at hc hs1
  have hgc : g ≠ c := by omega
  have hwg : w.heap.size ≤ g := by omega
  have hwc : w.heap.size ≤ c := by omega
  have HC := Lib.hid hc; have HB := Lib.hid hb1; clear hc hb1
  go_enter Tryz.func20, Tryz.ntmps20
  go_wp2_with fail
  refine (anyPolygon_c c 0 _ HC.out (by omega)).mono ?_
  rintro e w1 ⟨v, l, rfl, hrow, hll, hcu, hch⟩
  rw [hs1] at hrow
  have hll : l.length ≤ 80 := hll
  obtain ⟨ad1, cap1, rfl, hcap1, _⟩ := hrow.shape
  have o1 : PtO w1 g ⟨0, 0⟩ := Own.chg hz hch hgc
  have B1 := Lib.hid (bchg HB.out hch hwc HB.out.size)
  have H1 := Lib.hid hcu
  have R1 := Lib.hid hrow
  have hz1 := hch.size
  rw [hs1] at hz1
  clear hcu hch HC HB hrow hs1 hz
  have HO1 := Lib.hid o1; clear o1
  by_cases h0 : 0 < l.length
  case neg =>
    have g0 : decide ((0 : Int) < (l.length : Int)) = false := decide_eq_false (by omega)
    have g0' : decide (0 < l.length) = false := decide_eq_false (by omega)
    go_wp2_with fail
    refine (anyPoint_c c (0 + 2010) _ H1.out (by omega)).mono ?_
    rintro e w4 ⟨x, y, rfl, -, hcu, hch⟩
    have o4 := HO1.out.chg hch hgc
    have B4 := bchg B1.out hch hwc B1.out.size
    have R4 := rowP_chg R1.out hch (by omega)
    have hRR := Lib.hid (RowP.rd (rowP_chg (rowP_chg R4 (Chg.set g 0 w4 (.int .i64 x)) (by omega)) (Chg.set g 1 _ (.int .i64 y)) (by omega)))
    clear hcu hch R4
    obtain ⟨z0, z1⟩ := o4.at
    obtain ⟨y0, y1⟩ := o4.fr
    have h1 := two_chg w4 g x y
    have hb : Below w.heap.size w4 (two w4 g x y) := h1.below hwg B4.size
    have hBB := Lib.hid (B4.trans hb)
    have q := o4.set x y
    go_wp2_with fail
    obtain ⟨q0, q1⟩ := q.at
    obtain ⟨W, hW⟩ : ∃ W, two w4 g x y = W := ⟨_, rfl⟩
    have HRR := hRR.out
    have HBB := hBB.out
    unfold two at hW q0 q1 HBB
    rw [hW] at q0 q1 HRR HBB ⊢
    exact bodyPost_ret (v := .tuple #[.slice ad1 l.length cap1, .agg #[.int .i64 x, .int .i64 y]]) (by simp [results, Tryz.results20, go_sem, q0, q1]) rfl ⟨_, _, l, x, y, rfl, hll, HRR, HBB⟩
  case pos =>
    have g0 : decide ((0 : Int) < (l.length : Int)) = true := decide_eq_true (by omega)
    have g0' : decide (0 < l.length) = true := decide_eq_true (by omega)
    go_wp2_with fail
    refine (one_c 3 c (0 + 2010) _ H1.out (by omega)).mono ?_
    rintro e w2 ⟨t, rfl, hcu, hch⟩
    have B2 := Lib.hid (bchg B1.out hch hwc B1.out.size)
    have H2 := Lib.hid hcu
    have R2 := Lib.hid (rowP_chg R1.out hch (by omega))
    have HO2 := Lib.hid (HO1.out.chg hch hgc)
    have hz2 := hch.size
    clear hcu hch H1 B1 R1 HO1
    cases t
    case false =>
      go_wp2_with fail
      refine (anyPoint_c c (0 + 2010 + 2) _ H2.out (by omega)).mono ?_
      rintro e w4 ⟨x, y, rfl, -, hcu, hch⟩
      have o4 := HO2.out.chg hch hgc
      have B4 := bchg B2.out hch hwc B2.out.size
      have R4 := rowP_chg R2.out hch (by omega)
      have hRR := Lib.hid (RowP.rd (rowP_chg (rowP_chg R4 (Chg.set g 0 w4 (.int .i64 x)) (by omega)) (Chg.set g 1 _ (.int .i64 y)) (by omega)))
      clear hcu hch R4
      obtain ⟨z0, z1⟩ := o4.at
      obtain ⟨y0, y1⟩ := o4.fr
      have h1 := two_chg w4 g x y
      have hb : Below w.heap.size w4 (two w4 g x y) := h1.below hwg B4.size
      have hBB := Lib.hid (B4.trans hb)
      have q := o4.set x y
      go_wp2_with fail
      obtain ⟨q0, q1⟩ := q.at
      obtain ⟨W, hW⟩ : ∃ W, two w4 g x y = W := ⟨_, rfl⟩
      have HRR := hRR.out
      have HBB := hBB.out
      unfold two at hW q0 q1 HBB
      rw [hW] at q0 q1 HRR HBB ⊢
      exact bodyPost_ret (v := .tuple #[.slice ad1 l.length cap1, .agg #[.int .i64 x, .int .i64 y]]) (by simp [results, Tryz.results20, go_sem, q0, q1]) rfl ⟨_, _, l, x, y, rfl, hll, HRR, HBB⟩
    case true =>
      have cp := Lib.hid (fun (W : World) (hW : Cur W c (0 + 2010 + 2)) => pick_c (l.length : Int) c (0 + 2010 + 2) W hW (by omega))
      go_wp2_with fail
      go_region_with (first
          | (go_at_call 45; (with_reducible refine (cp.out _ (by first | exact H2.out | exact H2.out.below (Below.refl _ _).drew)).mono ?_); rintro e W1 ⟨k, rfl, ⟨hk0, hk1⟩, hcu, hch⟩; obtain ⟨j, rfl⟩ : ∃ j : Nat, k = j := ⟨k.toNat, by omega⟩; have hj : j < l.length := (by omega); have hjx : (j : Int) < (l.length : Int) := (by omega); have oW := PtO.chg (by exact HO2.out) hch hgc; have BW := Lib.hid (bchg (by first | exact B2.out | exact B2.out.drew) hch hwc (by first | exact B2.out.size | exact B2.out.drew.size)); have RW := Lib.hid (rowP_chg (by first | exact R2.out | exact RowP.drew' R2.out) hch (by omega)); obtain ⟨bR, offR, hadR, hbR, r0, r1⟩ := RowP.rd RW.out j hj; subst hadR; generalize (l.getD j default).x = X at r0; generalize (l.getD j default).y = Y at r1; obtain ⟨z0, z1⟩ := oW.at; obtain ⟨y0, y1⟩ := oW.fr))
      all_goals
        have h1 := two_chg W1 g X Y
        have hb : Below w.heap.size W1 (two W1 g X Y) := h1.below hwg BW.out.size
        have hBB := Lib.hid (BW.out.trans hb)
        have hRR := Lib.hid (RowP.rd (rowP_chg (rowP_chg RW.out (Chg.set g 0 W1 (.int .i64 X)) (by omega)) (Chg.set g 1 _ (.int .i64 Y)) (by omega)))
        have q := oW.set X Y
        go_wp2_with fail
        obtain ⟨q0, q1⟩ := q.at
        obtain ⟨W, hW⟩ : ∃ W, two W1 g X Y = W := ⟨_, rfl⟩
        have HRR := hRR.out
        have HBB := hBB.out
        unfold two at hW q0 q1 HBB
        rw [hW] at q0 q1 HRR HBB ⊢
        exact bodyPost_ret (v := .tuple #[.slice (some ⟨bR, offR, none⟩) l.length cap1, .agg #[.int .i64 X, .int .i64 Y]]) (by simp [results, Tryz.results20, go_sem, q0, q1]) rfl ⟨_, _, l, X, Y, rfl, hll, HRR, HBB⟩
end Go.Proofs.YtnapcjfemlhkmaaGreatDoor
