/-
  Plane polynomials: what the law draws, and the small calls of the law. By an AI agent.
-/
import Derived.Test.YtbafgmicpopnoaaGreatDoorPlM
import Derived.Test.YtbafgmicpopnoaaGreatDoorPlN
import Derived.Test.YtbafgmicpopnoaaGreatDoorDrawN
import Derived.Test.YtbafgmicpopnoaaGreatDoorLaws
import Derived.Test.YtbafgmicpopnoaaGreatDoorOpenB
import Derived.Deep.QuietTactic
namespace Go.Proofs.YtbafgmicpopnoaaGreatDoor
open Go.RowKit

def DrwTwo (w : World) (e : Ending) (w' : World) : Prop := ∃ ad1 cap1 l1 ad2 cap2 l2, e = .returned (.tuple #[.slice ad1 (List.length l1) cap1, .slice ad2 (List.length l2) cap2]) ∧ (List.length l1 ≤ 13 ∧ List.length l2 ≤ 13) ∧ RdT w' ad1 l1 ∧ RdT w' ad2 l2 ∧ Below w.heap.size w w'
def DrwVal (w : World) (e : Ending) (w' : World) : Prop := ∃ ad1 cap1 l1 x y, e = .returned (.tuple #[.slice ad1 (List.length l1) cap1, .int .i64 x, .int .i64 y]) ∧ RdT w' ad1 l1 ∧ Below w.heap.size w w'

set_option maxHeartbeats 3200000 in
set_option maxRecDepth 100000 in
theorem drawPlaneSum_c (ad : Option Addr) (len cap : Nat) (w : World) (hl : len ≤ 9223372036854775807) (hr : RdB w ad len) :
    Calls Tryz.prog 24 #[.slice ad len cap] w (DrwTwo w) := by
  have hc := cur_new (cap := cap) hr hl
  have hb1 : Below w.heap.size w (w.alloc (.cells #[.slice ad len cap, .int .i64 0, .int .u64 0] 51)) := (Below.refl _ _).alloc (Nat.le_refl _) _
  have hs1 : (w.alloc (.cells #[.slice ad len cap, .int .i64 0, .int .u64 0] 51)).heap.size = w.heap.size + 1 := by simp
  clear hr hl
  obtain ⟨c, hcd⟩ : ∃ c, w.heap.size = c := ⟨_, rfl⟩
  rw [hcd] at hc hs1
  have hwc : w.heap.size ≤ c := by omega
  have HC := Lib.hid hc; have HB := Lib.hid hb1; clear hc hb1
  go_enter Tryz.func24, Tryz.ntmps24
  go_wp2_with fail
  refine (anyPlane_c c 0 _ HC.out (by omega)).mono ?_
  rintro e w1 ⟨v, l, rfl, hrow, hll, hcu, hch⟩
  have hll : l.length ≤ 13 := hll
  rw [hs1] at hrow
  obtain ⟨ad1, cap1, rfl, hcap1, _⟩ := hrow.shape
  have B1 := Lib.hid (bchg HB.out hch hwc HB.out.size)
  have R1 := Lib.hid hrow
  have U1 := Lib.hid hcu
  clear hcu hch HC HB hrow hs1
  go_wp2_with fail
  refine (anyPlane_c c (0 + 200) w1 U1.out (by omega)).mono ?_
  rintro e w2 ⟨v2, l2, rfl, hrow2, hll2, hcu, hch⟩
  have hll2 : l2.length ≤ 13 := hll2
  obtain ⟨ad2, cap2, rfl, hcap2, _⟩ := hrow2.shape
  have B2 := bchg B1.out hch hwc B1.out.size
  have R2 := Lib.hid (RowT.rd (show RowT w2 _ _ l from row_chg R1.out hch (by omega)))
  have R3 := Lib.hid (RowT.rd hrow2)
  clear hcu hch B1 R1 U1 hrow2
  go_wp2_with fail
  exact bodyPost_ret (v := .tuple #[.slice ad1 l.length cap1, .slice ad2 l2.length cap2]) (by simp [results, Tryz.results24, go_sem]) rfl ⟨ad1, cap1, l, ad2, cap2, l2, rfl, ⟨hll, hll2⟩, R2.out, R3.out, B2⟩

set_option maxHeartbeats 800000 in
theorem drawPlaneProduct_c (ad : Option Addr) (len cap : Nat) (w : World) (hl : len ≤ 9223372036854775807) (hr : RdB w ad len) :
    Calls Tryz.prog 5 #[.slice ad len cap] w (DrwTwo w) := by
  have C := Lib.hid (drawPlaneSum_c ad len cap w hl hr); clear hl hr
  go_enter Tryz.func5, Tryz.ntmps5
  go_wp2_with fail
  refine C.out.mono ?_
  rintro e w1 ⟨ad1, cap1, l1, ad2, cap2, l2, rfl, hl, hr1, hr2, hb⟩
  have H1 := Lib.hid hr1; have H2 := Lib.hid hr2; clear hr1 hr2
  go_wp2_with fail
  exact bodyPost_ret (v := .tuple #[.slice ad1 l1.length cap1, .slice ad2 l2.length cap2]) (by simp [results, Tryz.results5, go_sem]) rfl ⟨ad1, cap1, l1, ad2, cap2, l2, rfl, hl, H1.out, H2.out, hb⟩

set_option maxHeartbeats 3200000 in
set_option maxRecDepth 100000 in
theorem drawPlaneValue_c (ad : Option Addr) (len cap : Nat) (w : World) (hl : len ≤ 9223372036854775807) (hr : RdB w ad len) :
    Calls Tryz.prog 11 #[.slice ad len cap] w (DrwVal w) := by
  have hc := cur_new (cap := cap) hr hl
  have hb1 : Below w.heap.size w (w.alloc (.cells #[.slice ad len cap, .int .i64 0, .int .u64 0] 51)) := (Below.refl _ _).alloc (Nat.le_refl _) _
  have hs1 : (w.alloc (.cells #[.slice ad len cap, .int .i64 0, .int .u64 0] 51)).heap.size = w.heap.size + 1 := by simp
  clear hr hl
  obtain ⟨c, hcd⟩ : ∃ c, w.heap.size = c := ⟨_, rfl⟩
  rw [hcd] at hc hs1
  have hwc : w.heap.size ≤ c := by omega
  have HC := Lib.hid hc; have HB := Lib.hid hb1; clear hc hb1
  go_enter Tryz.func11, Tryz.ntmps11
  go_wp2_with fail
  refine (anyPlane_c c 0 _ HC.out (by omega)).mono ?_
  rintro e w1 ⟨v, l, rfl, hrow, hll, hcu, hch⟩
  rw [hs1] at hrow
  obtain ⟨ad1, cap1, rfl, hcap1, _⟩ := hrow.shape
  have B1 := Lib.hid (bchg HB.out hch hwc HB.out.size)
  have R1 := Lib.hid hrow
  have U1 := Lib.hid hcu
  clear hcu hch HC HB hrow hs1 hll
  go_wp2_with fail
  refine (place_c c (0 + 200) w1 U1.out (by omega)).mono ?_
  rintro e w2 ⟨x, rfl, -, hcu, hch⟩
  have B2 := Lib.hid (bchg B1.out hch hwc B1.out.size)
  have R2 := Lib.hid (show RowT w2 _ _ l from row_chg R1.out hch (by omega))
  have U2 := Lib.hid hcu
  clear hcu hch B1 R1 U1
  go_wp2_with fail
  refine (place_c c (0 + 200 + 8) w2 U2.out (by omega)).mono ?_
  rintro e w3 ⟨y, rfl, -, hcu, hch⟩
  have B3 := bchg B2.out hch hwc B2.out.size
  have R3 := Lib.hid (RowT.rd (show RowT w3 _ _ l from row_chg R2.out hch (by omega)))
  clear hcu hch B2 R2 U2
  go_wp2_with fail
  exact bodyPost_ret (v := .tuple #[.slice ad1 l.length cap1, .int .i64 x, .int .i64 y]) (by simp [results, Tryz.results11, go_sem]) rfl ⟨ad1, cap1, l, x, y, rfl, R3.out, B3⟩

def TxtP (S : Nat) (w : World) (e : Ending) (w' : World) : Prop := ∃ u : List UInt8, e = .returned (.string ⟨u.toArray⟩) ∧ u.length ≤ S ∧ Below w.heap.size w w'
theorem txtP {S : Nat} {w : World} {e : Ending} {w' : World} (u : ByteArray) (he : e = .returned (.string u)) (hu : u.size ≤ S) (hb : Below w.heap.size w w') : TxtP S w e w' :=
  ⟨u.toList, by rw [he, ByteArray.toList_eq], by rw [len_str]; exact hu, hb⟩
set_option maxHeartbeats 3200000 in
set_option maxRecDepth 100000 in
theorem drawParsePlane_c (ad : Option Addr) (len cap : Nat) (w : World) (hl : len ≤ 9223372036854775807) (hr : RdB w ad len) :
    Calls Tryz.prog 21 #[.slice ad len cap] w (TxtP 3000 w) := by
  have hc := cur_new (cap := cap) hr hl
  have hb1 : Below w.heap.size w (w.alloc (.cells #[.slice ad len cap, .int .i64 0, .int .u64 0] 51)) := (Below.refl _ _).alloc (Nat.le_refl _) _
  clear hr hl
  obtain ⟨c, hcd⟩ : ∃ c, w.heap.size = c := ⟨_, rfl⟩
  rw [hcd] at hc
  have hwc : w.heap.size ≤ c := by omega
  have HC := Lib.hid hc; have HB := Lib.hid hb1; clear hc hb1
  go_enter Tryz.func21, Tryz.ntmps21
  go_wp2_with fail
  refine (plane_c c 0 _ HC.out (by omega)).mono ?_
  rintro e w1 ⟨v, l, rfl, hrow, ⟨hll, hl0, hlp⟩, hcu, hch⟩
  obtain ⟨ad1, cap1, rfl, hcap1, _⟩ := hrow.shape
  have B1 := Lib.hid (bchg HB.out hch hwc HB.out.size)
  have R1 := Lib.hid (RowT.rd hrow)
  have U1 := Lib.hid hcu
  have htb : ∀ p ∈ l, termB p = true := fun p hp => smT_term (hlp p hp)
  have ct := (plText_c ad1 cap1 l w1 R1.out (by omega) htb)
  have hlen := plnTxt_len l htb
  clear hcu hch HC HB hrow hlp htb
  obtain ⟨T, hT⟩ : ∃ T : ByteArray, T = ⟨(plnTxt l).toArray⟩ := ⟨_, rfl⟩
  have hTs : T.size ≤ 1920 := by rw [hT]; simp only [ByteArray.size, List.size_toArray]; omega
  unfold strV at ct
  rw [← hT] at ct
  have ct := Lib.hid ct
  clear hT hlen
  go_wp2_with fail
  refine ct.out.mono ?_
  rintro e w2 ⟨rfl, hb2⟩
  have B2 := Lib.hid (B1.out.trans (hb2.mono B1.out.size))
  have U2 := Lib.hid (U1.out.below hb2)
  clear B1 U1 R1 hb2
  go_wp2_with fail
  refine (pick_c 5 c (0 + 100) w2 U2.out (by omega)).mono ?_
  rintro e w3 ⟨x, rfl, hx, hcu, hch⟩
  have B3 := Lib.hid (bchg B2.out hch hwc B2.out.size)
  have U3 := Lib.hid hcu
  clear hcu hch B2 U2
  by_cases h1 : x = 0
  case pos =>
    subst h1
    go_wp2_with fail
    refine (spoilt_c T ⟨#[58, 44, 59, 45, 48, 49]⟩ 1920 c (0 + 100 + 2) w3 U3.out (by omega) hTs (by omega) (by decide) (by decide)).mono ?_
    rintro e w4 ⟨u, rfl, hu, hcu, hch⟩
    have B4 := Lib.hid (bchg B3.out hch hwc B3.out.size)
    clear hcu hch
    go_wp2_with fail
    go_ret
    exact txtP u rfl (by omega) B4.out
  case neg =>
    have e1 : (x == 0) = false := beq_eq_false_iff_ne.2 h1
    by_cases h2 : x = 1
    case pos =>
      subst h2
      go_wp2_with fail
      have hBA := B3.out.alloc B3.out.size (.cells #[.string ⟨#[]⟩, .string ⟨#[59]⟩, .string ⟨#[48, 58, 48, 44, 48]⟩, .string ⟨#[105, 110, 102, 58, 48, 44, 48, 59]⟩, .string ⟨#[48, 58, 54, 44, 48, 59]⟩, .string ⟨#[48, 58, 55, 44, 48, 59]⟩, .string ⟨#[48, 58, 49, 44, 48, 59, 48, 58, 48, 44, 49, 59]⟩, .string ⟨#[48, 58, 48, 44, 48, 59, 48, 58, 48, 44, 48, 59]⟩, .string ⟨#[45, 48, 58, 48, 44, 48, 59]⟩, .string ⟨#[49, 48, 48, 48, 48, 48, 48, 58, 48, 44, 48, 59]⟩, .string ⟨#[49, 48, 48, 48, 48, 48, 49, 58, 48, 44, 48, 59]⟩] 9)
      have hUA := U3.out.below ((Below.refl _ _).alloc (Nat.le_refl _) (.cells #[.string ⟨#[]⟩, .string ⟨#[59]⟩, .string ⟨#[48, 58, 48, 44, 48]⟩, .string ⟨#[105, 110, 102, 58, 48, 44, 48, 59]⟩, .string ⟨#[48, 58, 54, 44, 48, 59]⟩, .string ⟨#[48, 58, 55, 44, 48, 59]⟩, .string ⟨#[48, 58, 49, 44, 48, 59, 48, 58, 48, 44, 49, 59]⟩, .string ⟨#[48, 58, 48, 44, 48, 59, 48, 58, 48, 44, 48, 59]⟩, .string ⟨#[45, 48, 58, 48, 44, 48, 59]⟩, .string ⟨#[49, 48, 48, 48, 48, 48, 48, 58, 48, 44, 48, 59]⟩, .string ⟨#[49, 48, 48, 48, 48, 48, 49, 58, 48, 44, 48, 59]⟩] 9))
      have hcl3 := U3.out.lt
      have HBA := Lib.hid hBA; clear hBA
      refine (of_c w3.heap.size 11 [⟨#[]⟩, ⟨#[59]⟩, ⟨#[48, 58, 48, 44, 48]⟩, ⟨#[105, 110, 102, 58, 48, 44, 48, 59]⟩, ⟨#[48, 58, 54, 44, 48, 59]⟩, ⟨#[48, 58, 55, 44, 48, 59]⟩, ⟨#[48, 58, 49, 44, 48, 59, 48, 58, 48, 44, 49, 59]⟩, ⟨#[48, 58, 48, 44, 48, 59, 48, 58, 48, 44, 48, 59]⟩, ⟨#[45, 48, 58, 48, 44, 48, 59]⟩, ⟨#[49, 48, 48, 48, 48, 48, 48, 58, 48, 44, 48, 59]⟩, ⟨#[49, 48, 48, 48, 48, 48, 49, 58, 48, 44, 48, 59]⟩] c (0 + 100 + 2) _ hUA (by omega) (by simp) (by simp) (by omega) (Own.newA w3 _ 9 rfl)).mono ?_
      rintro e w4 ⟨u, rfl, hu, hcu, hch⟩
      have hu2 : u.size ≤ 18 := by simp at hu; rcases hu with h | h | h | h | h | h | h | h | h | h | h <;> (subst h; decide)
      have B4 := Lib.hid (bchg HBA.out hch hwc HBA.out.size)
      clear hu hcu hch HBA hUA
      go_wp2_with fail
      go_ret
      exact txtP u rfl (by omega) B4.out
    case neg =>
      have e2 : (x == 1) = false := beq_eq_false_iff_ne.2 h2
      go_wp2_with fail
      go_ret
      exact txtP T rfl (by omega) B3.out

set_option maxHeartbeats 800000 in
theorem pSameT_c (ad1 ad2 : Option Addr) (c1 c2 : Nat) (l : List Tm) (w : World) (hr1 : RdT w ad1 l) (hr2 : RdT w ad2 l) (hb : l.length ≤ 1048576) :
    Calls Tryz.prog 10 #[.slice ad1 l.length c1, .slice ad2 l.length c2] w fun e w' => e = .returned (.bool true) ∧ Below w.heap.size w w' := by
  have H1 := Lib.hid hr1; have H2 := Lib.hid hr2
  clear hr1 hr2
  obtain ⟨n, hn⟩ : ∃ n, l.length = n := ⟨_, rfl⟩
  have HN := Lib.hid hn
  rw [hn] at hb ⊢
  clear hn
  go_enter Tryz.func10, Tryz.ntmps10
  go_wp2_with fail
  go_loopw [13] (fun i wr => ∃ j : Nat, j ≤ n ∧ i = .int .i64 j ∧ Below w.heap.size w wr) (fun i _ => n - (intOf i).toNat)
  case atStart => exact ⟨0, Nat.zero_le _, rfl, Below.refl _ _⟩
  case round =>
    obtain ⟨wE, rfl⟩ : ∃ x : World, x = wr := ⟨_, rfl⟩
    obtain ⟨j, hj, rfl, hbel⟩ := hrel
    by_cases hlt : j < n
    case neg =>
      go_wp2_with fail
      go_ret
      exact ⟨rfl, hbel⟩
    case pos =>
      obtain ⟨b1, o1, rfl, hb1, x0, x1, x2⟩ := H1.out j (by rw [HN.out]; exact hlt)
      obtain ⟨b2, o2, rfl, hb2, y0, y1, y2⟩ := H2.out j (by rw [HN.out]; exact hlt)
      have x0 := bcell hbel hb1 x0
      have x1 := bcell hbel hb1 x1
      have x2 := bcell hbel hb1 x2
      have y0 := bcell hbel hb2 y0
      have y1 := bcell hbel hb2 y1
      have y2 := bcell hbel hb2 y2
      generalize l.getD j default = r at x0 x1 x2 y0 y1 y2
      obtain ⟨rx, ry, rw'⟩ := r
      simp only at x0 x1 x2 y0 y1 y2
      have z1 : (0 : Int) ≤ (j : Int) := by omega
      have z2 : (j : Int) < (n : Int) := by omega
      go_wp2_with fail
      go_quiet (fail)
      go_wp2_with fail
      go_roundw
      case rel => exact ⟨j + 1, by omega, by go_num, bdrewN hbel nq⟩
      case measure => simp [intOf]; omega

set_option maxHeartbeats 400000 in
theorem iIsPlane_c (ad : Option Addr) (cap : Nat) (L : List Tm) (w : World) (hr : RdT w ad L) (hl : L.length ≤ 1048576) :
    Calls Tryz.prog 15 #[.slice ad L.length cap] w fun e w' => e = .returned (.bool (planeB L)) ∧ Below w.heap.size w w' := by
  have C := Lib.hid (isPlane_c ad cap L w hr hl); clear hr hl
  go_enter Tryz.func15, Tryz.ntmps15
  go_wp2_with fail
  refine C.out.mono ?_
  rintro e w1 ⟨rfl, hw⟩
  go_wp2_with fail
  go_ret
  exact ⟨rfl, hw⟩
set_option maxHeartbeats 400000 in
theorem iIsNum_c (n : Int) (w : World) :
    Calls Tryz.prog 16 #[.int .i64 n] w fun e w' => e = .returned (.bool (numB n)) ∧ w' = w := by
  have C := Lib.hid (fun w => isNumber_c n w)
  go_enter Tryz.func16, Tryz.ntmps16
  go_wp2_with fail
  refine (C.out _).mono ?_
  rintro e w1 ⟨rfl, rfl⟩
  go_wp2_with fail
  go_ret
  exact ⟨rfl, rfl⟩
end Go.Proofs.YtbafgmicpopnoaaGreatDoor
