/-
  What the law of polynomials' forms draws. Printed by gen_pfQ.py. By an AI agent.
-/
import Derived.Test.YtfcdmdamniijbaaGreatDoorPfP
import Derived.Test.YtfcdmdamniijbaaGreatDoorRtE
import Derived.Test.YtfcdmdamniijbaaGreatDoorDrawN
import Derived.Test.YtfcdmdamniijbaaGreatDoorBig
import Derived.Test.YtfcdmdamniijbaaGreatDoorOpenB
namespace Go.Proofs.YtfcdmdamniijbaaGreatDoor
open Go.RowKit

theorem numB_sm {x : Int} (h : -4 ≤ x ∧ x ≤ 8) : numB x = true := by unfold numB; rw [show inB x (-1000000) 1000000 = true from inB_t.2 (by omega)]; rfl
theorem numB_of3 {x y z : Int} (hx : -4 ≤ x ∧ x ≤ 8) (hy : -4 ≤ y ∧ y ≤ 8) (h : z ∈ [x, y, 1000000000]) : numB z = true := by
  simp only [List.mem_cons, List.not_mem_nil, or_false] at h
  rcases h with rfl | rfl | rfl
  · exact numB_sm hx
  · exact numB_sm hy
  · rfl
theorem nums_snocN {xs : List Int} {x : Int} (h : ∀ n ∈ xs, numB n = true) (hx : numB x = true) : ∀ n ∈ xs ++ [x], numB n = true := fun n hn => by
  rcases List.mem_append.1 hn with h1 | h1
  · exact h n h1
  · rw [List.mem_singleton.1 h1]; exact hx
set_option maxHeartbeats 6400000 in
set_option maxRecDepth 100000 in
theorem polyN_c (c n : Nat) (w : World) (h : Cur w c n) (hn : n ≤ 4611686018427370000) :
    Calls Tryz.prog 45 #[.pointer (some ⟨c, 0, none⟩)] w (IntsD (fun xs => xs.length ≤ 6 ∧ ∀ n ∈ xs, numB n = true) c (n + 40) w) := by
  have hcl := h.lt
  have H := Lib.hid h; clear h
  obtain ⟨iI, hiI0, hiI1, hiI2, hiI3⟩ := info_parts Tryz.infoI
  have HF1 := Lib.hid (Chg.refl c w)
  go_enter Tryz.func45, Tryz.ntmps45
  go_wp2_with fail
  refine (pick_c 5 c n w H.out (by omega)).mono ?_
  rintro e w3 ⟨x2, rfl, hp4, hcu, hch⟩
  have HU5 := Lib.hid hcu; clear hcu
  have HF6 := Lib.hid (HF1.out.trans hch)
  clear hch
  have hz7 := HF6.out.size
  obtain ⟨N, hN⟩ : ∃ N : Nat, x2 = N := ⟨x2.toNat, by omega⟩
  subst hN
  have hN4 : N ≤ 4 := by omega
  clear hp4
  go_wp2_with fail
  go_loopw [3] (fun v wr => ∃ xs : List Int, xs.length ≤ N ∧ (∀ n ∈ xs, numB n = true) ∧ RowI wr w.heap.size v xs ∧ Cur wr c ((n + 2) + 6 * xs.length) ∧ Chg c w wr) (fun v _ => N - slen v)
  case atStart => exact ⟨[], by simp, (fun n h => by simp at h), RowI.nil _ _, HU5.out.mono (by simp), HF6.out⟩
  case round =>
    obtain ⟨xs, hxs, hnb, hrow, hcu, hch⟩ := hrel
    have HNB := Lib.hid hnb; clear hnb
    have HR := Lib.hid hrow; clear hrow
    have HU := Lib.hid hcu; clear hcu
    have HF := Lib.hid hch; clear hch
    have hsz := HF.out.size
    obtain ⟨wo, rfl⟩ : ∃ wo : World, wo = wr := ⟨_, rfl⟩
    obtain ⟨ad1, cap1, rfl, -⟩ := HR.out.shape
    by_cases hlt : xs.length < N
    case pos =>
      have g1 : decide ((xs.length : Int) < (N : Int)) = true := decide_eq_true (by omega)
      go_wp2_with fail
      refine (small_c c ((n + 2) + 6 * xs.length) wo HU.out (by omega)).mono ?_
      rintro e w9 ⟨x8, rfl, hs8, hcu, hch⟩
      have HU10 := Lib.hid hcu; clear hcu
      have HF11 := Lib.hid (HF.out.trans hch)
      have HR12 := Lib.hid (row_chg HR.out hch (by omega))
      clear hch
      have hz13 := HF11.out.size
      go_wp2_with fail
      refine (small_c c (((n + 2) + 6 * xs.length) + 2) w9 HU10.out (by omega)).mono ?_
      rintro e w15 ⟨x14, rfl, hs14, hcu, hch⟩
      have HU16 := Lib.hid hcu; clear hcu
      have HF17 := Lib.hid (HF11.out.trans hch)
      have HR18 := Lib.hid (row_chg HR12.out hch (by omega))
      clear hch
      have hz19 := HF17.out.size
      go_wp2_with fail
      have HU23 := Lib.hid (HU16.out.below ((Below.refl _ _).alloc (Nat.le_refl _) (.cells #[.int .i64 x8, .int .i64 x14, .int .i64 1000000000] 3)))
      have hl24 := HU16.out.lt
      have HF25 := Lib.hid (HF17.out.trans (Chg.alloc c w15 (.cells #[.int .i64 x8, .int .i64 x14, .int .i64 1000000000] 3)))
      have HR26 := Lib.hid (row_below HR18.out ((Below.refl _ _).alloc (Nat.le_refl _) (.cells #[.int .i64 x8, .int .i64 x14, .int .i64 1000000000] 3)))
      refine (among_c w15.heap.size 3 [x8, x14, 1000000000] c (((n + 2) + 6 * xs.length) + 4) (w15.alloc (.cells #[.int .i64 x8, .int .i64 x14, .int .i64 1000000000] 3)) HU23.out (by omega) (by simp) (by simp) (by omega) (Own.newA w15 _ 3 rfl)).mono ?_
      rintro e w21 ⟨x20, rfl, hx, hcu, hch⟩
      have HN2 := Lib.hid (nums_snocN HNB.out (numB_of3 hs8 hs14 hx))
      clear hx hs8 hs14
      have HU27 := Lib.hid hcu; clear hcu
      have HF28 := Lib.hid (HF25.out.trans hch)
      have HR29 := Lib.hid (row_chg HR26.out hch (by omega))
      clear hch
      have hz30 := HF28.out.size
      go_wp2_with (at_builtin; refine wpList_append_lies _ rfl _ _ 24 rfl w.heap.size 3 iI _ 1 8 Tryz.underlying24 hiI0 hiI1 hiI2 hiI3 rfl (by omega) (.slice ad1 xs.length cap1) xs.length (ints xs) rfl (HR29.out.alloc _) ⟨w21.heap.size, 0, none⟩ 1 1 [.int .i64 x20] rfl rfl (World.news_of_block (cs := #[.int .i64 x20]) (t := 3) (fr := (0, 0)) (heap_alloc_new _ _)) (by simp [Value.oneCell']) (by omega) (by unfold maxLen; omega) (by omega) (by simp; omega) (w21.heap.size + 1) (by simp) ?_; intro g31 cap32 w33 hown hgrow hat hltx; clear hat)
      have hb34 := app_below (Below.refl w.heap.size w21) (by omega) HR29.out hgrow
      have hz35 : w21.heap.size ≤ w33.heap.size := by have := hgrow.size; simp at this; omega
      have HR36 := Lib.hid (row_congr (ys := ints (xs ++ [x20])) hown (m := (xs ++ [x20]).length) (by simp) (by simp [ints])); clear hown
      clear hgrow
      have HU37 := Lib.hid (HU27.out.under hb34 (by omega))
      have HF38 := Lib.hid (HF28.out.under hb34 (by omega) hz35)
      clear hb34
      go_roundw
      case rel => exact ⟨xs ++ [x20], by simp; omega, HN2.out, HR36.out, HU37.out.mono (by simp; omega), HF38.out⟩
      case measure => (simp [slen]; omega)
    case neg =>
      have g1 : decide ((xs.length : Int) < (N : Int)) = false := decide_eq_false (by omega)
      go_wp2_with fail
      refine (small_c c ((n + 2) + 6 * xs.length) wo HU.out (by omega)).mono ?_
      rintro e w40 ⟨x39, rfl, hs39, hcu, hch⟩
      have HN2 := Lib.hid (nums_snocN HNB.out (numB_sm hs39))
      clear hs39
      have HU41 := Lib.hid hcu; clear hcu
      have HF42 := Lib.hid (HF.out.trans hch)
      have HR43 := Lib.hid (row_chg HR.out hch (by omega))
      clear hch
      have hz44 := HF42.out.size
      go_wp2_with (at_builtin; refine wpList_append_lies _ rfl _ _ 24 rfl w.heap.size 3 iI _ 1 8 Tryz.underlying24 hiI0 hiI1 hiI2 hiI3 rfl (by omega) (.slice ad1 xs.length cap1) xs.length (ints xs) rfl (HR43.out.alloc _) ⟨w40.heap.size, 0, none⟩ 1 1 [.int .i64 x39] rfl rfl (World.news_of_block (cs := #[.int .i64 x39]) (t := 3) (fr := (0, 0)) (heap_alloc_new _ _)) (by simp [Value.oneCell']) (by omega) (by unfold maxLen; omega) (by omega) (by simp; omega) (w40.heap.size + 1) (by simp) ?_; intro g45 cap46 w47 hown hgrow hat hltx; clear hat)
      have hb48 := app_below (Below.refl w.heap.size w40) (by omega) HR43.out hgrow
      have hz49 : w40.heap.size ≤ w47.heap.size := by have := hgrow.size; simp at this; omega
      have HR50 := Lib.hid (row_congr (ys := ints (xs ++ [x39])) hown (m := (xs ++ [x39]).length) (by simp) (by simp [ints])); clear hown
      clear hgrow
      have HU51 := Lib.hid (HU41.out.under hb48 (by omega))
      have HF52 := Lib.hid (HF42.out.under hb48 (by omega) hz49)
      clear hb48
      go_ret
      exact ⟨_, xs ++ [x39], rfl, ⟨by simp; omega, HN2.out⟩, HR50.out, HU51.out.mono (by omega), HF52.out⟩
set_option maxHeartbeats 3200000 in
set_option maxRecDepth 100000 in
theorem place_c (c n : Nat) (w : World) (h : Cur w c n) (hn : n ≤ 4611686018427370000) :
    Calls Tryz.prog 53 #[.pointer (some ⟨c, 0, none⟩)] w (SomeI (fun _ => True) c (n + 8) w) := by
  have hcl := h.lt
  have H := Lib.hid h; clear h
  go_enter Tryz.func53, Tryz.ntmps53
  have HF1 := Lib.hid (Chg.refl c w)
  go_wp2_with fail
  refine (small_c c n w H.out (by omega)).mono ?_
  rintro e w3 ⟨x2, rfl, -, hcu, hch⟩
  have HU4 := Lib.hid hcu; clear hcu
  have HF5 := Lib.hid (HF1.out.trans hch)
  clear hch
  have hz6 := HF5.out.size
  go_wp2_with fail
  refine (small_c c (n + 2) w3 HU4.out (by omega)).mono ?_
  rintro e w8 ⟨x7, rfl, -, hcu, hch⟩
  have HU9 := Lib.hid hcu; clear hcu
  have HF10 := Lib.hid (HF5.out.trans hch)
  clear hch
  have hz11 := HF10.out.size
  go_wp2_with fail
  have HU15 := Lib.hid (HU9.out.below ((Below.refl _ _).alloc (Nat.le_refl _) (.cells #[.int .i64 100000, .int .i64 (-100000), .int .i64 1000000, .int .i64 (-1000000), .int .i64 1000000000, .int .i64 (-9223372036854775808)] 3)))
  have hl16 := HU9.out.lt
  have HF17 := Lib.hid (HF10.out.trans (Chg.alloc c w8 (.cells #[.int .i64 100000, .int .i64 (-100000), .int .i64 1000000, .int .i64 (-1000000), .int .i64 1000000000, .int .i64 (-9223372036854775808)] 3)))
  refine (among_c w8.heap.size 6 [100000, -100000, 1000000, -1000000, 1000000000, -9223372036854775808] c (n + 4) (w8.alloc (.cells #[.int .i64 100000, .int .i64 (-100000), .int .i64 1000000, .int .i64 (-1000000), .int .i64 1000000000, .int .i64 (-9223372036854775808)] 3)) HU15.out (by omega) (by simp) (by simp) (by omega) (Own.newA w8 _ 3 rfl)).mono ?_
  rintro e w13 ⟨x12, rfl, hx, hcu, hch⟩
  clear hx
  have HU18 := Lib.hid hcu; clear hcu
  have HF19 := Lib.hid (HF17.out.trans hch)
  clear hch
  have hz20 := HF19.out.size
  go_wp2_with fail
  have HU24 := Lib.hid (HU18.out.below ((Below.refl _ _).alloc (Nat.le_refl _) (.cells #[.int .i64 0, .int .i64 1, .int .i64 (-1), .int .i64 2, .int .i64 x2, .int .i64 x7, .int .i64 x12] 3)))
  have hl25 := HU18.out.lt
  have HF26 := Lib.hid (HF19.out.trans (Chg.alloc c w13 (.cells #[.int .i64 0, .int .i64 1, .int .i64 (-1), .int .i64 2, .int .i64 x2, .int .i64 x7, .int .i64 x12] 3)))
  refine (among_c w13.heap.size 7 [0, 1, -1, 2, x2, x7, x12] c (n + 6) (w13.alloc (.cells #[.int .i64 0, .int .i64 1, .int .i64 (-1), .int .i64 2, .int .i64 x2, .int .i64 x7, .int .i64 x12] 3)) HU24.out (by omega) (by simp) (by simp) (by omega) (Own.newA w13 _ 3 rfl)).mono ?_
  rintro e w22 ⟨x21, rfl, hx, hcu, hch⟩
  clear hx
  have HU27 := Lib.hid hcu; clear hcu
  have HF28 := Lib.hid (HF26.out.trans hch)
  clear hch
  have hz29 := HF28.out.size
  go_wp2_with fail
  go_ret
  exact ⟨_, rfl, trivial, HU27.out.mono (by omega), HF28.out⟩


theorem RowI.shapeC {w : World} {B : Nat} {v : Value} {xs : List Int} (h : RowI w B v xs) : ∃ ad cap, v = .slice ad xs.length cap ∧ xs.length ≤ cap ∧ RdI w ad xs := by
  rcases Own.of_row h with ⟨h1, h0, h2⟩ | ⟨g, cap, h1, _, hc, _, ho⟩
  · have : xs = [] := by simpa [ints] using h2
    subst this
    exact ⟨none, 0, h1, Nat.le_refl _, RdI.nil _ _⟩
  · exact ⟨_, cap, h1, hc, ho.rd⟩
def DrwPx (w : World) (e : Ending) (w' : World) : Prop := ∃ ad cap xs x, e = .returned (.tuple #[.slice ad (List.length xs) cap, .int .i64 x]) ∧ List.length xs ≤ cap ∧ List.length xs ≤ 41 ∧ RdI w' ad xs ∧ Below w.heap.size w w'
set_option maxHeartbeats 3200000 in
set_option maxRecDepth 100000 in
theorem drawPolyValue_c (ad : Option Addr) (len cap : Nat) (w : World) (hl : len ≤ 9223372036854775807) (hr : RdB w ad len) :
    Calls Tryz.prog 25 #[.slice ad len cap] w (DrwPx w) := by
  have hc := cur_new (cap := cap) hr hl
  have hb1 : Below w.heap.size w (w.alloc (.cells #[.slice ad len cap, .int .i64 0, .int .u64 0] 55)) := (Below.refl _ _).alloc (Nat.le_refl _) _
  have hs1 : (w.alloc (.cells #[.slice ad len cap, .int .i64 0, .int .u64 0] 55)).heap.size = w.heap.size + 1 := by simp
  clear hr hl
  obtain ⟨c, hcd⟩ : ∃ c, w.heap.size = c := ⟨_, rfl⟩
  rw [hcd] at hc hs1
  have hwc : w.heap.size ≤ c := by omega
  have HC := Lib.hid hc; have HB := Lib.hid hb1; clear hc hb1
  go_enter Tryz.func25, Tryz.ntmps25
  go_wp2_with fail
  refine (anyPoly_c c 0 _ HC.out (by omega)).mono ?_
  rintro e w1 ⟨v, l, rfl, hll, hrow, hcu, hch⟩
  have hll : l.length ≤ 41 := hll
  rw [hs1] at hrow
  obtain ⟨ad1, cap1, rfl, hcap1, _⟩ := hrow.shapeC
  have B1 := Lib.hid (bchg HB.out hch hwc HB.out.size)
  have R1 := Lib.hid hrow
  have U1 := Lib.hid hcu
  clear hcu hch HC HB hrow hs1
  go_wp2_with fail
  refine (place_c c (0 + 300) w1 U1.out (by omega)).mono ?_
  rintro e w2 ⟨x, rfl, -, hcu, hch⟩
  have B2 := bchg B1.out hch hwc B1.out.size
  obtain ⟨ad2, cap2, e2, R2⟩ := RowI.shape (row_chg R1.out hch (by omega) : RowI w2 _ _ l)
  have R2 : RdI w2 ad1 l := by cases e2; exact R2
  have R2 := Lib.hid R2
  clear hcu hch B1 R1 U1 e2
  go_wp2_with fail
  exact bodyPost_ret (v := .tuple #[.slice ad1 l.length cap1, .int .i64 x]) (by simp [results, Tryz.results25, go_sem]) rfl ⟨ad1, cap1, l, x, rfl, hcap1, hll, R2.out, B2⟩

set_option maxHeartbeats 800000 in
theorem drawMovePoly_c (ad : Option Addr) (len cap : Nat) (w : World) (hl : len ≤ 9223372036854775807) (hr : RdB w ad len) :
    Calls Tryz.prog 5 #[.slice ad len cap] w (DrwPx w) := by
  have C := Lib.hid (drawPolyValue_c ad len cap w hl hr); clear hl hr
  go_enter Tryz.func5, Tryz.ntmps5
  go_wp2_with fail
  refine C.out.mono ?_
  rintro e w1 ⟨ad1, cap1, l1, x, rfl, hc, hl, hr1, hb⟩
  have H1 := Lib.hid hr1; clear hr1
  go_wp2_with fail
  exact bodyPost_ret (v := .tuple #[.slice ad1 l1.length cap1, .int .i64 x]) (by simp [results, Tryz.results5, go_sem]) rfl ⟨ad1, cap1, l1, x, rfl, hc, hl, H1.out, hb⟩

set_option maxHeartbeats 800000 in
theorem drawSlopesAt_c (ad : Option Addr) (len cap : Nat) (w : World) (hl : len ≤ 9223372036854775807) (hr : RdB w ad len) :
    Calls Tryz.prog 9 #[.slice ad len cap] w (DrwPx w) := by
  have C := Lib.hid (drawPolyValue_c ad len cap w hl hr); clear hl hr
  go_enter Tryz.func9, Tryz.ntmps9
  go_wp2_with fail
  refine C.out.mono ?_
  rintro e w1 ⟨ad1, cap1, l1, x, rfl, hc, hl, hr1, hb⟩
  have H1 := Lib.hid hr1; clear hr1
  go_wp2_with fail
  exact bodyPost_ret (v := .tuple #[.slice ad1 l1.length cap1, .int .i64 x]) (by simp [results, Tryz.results9, go_sem]) rfl ⟨ad1, cap1, l1, x, rfl, hc, hl, H1.out, hb⟩

def TxtQ (S : Nat) (w : World) (e : Ending) (w' : World) : Prop := ∃ u : List UInt8, e = .returned (.string ⟨u.toArray⟩) ∧ u.length ≤ S ∧ Below w.heap.size w w'
theorem txtQ {S : Nat} {w : World} {e : Ending} {w' : World} (u : ByteArray) (he : e = .returned (.string u)) (hu : u.size ≤ S) (hb : Below w.heap.size w w') : TxtQ S w e w' :=
  ⟨u.toList, by rw [he, ByteArray.toList_eq], by rw [len_str]; exact hu, hb⟩
set_option maxHeartbeats 3200000 in
set_option maxRecDepth 100000 in
theorem drawParsePoly_c (ad : Option Addr) (len cap : Nat) (w : World) (hl : len ≤ 9223372036854775807) (hr : RdB w ad len) :
    Calls Tryz.prog 22 #[.slice ad len cap] w (TxtQ 400 w) := by
  have hc := cur_new (cap := cap) hr hl
  have hb1 : Below w.heap.size w (w.alloc (.cells #[.slice ad len cap, .int .i64 0, .int .u64 0] 55)) := (Below.refl _ _).alloc (Nat.le_refl _) _
  clear hr hl
  obtain ⟨c, hcd⟩ : ∃ c, w.heap.size = c := ⟨_, rfl⟩
  rw [hcd] at hc
  have hwc : w.heap.size ≤ c := by omega
  have HC := Lib.hid hc; have HB := Lib.hid hb1; clear hc hb1
  go_enter Tryz.func22, Tryz.ntmps22
  go_wp2_with fail
  refine (polyN_c c 0 _ HC.out (by omega)).mono ?_
  rintro e w1 ⟨v, l, rfl, ⟨hll, hln⟩, hrow, hcu, hch⟩
  obtain ⟨ad1, cap1, rfl, hrd⟩ := hrow.shape
  have B1 := Lib.hid (bchg HB.out hch hwc HB.out.size)
  have R1 := Lib.hid hrd
  have U1 := Lib.hid hcu
  have ct := poText_c ad1 cap1 l w1 R1.out (by omega) hln
  have hlen := nums_len (c := 44) (l := l) hln
  clear hcu hch HC HB hrow hln hrd
  obtain ⟨T, hT⟩ : ∃ T : ByteArray, T = ⟨(numsTxt 44 l).toArray⟩ := ⟨_, rfl⟩
  have hTs : T.size ≤ 300 := by rw [hT]; simp only [ByteArray.size, List.size_toArray]; omega
  unfold strV at ct
  rw [← hT] at ct
  have ct := Lib.hid ct
  clear hT hlen
  go_wp2_with fail
  refine ct.out.mono ?_
  rintro e w2 ⟨rfl, hb2⟩
  have B2 := Lib.hid (B1.out.trans (hb2.mono B1.out.size))
  have U2 := Lib.hid (U1.out.below hb2)
  clear B1 U1 R1 hb2
  go_wp2_with fail
  refine (pick_c 5 c (0 + 40) w2 U2.out (by omega)).mono ?_
  rintro e w3 ⟨x, rfl, hx, hcu, hch⟩
  have B3 := Lib.hid (bchg B2.out hch hwc B2.out.size)
  have U3 := Lib.hid hcu
  clear hcu hch B2 U2
  by_cases h1 : x = 0
  case pos =>
    subst h1
    go_wp2_with fail
    refine (spoilt_c T ⟨#[44, 45, 48, 105, 110, 102, 49]⟩ 300 c (0 + 40 + 2) w3 U3.out (by omega) hTs (by omega) (by decide) (by decide)).mono ?_
    rintro e w4 ⟨u, rfl, hu, hcu, hch⟩
    have B4 := Lib.hid (bchg B3.out hch hwc B3.out.size)
    clear hcu hch
    go_wp2_with fail
    go_ret
    exact txtQ u rfl (by omega) B4.out
  case neg =>
    have e1 : (x == 0) = false := beq_eq_false_iff_ne.2 h1
    by_cases h2 : x = 1
    case pos =>
      subst h2
      go_wp2_with fail
      have hBA := B3.out.alloc B3.out.size (.cells #[.string ⟨#[]⟩, .string ⟨#[105, 110, 102]⟩, .string ⟨#[48, 44, 105, 110, 102]⟩, .string ⟨#[48, 44, 44, 49]⟩, .string ⟨#[48, 44, 48, 49]⟩, .string ⟨#[49, 48, 48, 48, 48, 48, 48]⟩, .string ⟨#[49, 48, 48, 48, 48, 48, 49, 44, 48]⟩, .string ⟨#[48, 44, 48, 44, 48, 44, 48, 44, 48, 44, 48, 44, 48, 44, 48, 44, 48, 44, 48, 44, 48, 44, 48, 44, 48]⟩, .string ⟨#[48, 44, 48, 44, 48, 44, 48, 44, 48, 44, 48, 44, 48, 44, 48, 44, 48, 44, 48, 44, 48, 44, 48, 44, 48, 44, 48]⟩] 9)
      have hUA := U3.out.below ((Below.refl _ _).alloc (Nat.le_refl _) (.cells #[.string ⟨#[]⟩, .string ⟨#[105, 110, 102]⟩, .string ⟨#[48, 44, 105, 110, 102]⟩, .string ⟨#[48, 44, 44, 49]⟩, .string ⟨#[48, 44, 48, 49]⟩, .string ⟨#[49, 48, 48, 48, 48, 48, 48]⟩, .string ⟨#[49, 48, 48, 48, 48, 48, 49, 44, 48]⟩, .string ⟨#[48, 44, 48, 44, 48, 44, 48, 44, 48, 44, 48, 44, 48, 44, 48, 44, 48, 44, 48, 44, 48, 44, 48, 44, 48]⟩, .string ⟨#[48, 44, 48, 44, 48, 44, 48, 44, 48, 44, 48, 44, 48, 44, 48, 44, 48, 44, 48, 44, 48, 44, 48, 44, 48, 44, 48]⟩] 9))
      have hcl3 := U3.out.lt
      have HBA := Lib.hid hBA; clear hBA
      refine (of_c w3.heap.size 9 [⟨#[]⟩, ⟨#[105, 110, 102]⟩, ⟨#[48, 44, 105, 110, 102]⟩, ⟨#[48, 44, 44, 49]⟩, ⟨#[48, 44, 48, 49]⟩, ⟨#[49, 48, 48, 48, 48, 48, 48]⟩, ⟨#[49, 48, 48, 48, 48, 48, 49, 44, 48]⟩, ⟨#[48, 44, 48, 44, 48, 44, 48, 44, 48, 44, 48, 44, 48, 44, 48, 44, 48, 44, 48, 44, 48, 44, 48, 44, 48]⟩, ⟨#[48, 44, 48, 44, 48, 44, 48, 44, 48, 44, 48, 44, 48, 44, 48, 44, 48, 44, 48, 44, 48, 44, 48, 44, 48, 44, 48]⟩] c (0 + 40 + 2) _ hUA (by omega) (by simp) (by simp) (by omega) (Own.newA w3 _ 9 rfl)).mono ?_
      rintro e w4 ⟨u, rfl, hu, hcu, hch⟩
      have hu2 : u.size ≤ 28 := by simp at hu; rcases hu with h | h | h | h | h | h | h | h | h <;> (subst h; decide)
      have B4 := Lib.hid (bchg HBA.out hch hwc HBA.out.size)
      clear hu hcu hch HBA hUA
      go_wp2_with fail
      go_ret
      exact txtQ u rfl (by omega) B4.out
    case neg =>
      have e2 : (x == 1) = false := beq_eq_false_iff_ne.2 h2
      go_wp2_with fail
      go_ret
      exact txtQ T rfl (by omega) B3.out
end Go.Proofs.YtfcdmdamniijbaaGreatDoor
