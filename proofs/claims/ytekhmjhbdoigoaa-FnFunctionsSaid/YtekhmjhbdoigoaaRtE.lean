/-
  Any polynomials, those with corners, with a fraction, with a number, that the cursor draws. Printed by gen_rtE.py.
-/
import Derived.Test.YtekhmjhbdoigoaaRtD
namespace Go.Proofs.Ytekhmjhbdoigoaa
open Go.RowKit

set_option maxHeartbeats 6400000 in
set_option maxRecDepth 100000 in
theorem anyPoly_c (c n : Nat) (w : World) (h : Cur w c n) (hn : n ≤ 4611686018427200000) :
    Calls Try.prog 35 #[.pointer (some ⟨c, 0, none⟩)] w (IntsD (fun xs => xs.length ≤ 41) c (n + 300) w) := by
  have hcl := h.lt
  have H := Lib.hid h; clear h
  obtain ⟨iI, hiI0, hiI1, hiI2, hiI3⟩ := info_parts Try.infoI
  have HF1 := Lib.hid (Chg.refl c w)
  go_enter Try.func35, Try.ntmps35
  go_wp2_with fail
  refine (poly_c c n w H.out (by omega)).mono ?_
  rintro e w2 ⟨v, xs3, rfl, hx4, hrow, hcu, hch⟩
  obtain ⟨ad5, cap6, rfl, -⟩ := RowI.shape hrow
  have HU7 := Lib.hid hcu; clear hcu
  have HF8 := Lib.hid (HF1.out.trans hch)
  clear hch
  have hz9 := HF8.out.size
  have HR10 := Lib.hid hrow; clear hrow
  go_wp2_with fail
  refine (pick_c 16 c (n + 40) w2 HU7.out (by omega)).mono ?_
  rintro e w12 ⟨x11, rfl, hp13, hcu, hch⟩
  have HU14 := Lib.hid hcu; clear hcu
  have HF15 := Lib.hid (HF8.out.trans hch)
  have HR16 := Lib.hid (row_chg HR10.out hch (by omega))
  clear hch
  have hz17 := HF15.out.size
  by_cases h1 : x11 = 0
  case pos =>
    subst h1
    clear hp13
    go_wp2_with fail
    refine (pick_c 2 c (n + 42) w12 HU14.out (by omega)).mono ?_
    rintro e w19 ⟨x18, rfl, hp20, hcu, hch⟩
    have HU21 := Lib.hid hcu; clear hcu
    have HF22 := Lib.hid (HF15.out.trans hch)
    clear hch
    have hz23 := HF22.out.size
    obtain ⟨N, hN⟩ : ∃ N : Nat, 12 + x18 = N := ⟨(12 + x18).toNat, by omega⟩
    have eN : IntKind.i64.wrap (12 + x18) = (N : Int) := by rw [hN]; exact i64_small (by omega) (by omega)
    have hN4 : N ≤ 13 := by omega
    clear hp20 hN
    go_wp2_with fail
    go_loopw [3] (fun v wr => ∃ xs : List Int, xs.length ≤ N ∧ RowI wr w.heap.size v xs ∧ Cur wr c ((n + 44) + 2 * xs.length) ∧ Chg c w wr) (fun v _ => N - slen v)
    case atStart => exact ⟨[], by simp, RowI.nil _ _, HU21.out.mono (by simp), HF22.out⟩
    case round =>
      obtain ⟨xs, hxs, hrow, hcu, hch⟩ := hrel
      have HR := Lib.hid hrow; clear hrow
      have HU := Lib.hid hcu; clear hcu
      have HF := Lib.hid hch; clear hch
      have hsz := HF.out.size
      obtain ⟨wo, rfl⟩ : ∃ wo : World, wo = wr := ⟨_, rfl⟩
      obtain ⟨ad1, cap1, rfl, -⟩ := HR.out.shape
      by_cases hlt : xs.length < N
      case pos =>
        have g1 : decide ((xs.length : Int) < (N : Int)) = true := decide_eq_true (by omega)
        go_wp2_with fail
        refine (small_c c ((n + 44) + 2 * xs.length) wo HU.out (by omega)).mono ?_
        rintro e w25 ⟨x24, rfl, -, hcu, hch⟩
        have HU26 := Lib.hid hcu; clear hcu
        have HF27 := Lib.hid (HF.out.trans hch)
        have HR28 := Lib.hid (row_chg HR.out hch (by omega))
        clear hch
        have hz29 := HF27.out.size
        go_wp2_with (at_builtin; refine wpList_append_lies _ rfl _ _ 23 rfl w.heap.size 3 iI _ 1 8 Try.underlying23 hiI0 hiI1 hiI2 hiI3 rfl (by omega) (.slice ad1 xs.length cap1) xs.length (ints xs) rfl (HR28.out.alloc _) ⟨w25.heap.size, 0, none⟩ 1 1 [.int .i64 x24] rfl rfl (World.news_of_block (cs := #[.int .i64 x24]) (t := 3) (fr := (0, 0)) (heap_alloc_new _ _)) (by simp [Value.oneCell']) (by omega) (by unfold maxLen; omega) (by omega) (by simp; omega) (w25.heap.size + 1) (by simp) ?_; intro g30 cap31 w32 hown hgrow hat hltx; clear hat)
        have hb33 := app_below (Below.refl w.heap.size w25) (by omega) HR28.out hgrow
        have hz34 : w25.heap.size ≤ w32.heap.size := by have := hgrow.size; simp at this; omega
        have HR35 := Lib.hid (row_congr (ys := ints (xs ++ [x24])) hown (m := (xs ++ [x24]).length) (by simp) (by simp [ints])); clear hown
        clear hgrow
        have HU36 := Lib.hid (HU26.out.under hb33 (by omega))
        have HF37 := Lib.hid (HF27.out.under hb33 (by omega) hz34)
        clear hb33
        go_roundw
        case rel => exact ⟨xs ++ [x24], by simp; omega, HR35.out, HU36.out.mono (by simp; omega), HF37.out⟩
        case measure => (simp [slen]; omega)
      case neg =>
        have g1 : decide ((xs.length : Int) < (N : Int)) = false := decide_eq_false (by omega)
        go_wp2_with (at_builtin; refine wpList_append_lies _ rfl _ _ 23 rfl w.heap.size 3 iI _ 1 8 Try.underlying23 hiI0 hiI1 hiI2 hiI3 rfl (by omega) (.slice ad1 xs.length cap1) xs.length (ints xs) rfl (HR.out.alloc _) ⟨wo.heap.size, 0, none⟩ 1 1 [.int .i64 0] rfl rfl (World.news_of_block (cs := #[.int .i64 0]) (t := 3) (fr := (0, 0)) (heap_alloc_new _ _)) (by simp [Value.oneCell']) (by omega) (by unfold maxLen; omega) (by omega) (by simp; omega) (wo.heap.size + 1) (by simp) ?_; intro g38 cap39 w40 hown hgrow hat hltx; clear hat)
        have hb41 := app_below (Below.refl w.heap.size wo) (by omega) HR.out hgrow
        have hz42 : wo.heap.size ≤ w40.heap.size := by have := hgrow.size; simp at this; omega
        have HR43 := Lib.hid (row_congr (ys := ints (xs ++ [0])) hown (m := (xs ++ [0]).length) (by simp) (by simp [ints])); clear hown
        clear hgrow
        have HU44 := Lib.hid (HU.out.under hb41 (by omega))
        have HF45 := Lib.hid (HF.out.under hb41 (by omega) hz42)
        clear hb41
        go_wp2_with fail
        go_ret
        exact ⟨_, (xs ++ [0]), rfl, by simp; omega, RowI.mono (by exact HR43.out) (by omega), HU44.out.mono (by omega), HF45.out⟩
  case neg =>
    have e1 : (x11 == 0) = false := beq_eq_false_iff_ne.2 h1
    by_cases h2 : x11 = 1
    case pos =>
      subst h2
      clear e1 h1 hp13
      go_wp2_with fail
      have HU49 := Lib.hid (HU14.out.below ((Below.refl _ _).alloc (Nat.le_refl _) (.cells #[.int .i64 1000000000, .int .i64 1000000, .int .i64 (-1000000), .int .i64 1000001] 3)))
      have hl50 := HU14.out.lt
      have HF51 := Lib.hid (HF15.out.trans (Chg.alloc c w12 (.cells #[.int .i64 1000000000, .int .i64 1000000, .int .i64 (-1000000), .int .i64 1000001] 3)))
      have HR52 := Lib.hid (row_below HR16.out ((Below.refl _ _).alloc (Nat.le_refl _) (.cells #[.int .i64 1000000000, .int .i64 1000000, .int .i64 (-1000000), .int .i64 1000001] 3)))
      refine (among_c w12.heap.size 4 [1000000000, 1000000, (-1000000), 1000001] c (n + 42) (w12.alloc (.cells #[.int .i64 1000000000, .int .i64 1000000, .int .i64 (-1000000), .int .i64 1000001] 3)) HU49.out (by omega) (by simp) (by simp) (by omega) (Own.newA w12 _ 3 rfl)).mono ?_
      rintro e w47 ⟨x46, rfl, hx, hcu, hch⟩
      clear hx
      have HU53 := Lib.hid hcu; clear hcu
      have HF54 := Lib.hid (HF51.out.trans hch)
      have HR55 := Lib.hid (row_chg HR52.out hch (by omega))
      clear hch
      have hz56 := HF54.out.size
      go_wp2_with (at_builtin; refine wpList_append_lies _ rfl _ _ 23 rfl w.heap.size 3 iI _ 1 8 Try.underlying23 hiI0 hiI1 hiI2 hiI3 rfl (by omega) (.slice ad5 xs3.length cap6) xs3.length (ints xs3) rfl (HR55.out.alloc _) ⟨w47.heap.size, 0, none⟩ 1 1 [.int .i64 x46] rfl rfl (World.news_of_block (cs := #[.int .i64 x46]) (t := 3) (fr := (0, 0)) (heap_alloc_new _ _)) (by simp [Value.oneCell']) (by omega) (by unfold maxLen; omega) (by omega) (by simp; omega) (w47.heap.size + 1) (by simp) ?_; intro g57 cap58 w59 hown hgrow hat hltx; clear hat)
      have hb60 := app_below (Below.refl w.heap.size w47) (by omega) HR55.out hgrow
      have hz61 : w47.heap.size ≤ w59.heap.size := by have := hgrow.size; simp at this; omega
      have HR62 := Lib.hid (row_congr (ys := ints (xs3 ++ [x46])) hown (m := (xs3 ++ [x46]).length) (by simp) (by simp [ints])); clear hown
      clear hgrow
      have HU63 := Lib.hid (HU53.out.under hb60 (by omega))
      have HF64 := Lib.hid (HF54.out.under hb60 (by omega) hz61)
      clear hb60
      go_wp2_with fail
      go_ret
      exact ⟨_, (xs3 ++ [x46]), rfl, by simp; omega, RowI.mono (by exact HR62.out) (by omega), HU63.out.mono (by omega), HF64.out⟩
    case neg =>
      have e2 : (x11 == 1) = false := beq_eq_false_iff_ne.2 h2
      by_cases h3 : x11 = 2
      case pos =>
        subst h3
        clear e1 h1 e2 h2 hp13
        go_wp2_with fail
        refine (nums_c c (n + 42) w12 HU14.out (by omega)).mono ?_
        rintro e w65 ⟨v, xs66, rfl, hx67, hrow, hcu, hch⟩
        obtain ⟨ad68, cap69, rfl, -⟩ := RowI.shape hrow
        have HU70 := Lib.hid hcu; clear hcu
        have HF71 := Lib.hid (HF15.out.trans hch)
        clear hch
        have hz72 := HF71.out.size
        have HR73 := Lib.hid hrow; clear hrow
        go_wp2_with fail
        go_ret
        exact ⟨_, xs66, rfl, by simp; omega, RowI.mono (by exact HR73.out) (by omega), HU70.out.mono (by omega), HF71.out⟩
      case neg =>
        have e3 : (x11 == 2) = false := beq_eq_false_iff_ne.2 h3
        go_wp2_with fail
        go_ret
        exact ⟨_, xs3, rfl, by simp; omega, RowI.mono (by exact HR16.out) (by omega), HU14.out.mono (by omega), HF15.out⟩

def ListD (M : Nat) (w : World) (e : Ending) (w' : World) : Prop := ∃ (v : Value) (xs : List Int), e = .returned v ∧ xs.length ≤ M ∧ RowI w' w.heap.size v xs ∧ Below w.heap.size w w'

set_option maxHeartbeats 3200000 in
set_option maxRecDepth 100000 in
theorem drawCorners_c (ad : Option Addr) (len cap : Nat) (w : World) (hl : len ≤ 9223372036854775807) (hr : RdB w ad len) :
    Calls Try.prog 22 #[.slice ad len cap] w (ListD 41 w) := by
  have HC := Lib.hid (cur_new (cap := cap) hr hl)
  clear hr
  go_enter Try.func22, Try.ntmps22
  go_wp2_with fail
  obtain ⟨wA, hwA⟩ : ∃ x, w.alloc (.cells #[.slice ad len cap, .int .i64 0, .int .u64 0] 56) = x := ⟨_, rfl⟩
  have hnew : ∀ w', Chg w.heap.size wA w' → Below w.heap.size w w' := fun w' h => by rw [← hwA] at h; exact chg_new h
  have hzA : wA.heap.size = w.heap.size + 1 := by rw [← hwA]; simp
  rw [hwA] at HC ⊢
  have HNEW := Lib.hid hnew; clear hnew hwA
  obtain ⟨g, hg⟩ : ∃ g, w.heap.size = g := ⟨_, rfl⟩
  rw [hg] at HC HNEW hzA ⊢
  have hcl := HC.out.lt
  have HG := Lib.hid hg; clear hg
  have HF1 := Lib.hid (Chg.refl g wA)
  refine (anyPoly_c g 0 wA HC.out (by omega)).mono ?_
  rintro e w2 ⟨v, xs3, rfl, hx4, hrow, hcu, hch⟩
  obtain ⟨ad1, cap1, rfl, -⟩ := RowI.shape hrow
  have HU5 := Lib.hid hcu; clear hcu
  have HF6 := Lib.hid (HF1.out.trans hch)
  clear hch
  have hz7 := HF6.out.size
  have HR8 := Lib.hid hrow; clear hrow
  obtain ⟨N, hN⟩ : ∃ N, xs3.length = N := ⟨_, rfl⟩
  have HXL := hN
  have HXB : xs3.length ≤ 41 := hx4
  have hN41 : N ≤ 41 := by omega
  rw [hN]
  clear hN hx4
  by_cases h3 : 3 < N
  case neg =>
    have q3 : decide ((3 : Int) < (N : Int)) = false := decide_eq_false (by omega)
    go_wp2_with fail
    go_ret
    exact ⟨_, xs3, rfl, by omega, rowI_lower (B := wA.heap.size) (by (have h9 := HR8.out); (try unfold RowI at h9); unfold RowI; rw [HXL] at h9 ⊢; exact h9) (by have := HG.out; omega), by rw [HG.out]; exact HNEW.out _ HF6.out⟩
  case pos =>
    have q3 : decide ((3 : Int) < (N : Int)) = true := decide_eq_true (by omega)
    go_wp2_with fail
    refine (one_c 3 g (0 + 300) w2 HU5.out (by omega)).mono ?_
    rintro e w10 ⟨b9, rfl, hcu, hch⟩
    have HU11 := Lib.hid hcu; clear hcu
    have HF12 := Lib.hid (HF6.out.trans hch)
    have HR13 := Lib.hid (row_chg HR8.out hch (by omega))
    clear hch
    have hz14 := HF12.out.size
    cases b9
    case false =>
      go_wp2_with fail
      go_ret
      exact ⟨_, xs3, rfl, by omega, rowI_lower (B := wA.heap.size) (by (have h9 := HR13.out); (try unfold RowI at h9); unfold RowI; rw [HXL] at h9 ⊢; exact h9) (by have := HG.out; omega), by rw [HG.out]; exact HNEW.out _ HF12.out⟩
    case true =>
      obtain ⟨g15, rfl, hg16⟩ : ∃ g, ad1 = some ⟨g, 0, none⟩ ∧ wA.heap.size ≤ g := by
        obtain ⟨g, cap, e, hg⟩ := RowI.own (by exact HR13.out) (by rw [HXL]; omega)
        injection e with e1 _ _
        exact ⟨g, e1, hg⟩
      have x0 : (0 : Int) < (N : Int) := by omega
      have x1 : (1 : Int) < (N : Int) := by omega
      have x2 : (2 : Int) < (N : Int) := by omega
      have X0 : 0 < N := by omega
      have X1 : 1 < N := by omega
      have X2 : 2 < N := by omega
      have hrw17 := HR13.out
      have fz0 := World.ownsRow.frozenAt hrw17 0
      have cz0 := World.ownsRow.cellAt hrw17 0 (by rw [HXL]; omega)
      rw [ints_get (show 0 < xs3.length by rw [HXL]; omega)] at cz0
      have fz1 := World.ownsRow.frozenAt hrw17 1
      have cz1 := World.ownsRow.cellAt hrw17 1 (by rw [HXL]; omega)
      rw [ints_get (show 1 < xs3.length by rw [HXL]; omega)] at cz1
      obtain ⟨y0, hy0⟩ : ∃ y, xs3.getD 0 0 = y := ⟨_, rfl⟩
      rw [hy0] at cz0
      obtain ⟨z1, hz1⟩ : ∃ z, IntKind.i64.wrap (leastZ y0 5 + 1) = z := ⟨_, rfl⟩
      clear hy0
      go_wp2_with fail
      refine (l1Least_n y0 5 _).mono ?_
      rintro e w' ⟨rfl, hww⟩
      subst hww
      have hs1 : RowI (w10.setCell ⟨g15, 1, none⟩ (.int .i64 z1)) wA.heap.size (.slice (some ⟨g15, 0, none⟩) xs3.length cap1) _ := RowI.set (cap := cap1) (by exact hrw17) 1 z1
      have hl1 : (xs3.set 1 z1).length = xs3.length := List.length_set
      rw [← hl1] at hs1
      have c11 := World.ownsRow.cellAt hs1 1 (by rw [hl1, HXL]; omega)
      rw [ints_get (by rw [hl1, HXL]; omega)] at c11
      have gd1 : (xs3.set 1 z1).getD 1 0 = z1 := by simp [List.getD_eq_getElem?_getD, show 1 < xs3.length by omega]
      rw [gd1] at c11
      have c10 := World.ownsRow.cellAt hs1 0 (by rw [hl1, HXL]; omega)
      have f10 := World.ownsRow.frozenAt hs1 0
      rw [ints_get (by rw [hl1, HXL]; omega)] at c10
      obtain ⟨z0, hz0⟩ : ∃ z, IntKind.i64.wrap (z1 - 1) = z := ⟨_, rfl⟩
      obtain ⟨z2, hz2⟩ : ∃ z, IntKind.i64.wrap (z1 + 1) = z := ⟨_, rfl⟩
      have hs2 := RowI.set (cap := cap1) hs1 0 z0
      have hl2 : ((xs3.set 1 z1).set 0 z0).length = (xs3.set 1 z1).length := List.length_set
      rw [← hl2] at hs2
      have c21 := World.ownsRow.cellAt hs2 1 (by rw [hl2, hl1, HXL]; omega)
      rw [ints_get (by rw [hl2, hl1, HXL]; omega)] at c21
      have gd2 : ((xs3.set 1 z1).set 0 z0).getD 1 0 = z1 := by simp [List.getD_eq_getElem?_getD, show 1 < xs3.length by omega]
      rw [gd2] at c21
      have c22 := World.ownsRow.cellAt hs2 2 (by rw [hl2, hl1, HXL]; omega)
      rw [ints_get (by rw [hl2, hl1, HXL]; omega)] at c22
      have f22 := World.ownsRow.frozenAt hs2 2
      have hs3 := RowI.set (cap := cap1) hs2 2 z2
      have hl3 : (((xs3.set 1 z1).set 0 z0).set 2 z2).length = N := by rw [List.length_set, hl2, hl1, HXL]
      rw [hl2, hl1, HXL] at hs3
      have hbS := (((Below.refl wA.heap.size w10).setCell (p := ⟨g15, 1, none⟩) hg16 (.int .i64 z1)).setCell (p := ⟨g15, 0, none⟩) hg16 (.int .i64 z0)).setCell (p := ⟨g15, 2, none⟩) hg16 (.int .i64 z2)
      have HFS := Lib.hid (HF12.out.under hbS (Nat.le_refl _) (by simp [World.setCell]))
      have HS3 := Lib.hid hs3
      generalize ((xs3.set 1 z1).set 0 z0).set 2 z2 = ys at HS3 hl3
      clear hs1 hs2 hs3 hbS hl1 hl2 gd1 gd2 hrw17
      go_wp2_with fail
      go_ret
      exact ⟨_, ys, rfl, by omega, rowI_lower (B := wA.heap.size) (by (have h9 := HS3.out); (try unfold RowI at h9); unfold RowI; rw [hl3] at h9 ⊢; exact h9) (by have := HG.out; omega), by rw [HG.out]; exact HNEW.out _ HFS.out⟩

def ListND (M : Nat) (w : World) (e : Ending) (w' : World) : Prop := ∃ (v : Value) (xs : List Int) (x : Int), e = .returned (.tuple #[v, .int .i64 x]) ∧ xs.length ≤ M ∧ RowI w' w.heap.size v xs ∧ Below w.heap.size w w'
def ListFD (M : Nat) (w : World) (e : Ending) (w' : World) : Prop := ∃ (v : Value) (xs : List Int) (f : Fr), e = .returned (.tuple #[v, frV f]) ∧ xs.length ≤ M ∧ RowI w' w.heap.size v xs ∧ Below w.heap.size w w'
theorem RowI.setOther {w : World} {B g : Nat} {v : Value} {xs : List Int} {a b : Int} (h : RowI w B v xs) (hg : g < B) : RowI (fr2 w g a b) B v xs :=
  row_chg (row_chg h (Chg.set g 0 w (.int .i64 a)) hg) (Chg.set g 1 _ (.int .i64 b)) hg
set_option maxHeartbeats 3200000 in
set_option maxRecDepth 100000 in
theorem drawTimesOfRoot_c (ad : Option Addr) (len cap : Nat) (w : World) (hl : len ≤ 9223372036854775807) (hr : RdB w ad len) :
    Calls Try.prog 48 #[.slice ad len cap] w (ListFD 41 w) := by
  have hb0 : Below w.heap.size w (w.alloc (.cells #[.int .i64 0, .int .i64 0] 38)) := (Below.refl _ _).alloc (Nat.le_refl _) _
  have hc := cur_new (cap := cap) (hr.below hb0) hl
  have hz := (FrO.new w 0 0 rfl).alloc (.cells #[.slice ad len cap, .int .i64 0, .int .u64 0] 56)
  have hb1 : Below w.heap.size w ((w.alloc (.cells #[.int .i64 0, .int .i64 0] 38)).alloc (.cells #[.slice ad len cap, .int .i64 0, .int .u64 0] 56)) := hb0.alloc hb0.size _
  have hs1 : ((w.alloc (.cells #[.int .i64 0, .int .i64 0] 38)).alloc (.cells #[.slice ad len cap, .int .i64 0, .int .u64 0] 56)).heap.size = w.heap.size + 1 + 1 := by simp
  clear hr hl hb0
  obtain ⟨g, hg⟩ : ∃ g, w.heap.size = g := ⟨_, rfl⟩
  rw [hg] at hz hs1
  rw [show (w.alloc (.cells #[.int .i64 0, .int .i64 0] 38)).heap.size = g + 1 by simp [hg]] at hc
  obtain ⟨c, hcd⟩ : ∃ c, g + 1 = c := ⟨_, rfl⟩
  rw [hcd] at hc hs1
  have hgc : g ≠ c := by omega
  have hwg : w.heap.size ≤ g := by omega
  have hwc : w.heap.size ≤ c := by omega
  have HC := Lib.hid hc; have HB := Lib.hid hb1; clear hc hb1
  go_enter Try.func48, Try.ntmps48
  go_wp2_with fail
  refine (anyPoly_c c 0 _ HC.out (by omega)).mono ?_
  rintro e w1 ⟨v, xs, rfl, hxs, hrow, hcu, hch⟩
  rw [hs1] at hrow
  obtain ⟨ad1, cap1, rfl, hrd⟩ := RowI.shape hrow
  have o1 := hz.chg hch hgc
  have B1 := Lib.hid (bchg HB.out hch hwc HB.out.size)
  have H1 := Lib.hid hcu
  have HO1 := Lib.hid hrow; have HRD := Lib.hid hrd
  have hz1 := hch.size
  rw [hs1] at hz1
  clear hcu hch hz HC HB hrow hrd hs1
  have cg := fun w h => poGood_c ad1 cap1 xs w h (by omega)
  have cr := fun w h hp => rtRoots_c ad1 cap1 xs w h hp
  generalize polyB xs = u at cg cr
  have CG := Lib.hid cg; have CR := Lib.hid cr; clear cg cr
  obtain ⟨b0, b1⟩ := o1.at
  obtain ⟨c0, c1⟩ := o1.fr
  go_wp2_with fail
  refine (CG.out _ HRD.out).mono ?_
  rintro e w' ⟨rfl, hww⟩
  subst hww
  cases u
  case false =>
    go_wp2_with fail
    refine (anyFrac_e c (0 + 300) _ H1.out (by omega)).mono ?_
    rintro e w4 ⟨x, y, rfl, hcu, hch⟩
    have o4 := o1.chg hch hgc
    have B4 := bchg B1.out hch hwc B1.out.size
    have HO4 := Lib.hid (rowI_lower (RowI.setOther (g := g) (a := x) (b := y) (row_chg HO1.out hch (by omega)) (by omega)) (show w.heap.size ≤ c + 1 by omega))
    clear b0 b1 c0 c1
    obtain ⟨b0, b1⟩ := o4.at
    obtain ⟨c0, c1⟩ := o4.fr
    go_wp2_with fail
    obtain ⟨W, hW, ⟨q0, q1⟩, hB⟩ := fr2_end (a := x) (b := y) o4 B4 hwg
    rw [hW] at HO4
    unfold fr2 at hW
    rw [hW]
    exact bodyPost_ret (v := .tuple #[.slice ad1 xs.length cap1, .agg #[.int .i64 x, .int .i64 y]]) (by simp [results, Try.results48, go_sem, q0, q1]) rfl ⟨_, xs, ⟨x, y⟩, rfl, hxs, HO4.out, by first | exact hB | (rw [← hg]; exact hB)⟩
  case true =>
    go_wp2_with fail
    refine (one_c 2 c (0 + 300) _ H1.out (by omega)).mono ?_
    rintro e w2 ⟨t, rfl, hcu, hch⟩
    have o2 := o1.chg hch hgc
    have B2 := Lib.hid (bchg B1.out hch hwc B1.out.size)
    have HO2 := Lib.hid (row_chg HO1.out hch (by omega))
    have H2 := Lib.hid hcu
    have HRD2 := Lib.hid (RowI.rdc (B := c + 1) (n := xs.length) (cap := cap1) (by exact HO2.out))
    have hz2 := Nat.le_trans hz1 hch.size
    clear b0 b1 c0 c1 hcu hch o1
    obtain ⟨b0, b1⟩ := o2.at
    obtain ⟨c0, c1⟩ := o2.fr
    cases t
    case false =>
      go_wp2_with fail
      refine (anyFrac_e c (0 + 300 + 2) _ H2.out (by omega)).mono ?_
      rintro e w4 ⟨x, y, rfl, hcu, hch⟩
      have o4 := o2.chg hch hgc
      have B4 := bchg B2.out hch hwc B2.out.size
      have HO4 := Lib.hid (rowI_lower (RowI.setOther (g := g) (a := x) (b := y) (row_chg HO2.out hch (by omega)) (by omega)) (show w.heap.size ≤ c + 1 by omega))
      clear b0 b1 c0 c1
      obtain ⟨b0, b1⟩ := o4.at
      obtain ⟨c0, c1⟩ := o4.fr
      go_wp2_with fail
      obtain ⟨W, hW, ⟨q0, q1⟩, hB⟩ := fr2_end (a := x) (b := y) o4 B4 hwg
      rw [hW] at HO4
      unfold fr2 at hW
      rw [hW]
      exact bodyPost_ret (v := .tuple #[.slice ad1 xs.length cap1, .agg #[.int .i64 x, .int .i64 y]]) (by simp [results, Try.results48, go_sem, q0, q1]) rfl ⟨_, xs, ⟨x, y⟩, rfl, hxs, HO4.out, by first | exact hB | (rw [← hg]; exact hB)⟩
    case true =>
      go_wp2_with fail
      refine (CR.out _ HRD2.out trivial).mono ?_
      rintro e w3 ⟨vR, rfl, hrowR, hw3⟩
      obtain ⟨adR, capR, rfl, -, -⟩ := hrowR.shape
      obtain ⟨RS, hRS⟩ : ∃ RS, rootsP xs = RS := ⟨_, rfl⟩
      rw [hRS] at hrowR ⊢
      have hlR := (show RS.length ≤ 41 by
        have h1 := rootsP_len xs
        have h2 := corL_len (c := cof xs) (finK_inc xs xs.length)
        have h3 := finK_len xs xs.length
        have h4 : (corP xs).length ≤ (finK xs xs.length).length := h2
        rw [hRS] at h1
        omega)
      have o3 := o2.below hw3
      have B3 := Lib.hid (ball B2.out hw3)
      have HO3 := Lib.hid (RowI.below HO2.out hw3)
      have H3 := Lib.hid (H2.out.below hw3)
      have HR3 := Lib.hid hrowR
      have hz3 := Nat.le_trans hz2 hw3.size
      clear b0 b1 c0 c1 hw3 o2 hrowR hRS
      obtain ⟨b0, b1⟩ := o3.at
      obtain ⟨c0, c1⟩ := o3.fr
      by_cases h0 : 0 < RS.length
      case neg =>
        have q0 : decide ((0 : Int) < (RS.length : Int)) = false := decide_eq_false (by omega)
        go_wp2_with fail
        refine (anyFrac_e c (0 + 300 + 2) _ H3.out (by omega)).mono ?_
        rintro e w4 ⟨x, y, rfl, hcu, hch⟩
        have o4 := o3.chg hch hgc
        have B4 := bchg B3.out hch hwc B3.out.size
        have HO4 := Lib.hid (rowI_lower (RowI.setOther (g := g) (a := x) (b := y) (row_chg HO3.out hch (by omega)) (by omega)) (show w.heap.size ≤ c + 1 by omega))
        clear b0 b1 c0 c1
        obtain ⟨b0, b1⟩ := o4.at
        obtain ⟨c0, c1⟩ := o4.fr
        go_wp2_with fail
        obtain ⟨W, hW, ⟨q0, q1⟩, hB⟩ := fr2_end (a := x) (b := y) o4 B4 hwg
        rw [hW] at HO4
        unfold fr2 at hW
        rw [hW]
        exact bodyPost_ret (v := .tuple #[.slice ad1 xs.length cap1, .agg #[.int .i64 x, .int .i64 y]]) (by simp [results, Try.results48, go_sem, q0, q1]) rfl ⟨_, xs, ⟨x, y⟩, rfl, hxs, HO4.out, by first | exact hB | (rw [← hg]; exact hB)⟩
      case pos =>
        have q0 : decide ((0 : Int) < (RS.length : Int)) = true := decide_eq_true (by omega)
        have cp := Lib.hid (fun (W : World) (hW : Cur W c (0 + 300 + 2)) => pick_c (RS.length : Int) c (0 + 300 + 2) W hW (by omega))
        go_wp2_with fail
        go_region_with (first
            | (go_at_call 38; (with_reducible refine (cp.out _ (by first | exact H3.out | exact H3.out.below (Below.refl _ _).drew)).mono ?_); rintro e W1 ⟨k, rfl, ⟨hk0, hk1⟩, hcu, hch⟩; obtain ⟨j, rfl⟩ : ∃ j : Nat, k = j := ⟨k.toNat, by omega⟩; have hj : j < RS.length := (by omega); have hjx : (j : Int) < (RS.length : Int) := (by omega); have oW := FrO.chg (by exact o3) hch hgc; have BW := Lib.hid (bchg (by first | exact B3.out | exact B3.out.drew) hch hwc (by first | exact B3.out.size | exact B3.out.drew.size)); have HOW := Lib.hid (row_chg (by first | exact HO3.out | exact RowI.below HO3.out (Below.refl _ _).drew) hch (by omega)); have HRW := Lib.hid (row_chg (by first | exact HR3.out | exact RowR.drew' HR3.out) hch (by omega)); obtain ⟨bR, offR, hadR, hbR, r0, r1, r2⟩ := RowR.rd (l := RS) (by exact HRW.out) j hj; subst hadR; generalize (RS.getD j Rt.z).f.n = X at r0; generalize (RS.getD j Rt.z).f.d = Y at r1; obtain ⟨b0', b1'⟩ := oW.at; obtain ⟨c0', c1'⟩ := oW.fr))
        all_goals
          go_wp2_with fail
          obtain ⟨W, hW, ⟨q0, q1⟩, hB⟩ := fr2_end (a := X) (b := Y) oW BW.out hwg
          have HO4 := Lib.hid (rowI_lower (RowI.setOther (g := g) (a := X) (b := Y) (by exact HOW.out) (by omega)) (show w.heap.size ≤ c + 1 by omega))
          rw [hW] at HO4
          unfold fr2 at hW
          rw [hW]
          exact bodyPost_ret (v := .tuple #[.slice ad1 xs.length cap1, .agg #[.int .i64 X, .int .i64 Y]]) (by simp [results, Try.results48, go_sem, q0, q1]) rfl ⟨_, xs, ⟨X, Y⟩, rfl, hxs, HO4.out, by first | exact hB | (rw [← hg]; exact hB)⟩


end Go.Proofs.Ytekhmjhbdoigoaa
