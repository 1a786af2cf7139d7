/-
  Any stars that the cursor draws. Printed by gen_stX.py.
-/
import Derived.Test.YtlplodkabeiimaaStW
import Derived.Test.YtlplodkabeiimaaRowI
namespace Go.Proofs.Ytlplodkabeiimaa
open Go.RowKit

theorem rysV_set0 : ∀ (l : List Ry) (j : Nat) (x : Int), j < l.length → rysV (l.set j ⟨x, (l.getD j default).y, (l.getD j default).w⟩) = (rysV l).set (j * 3) (.int .i64 x)
  | a :: l, 0, x, _ => by simp [rysV_cons]
  | a :: l, j + 1, x, h => by
    have ih := rysV_set0 l j x (by simpa using h)
    rw [List.getD_cons_succ, List.set_cons_succ, rysV_cons, ih, rysV_cons, show (j + 1) * 3 = (j * 3) + 1 + 1 + 1 by omega, List.set_cons_succ, List.set_cons_succ, List.set_cons_succ]
theorem RowY.set0 {w : World} {B g cap : Nat} {l : List Ry} (h : RowY w B (.slice (some ⟨g, 0, none⟩) l.length cap) l) {j : Nat} (hj : j < l.length) (x : Int) :
    RowY (w.setCell ⟨g, j * 3, none⟩ (.int .i64 x)) B (.slice (some ⟨g, 0, none⟩) l.length cap) (l.set j ⟨x, (l.getD j default).y, (l.getD j default).w⟩) :=
  rowY_congr (World.ownsRow.stored h (j * 3) (.int .i64 x)).1 (by simp) (rysV_set0 l j x hj).symm

set_option maxHeartbeats 6400000 in
set_option maxRecDepth 100000 in
theorem anyStar_c (c n : Nat) (w : World) (h : Cur w c n) (hn : n ≤ 4611686018427300000) :
    Calls Try.prog 25 #[.pointer (some ⟨c, 0, none⟩)] w (StarD 11 c (n + 60) w) := by
  have hcl := h.lt
  have H := Lib.hid h; clear h
  obtain ⟨iY, hiY0, hiY1, hiY2, hiY3⟩ := info_parts Try.infoY
  have HF1 := Lib.hid (Chg.refl c w)
  go_enter Try.func25, Try.ntmps25
  go_wp2_with fail
  refine (star_c c n w H.out (by omega)).mono ?_
  rintro e w2 ⟨_, l, rfl, ⟨ad, cap, rfl, hll, hrow, hsy⟩, hcu, hch⟩
  clear hsy
  have HU3 := Lib.hid hcu; clear hcu
  have HF4 := Lib.hid (HF1.out.trans hch)
  clear hch
  have hz5 := HF4.out.size
  have HR6 := Lib.hid hrow; clear hrow
  go_wp2_with fail
  refine (pick_c 24 c (n + 40) w2 HU3.out (by omega)).mono ?_
  rintro e w8 ⟨x7, rfl, hp9, hcu, hch⟩
  have HU10 := Lib.hid hcu; clear hcu
  have HF11 := Lib.hid (HF4.out.trans hch)
  have HR12 := Lib.hid (row_chg HR6.out hch (by omega))
  clear hch
  have hz13 := HF11.out.size
  by_cases h1 : x7 = 0
  case pos =>
    subst h1
    clear hp9
    go_wp2_with fail
    have HU17 := Lib.hid (HU10.out.below ((Below.refl _ _).alloc (Nat.le_refl _) (.cells #[.int .i64 20, .int .i64 21, .int .i64 2] 3)))
    have hl18 := HU10.out.lt
    have HF19 := Lib.hid (HF11.out.trans (Chg.alloc c w8 (.cells #[.int .i64 20, .int .i64 21, .int .i64 2] 3)))
    have HR20 := Lib.hid (row_below HR12.out ((Below.refl _ _).alloc (Nat.le_refl _) (.cells #[.int .i64 20, .int .i64 21, .int .i64 2] 3)))
    refine (among_c w8.heap.size 3 [20, 21, 2] c (n + 42) (w8.alloc (.cells #[.int .i64 20, .int .i64 21, .int .i64 2] 3)) HU17.out (by omega) (by simp) (by simp) (by omega) (Own.newA w8 _ 3 rfl)).mono ?_
    rintro e w15 ⟨x14, rfl, hx, hcu, hch⟩
    clear hx
    have HU21 := Lib.hid hcu; clear hcu
    have HF22 := Lib.hid (HF19.out.trans hch)
    have HR23 := Lib.hid (row_chg HR20.out hch (by omega))
    clear hch
    have hz24 := HF22.out.size
    go_wp2_with fail
    have HU28 := Lib.hid (HU21.out.below ((Below.refl _ _).alloc (Nat.le_refl _) (.cells #[.int .i64 1, .int .i64 0, .int .i64 (-20), .int .i64 21] 3)))
    have hl29 := HU21.out.lt
    have HF30 := Lib.hid (HF22.out.trans (Chg.alloc c w15 (.cells #[.int .i64 1, .int .i64 0, .int .i64 (-20), .int .i64 21] 3)))
    have HR31 := Lib.hid (row_below HR23.out ((Below.refl _ _).alloc (Nat.le_refl _) (.cells #[.int .i64 1, .int .i64 0, .int .i64 (-20), .int .i64 21] 3)))
    refine (among_c w15.heap.size 4 [1, 0, (-20), 21] c (n + 44) (w15.alloc (.cells #[.int .i64 1, .int .i64 0, .int .i64 (-20), .int .i64 21] 3)) HU28.out (by omega) (by simp) (by simp) (by omega) (Own.newA w15 _ 3 rfl)).mono ?_
    rintro e w26 ⟨x25, rfl, hx, hcu, hch⟩
    clear hx
    have HU32 := Lib.hid hcu; clear hcu
    have HF33 := Lib.hid (HF30.out.trans hch)
    have HR34 := Lib.hid (row_chg HR31.out hch (by omega))
    clear hch
    have hz35 := HF33.out.size
    go_wp2_with fail
    have HU39 := Lib.hid (HU32.out.below ((Below.refl _ _).alloc (Nat.le_refl _) (.cells #[.int .i64 1, .int .i64 20, .int .i64 21, .int .i64 0] 3)))
    have hl40 := HU32.out.lt
    have HF41 := Lib.hid (HF33.out.trans (Chg.alloc c w26 (.cells #[.int .i64 1, .int .i64 20, .int .i64 21, .int .i64 0] 3)))
    have HR42 := Lib.hid (row_below HR34.out ((Below.refl _ _).alloc (Nat.le_refl _) (.cells #[.int .i64 1, .int .i64 20, .int .i64 21, .int .i64 0] 3)))
    refine (among_c w26.heap.size 4 [1, 20, 21, 0] c (n + 46) (w26.alloc (.cells #[.int .i64 1, .int .i64 20, .int .i64 21, .int .i64 0] 3)) HU39.out (by omega) (by simp) (by simp) (by omega) (Own.newA w26 _ 3 rfl)).mono ?_
    rintro e w37 ⟨x36, rfl, hx, hcu, hch⟩
    clear hx
    have HU43 := Lib.hid hcu; clear hcu
    have HF44 := Lib.hid (HF41.out.trans hch)
    have HR45 := Lib.hid (row_chg HR42.out hch (by omega))
    clear hch
    have hz46 := HF44.out.size
    go_wp2_with (at_builtin; refine wpList_append_lies _ rfl _ _ 24 rfl w.heap.size 35 iY _ 3 24 Try.underlying24 hiY0 hiY1 hiY2 hiY3 rfl (by omega) (.slice ad l.length cap) l.length (rysV l) rfl (HR45.out.alloc _) ⟨w37.heap.size, 0, none⟩ 1 1 [.int .i64 x14, .int .i64 x25, .int .i64 x36] rfl rfl (World.news_of_block (cs := #[.int .i64 x14, .int .i64 x25, .int .i64 x36]) (t := 35) (fr := (0, 0)) (heap_alloc_new _ _)) (by simp [Value.oneCell']) (by omega) (by unfold maxLen; omega) (by omega) (by simp; omega) (w37.heap.size + 1) (by simp) ?_; intro g47 cap48 w49 hown hgrow hat hltx; clear hat)
    have hb50 := app_below (Below.refl w.heap.size w37) (by omega) HR45.out hgrow
    have hz51 : w37.heap.size ≤ w49.heap.size := by have := hgrow.size; simp at this; omega
    have HR52 := Lib.hid (row_congr (ys := rysV (l ++ [(⟨x14, x25, x36⟩ : Ry)])) hown (m := (l ++ [(⟨x14, x25, x36⟩ : Ry)]).length) (by simp) (by simp [rysV])); clear hown
    clear hgrow
    have HU53 := Lib.hid (HU43.out.under hb50 (by omega))
    have HF54 := Lib.hid (HF44.out.under hb50 (by omega) hz51)
    clear hb50
    go_wp2_with fail
    go_ret
    exact ⟨_, l ++ [(⟨x14, x25, x36⟩ : Ry)], rfl, RowS.of (by exact HR52.out) (by (try simp); omega), HU53.out.mono (by omega), HF54.out⟩
  case neg =>
    have e1 : (x7 == 0) = false := beq_eq_false_iff_ne.2 h1
    by_cases h2 : x7 = 1
    case pos =>
      subst h2
      clear e1 h1 hp9
      go_wp2_with fail
      refine (pick_c 2 c (n + 42) w8 HU10.out (by omega)).mono ?_
      rintro e w56 ⟨x55, rfl, hp57, hcu, hch⟩
      have HU58 := Lib.hid hcu; clear hcu
      have HF59 := Lib.hid (HF11.out.trans hch)
      have HR60 := Lib.hid (row_chg HR12.out hch (by omega))
      clear hch
      have hz61 := HF59.out.size
      obtain ⟨N, hN⟩ : ∃ N : Nat, 10 + x55 = N := ⟨(10 + x55).toNat, by omega⟩
      have eN : IntKind.i64.wrap (10 + x55) = (N : Int) := by rw [hN]; exact i64_small (by omega) (by omega)
      have hN4 : N ≤ 11 := by omega
      clear hp57 hN
      go_wp2_with fail
      go_loopw [3] (fun v wr => ∃ xs : List Ry, xs.length ≤ N ∧ RowY wr w.heap.size v xs ∧ Cur wr c ((n + 44)) ∧ Chg c w wr) (fun v _ => N - slen v)
      case atStart => exact ⟨[], by simp, RowY.nil _ _, HU58.out, HF59.out⟩
      case round =>
        obtain ⟨xs, hxs, hrow, hcu, hch⟩ := hrel
        obtain ⟨ad1, cap1, rfl, -⟩ := hrow.shape
        have HR := Lib.hid hrow; clear hrow
        have HU := Lib.hid hcu; clear hcu
        have HF := Lib.hid hch; clear hch
        have hsz := HF.out.size
        obtain ⟨wo, rfl⟩ : ∃ wo : World, wo = wr := ⟨_, rfl⟩
        by_cases hlt : xs.length < N
        case pos =>
          have g1 : decide ((xs.length : Int) < (N : Int)) = true := decide_eq_true (by omega)
          go_wp2_with (at_builtin; refine wpList_append_lies _ rfl _ _ 24 rfl w.heap.size 35 iY _ 3 24 Try.underlying24 hiY0 hiY1 hiY2 hiY3 rfl (by omega) (.slice ad1 xs.length cap1) xs.length (rysV xs) rfl (HR.out.alloc _) ⟨wo.heap.size, 0, none⟩ 1 1 [.int .i64 1, .int .i64 (xs.length : Int), .int .i64 1] rfl rfl (World.news_of_block (cs := #[.int .i64 1, .int .i64 (xs.length : Int), .int .i64 1]) (t := 35) (fr := (0, 0)) (heap_alloc_new _ _)) (by simp [Value.oneCell']) (by omega) (by unfold maxLen; omega) (by omega) (by simp; omega) (wo.heap.size + 1) (by simp) ?_; intro g62 cap63 w64 hown hgrow hat hltx; clear hat)
          have hb65 := app_below (Below.refl w.heap.size wo) (by omega) HR.out hgrow
          have hz66 : wo.heap.size ≤ w64.heap.size := by have := hgrow.size; simp at this; omega
          have HR67 := Lib.hid (row_congr (ys := rysV (xs ++ [(⟨1, (xs.length : Int), 1⟩ : Ry)])) hown (m := (xs ++ [(⟨1, (xs.length : Int), 1⟩ : Ry)]).length) (by simp) (by simp [rysV])); clear hown
          clear hgrow
          have HU68 := Lib.hid (HU.out.under hb65 (by omega))
          have HF69 := Lib.hid (HF.out.under hb65 (by omega) hz66)
          clear hb65
          go_roundw
          case rel => exact ⟨xs ++ [(⟨1, (xs.length : Int), 1⟩ : Ry)], by simp; omega, HR67.out, HU68.out, HF69.out⟩
          case measure => (simp [slen]; omega)
        case neg =>
          have g1 : decide ((xs.length : Int) < (N : Int)) = false := decide_eq_false (by omega)
          go_wp2_with fail
          go_ret
          exact ⟨_, xs, rfl, RowS.of (by exact HR.out) (by (try simp); omega), HU.out.mono (by omega), HF.out⟩
    case neg =>
      have e2 : (x7 == 1) = false := beq_eq_false_iff_ne.2 h2
      by_cases h3 : x7 = 2
      case pos =>
        subst h3
        clear e1 h1 e2 h2 hp9
        by_cases hlt : 0 < l.length
        case neg =>
          have g1 : decide ((0 : Int) < (l.length : Int)) = false := decide_eq_false (by omega)
          go_wp2_with fail
          go_ret
          exact ⟨_, l, rfl, RowS.of (by exact HR12.out) (by (try simp); omega), HU10.out.mono (by omega), HF11.out⟩
        case pos =>
          have g1 : decide ((0 : Int) < (l.length : Int)) = true := decide_eq_true (by omega)
          obtain ⟨g, c5, e5, hBg, hgl⟩ := RowY.own (by exact HR12.out) hlt
          injection e5 with e5 _ e6
          subst e5; subst e6
          go_wp2_with fail
          refine (pick_c (l.length : Int) c (n + 42) w8 HU10.out (by omega)).mono ?_
          rintro e w71 ⟨x70, rfl, hp72, hcu, hch⟩
          have HU73 := Lib.hid hcu; clear hcu
          have HF74 := Lib.hid (HF11.out.trans hch)
          have HR75 := Lib.hid (row_chg HR12.out hch (by omega))
          clear hch
          have hz76 := HF74.out.size
          obtain ⟨j, rfl⟩ : ∃ j : Nat, x70 = j := ⟨x70.toNat, by omega⟩
          have hjl : j < l.length := by omega
          have jx : (0 : Int) ≤ (j : Int) := by omega
          have jy : (j : Int) < (l.length : Int) := by omega
          clear hp72
          go_wp2_with fail
          have HU80 := Lib.hid (HU73.out.below ((Below.refl _ _).alloc (Nat.le_refl _) (.cells #[.int .i64 0, .int .i64 4, .int .i64 6, .int .i64 (-9223372036854775808)] 3)))
          have hl81 := HU73.out.lt
          have HF82 := Lib.hid (HF74.out.trans (Chg.alloc c w71 (.cells #[.int .i64 0, .int .i64 4, .int .i64 6, .int .i64 (-9223372036854775808)] 3)))
          have HR83 := Lib.hid (row_below HR75.out ((Below.refl _ _).alloc (Nat.le_refl _) (.cells #[.int .i64 0, .int .i64 4, .int .i64 6, .int .i64 (-9223372036854775808)] 3)))
          refine (among_c w71.heap.size 4 [0, 4, 6, (-9223372036854775808)] c (n + 44) (w71.alloc (.cells #[.int .i64 0, .int .i64 4, .int .i64 6, .int .i64 (-9223372036854775808)] 3)) HU80.out (by omega) (by simp) (by simp) (by omega) (Own.newA w71 _ 3 rfl)).mono ?_
          rintro e w78 ⟨x77, rfl, hx, hcu, hch⟩
          clear hx
          have HU84 := Lib.hid hcu; clear hcu
          have HF85 := Lib.hid (HF82.out.trans hch)
          have HR86 := Lib.hid (row_chg HR83.out hch (by omega))
          clear hch
          have hz87 := HF85.out.size
          have hrw := HR86.out
          have fz := World.ownsRow.frozenAt hrw (j * 3)
          have cz := World.ownsRow.cellAt hrw (j * 3) (by omega)
          rw [(rysV_get hjl).1] at cz
          have hset := RowY.set0 (by exact hrw) hjl x77
          have HSET := Lib.hid hset
          have hbS := (Below.refl w.heap.size w78).setCell (p := ⟨g, j * 3, none⟩) hBg (.int .i64 x77)
          clear hset hrw
          go_wp2_with fail
          go_ret
          exact ⟨_, _, rfl, RowS.of (by simpa using HSET.out) (by simp; omega), (HU84.out.under hbS (by omega)).mono (by omega), HF85.out.under hbS (Nat.le_refl _) (by simp [World.setCell])⟩
      case neg =>
        have e3 : (x7 == 2) = false := beq_eq_false_iff_ne.2 h3
        go_wp2_with fail
        go_ret
        exact ⟨_, l, rfl, RowS.of (by exact HR12.out) (by (try simp); omega), HU10.out.mono (by omega), HF11.out⟩

end Go.Proofs.Ytlplodkabeiimaa
