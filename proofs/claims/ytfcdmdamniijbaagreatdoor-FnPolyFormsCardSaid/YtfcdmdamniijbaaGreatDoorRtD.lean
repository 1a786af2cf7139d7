/-
  Polynomials that the cursor draws. Printed by gen_rtD.py.
-/
import Derived.Test.YtfcdmdamniijbaaGreatDoorRtW
import Derived.Test.YtfcdmdamniijbaaGreatDoorFrD
namespace Go.Proofs.YtfcdmdamniijbaaGreatDoor
open Go.RowKit

/-- What a draw of a list gives. -/
def IntsD (P : List Int → Prop) (c n : Nat) (w : World) (e : Ending) (w' : World) : Prop := ∃ (v : Value) (xs : List Int), e = .returned v ∧ P xs ∧ RowI w' w.heap.size v xs ∧ Cur w' c n ∧ Chg c w w'
set_option maxHeartbeats 400000 in
theorem small_c (c n : Nat) (w : World) (h : Cur w c n) (hn : n ≤ 4611686018427380000) :
    Calls Tryz.prog 66 #[.pointer (some ⟨c, 0, none⟩)] w (SomeI (fun x => -4 ≤ x ∧ x ≤ 8) c (n + 2) w) := by
  have H := Lib.hid h; clear h
  go_enter Tryz.func66, Tryz.ntmps66
  go_wp2_with fail
  refine (pick_c 13 c n w H.out (by omega)).mono ?_
  rintro e w1 ⟨x, rfl, hx, hcu, hch⟩
  have e1 : IntKind.i64.wrap (x - 4) = x - 4 := i64_small (by omega) (by omega)
  have hx' := Lib.hid (show -4 ≤ x - 4 ∧ x - 4 ≤ 8 by omega)
  clear hx
  have HU := Lib.hid hcu; clear hcu
  go_wp2_with fail
  go_ret
  exact ⟨_, rfl, hx'.out, HU.out, hch⟩

theorem RowI.set {w : World} {B g cap : Nat} {xs : List Int} (h : RowI w B (.slice (some ⟨g, 0, none⟩) xs.length cap) xs) (k : Nat) (x : Int) :
    RowI (w.setCell ⟨g, k, none⟩ (.int .i64 x)) B (.slice (some ⟨g, 0, none⟩) xs.length cap) (xs.set k x) := by
  have := (World.ownsRow.stored h k (.int .i64 x)).1
  exact row_congr this (by simp) (by rw [ints_set])

theorem RowI.own {w : World} {B : Nat} {v : Value} {xs : List Int} (h : RowI w B v xs) (h0 : 0 < xs.length) : ∃ g cap, v = .slice (some ⟨g, 0, none⟩) xs.length cap ∧ B ≤ g := by
  rcases Own.of_row h with ⟨_, e, _⟩ | ⟨g, cap, e, hg, _, _, _⟩
  · omega
  · exact ⟨g, cap, e, hg⟩
theorem RowI.mono {w : World} {B B' : Nat} {v : Value} {ls : List Int} (h : RowI w B v ls) (hB : B' ≤ B) : RowI w B' v ls := rowI_lower h hB

set_option maxHeartbeats 6400000 in
set_option maxRecDepth 100000 in
theorem poly_c (c n : Nat) (w : World) (h : Cur w c n) (hn : n ≤ 4611686018427370000) :
    Calls Tryz.prog 45 #[.pointer (some ⟨c, 0, none⟩)] w (IntsD (fun xs => xs.length ≤ 6) c (n + 40) w) := by
  have hcl := h.lt
  have H := Lib.hid h; clear h
  obtain ⟨iI, hiI0, hiI1, hiI2, hiI3⟩ := info_parts Tryz.infoI
  have HF1 := Lib.hid (Chg.refl c w)
  go_enter Tryz.func45, Tryz.ntmps45
  go_wp2_with fail
  refine (pick_c 5 c n w H.out (by omega)).mono ?_
  rintro e w3 ⟨x2, rfl, hp4, hcu, hch⟩
  have HU5 := Lib.hid hcu; clear hcu
  have HF6 := Lib.hid (HF1.out.trans hch)
  clear hch
  have hz7 := HF6.out.size
  obtain ⟨N, hN⟩ : ∃ N : Nat, x2 = N := ⟨x2.toNat, by omega⟩
  subst hN
  have hN4 : N ≤ 4 := by omega
  clear hp4
  go_wp2_with fail
  go_loopw [3] (fun v wr => ∃ xs : List Int, xs.length ≤ N ∧ RowI wr w.heap.size v xs ∧ Cur wr c ((n + 2) + 6 * xs.length) ∧ Chg c w wr) (fun v _ => N - slen v)
  case atStart => exact ⟨[], by simp, RowI.nil _ _, HU5.out.mono (by simp), HF6.out⟩
  case round =>
    obtain ⟨xs, hxs, hrow, hcu, hch⟩ := hrel
    have HR := Lib.hid hrow; clear hrow
    have HU := Lib.hid hcu; clear hcu
    have HF := Lib.hid hch; clear hch
    have hsz := HF.out.size
    obtain ⟨wo, rfl⟩ : ∃ wo : World, wo = wr := ⟨_, rfl⟩
    obtain ⟨ad1, cap1, rfl, -⟩ := HR.out.shape
    by_cases hlt : xs.length < N
    case pos =>
      have g1 : decide ((xs.length : Int) < (N : Int)) = true := decide_eq_true (by omega)
      go_wp2_with fail
      refine (small_c c ((n + 2) + 6 * xs.length) wo HU.out (by omega)).mono ?_
      rintro e w9 ⟨x8, rfl, -, hcu, hch⟩
      have HU10 := Lib.hid hcu; clear hcu
      have HF11 := Lib.hid (HF.out.trans hch)
      have HR12 := Lib.hid (row_chg HR.out hch (by omega))
      clear hch
      have hz13 := HF11.out.size
      go_wp2_with fail
      refine (small_c c (((n + 2) + 6 * xs.length) + 2) w9 HU10.out (by omega)).mono ?_
      rintro e w15 ⟨x14, rfl, -, hcu, hch⟩
      have HU16 := Lib.hid hcu; clear hcu
      have HF17 := Lib.hid (HF11.out.trans hch)
      have HR18 := Lib.hid (row_chg HR12.out hch (by omega))
      clear hch
      have hz19 := HF17.out.size
      go_wp2_with fail
      have HU23 := Lib.hid (HU16.out.below ((Below.refl _ _).alloc (Nat.le_refl _) (.cells #[.int .i64 x8, .int .i64 x14, .int .i64 1000000000] 3)))
      have hl24 := HU16.out.lt
      have HF25 := Lib.hid (HF17.out.trans (Chg.alloc c w15 (.cells #[.int .i64 x8, .int .i64 x14, .int .i64 1000000000] 3)))
      have HR26 := Lib.hid (row_below HR18.out ((Below.refl _ _).alloc (Nat.le_refl _) (.cells #[.int .i64 x8, .int .i64 x14, .int .i64 1000000000] 3)))
      refine (among_c w15.heap.size 3 [x8, x14, 1000000000] c (((n + 2) + 6 * xs.length) + 4) (w15.alloc (.cells #[.int .i64 x8, .int .i64 x14, .int .i64 1000000000] 3)) HU23.out (by omega) (by simp) (by simp) (by omega) (Own.newA w15 _ 3 rfl)).mono ?_
      rintro e w21 ⟨x20, rfl, hx, hcu, hch⟩
      clear hx
      have HU27 := Lib.hid hcu; clear hcu
      have HF28 := Lib.hid (HF25.out.trans hch)
      have HR29 := Lib.hid (row_chg HR26.out hch (by omega))
      clear hch
      have hz30 := HF28.out.size
      go_wp2_with (at_builtin; refine wpList_append_lies _ rfl _ _ 24 rfl w.heap.size 3 iI _ 1 8 Tryz.underlying24 hiI0 hiI1 hiI2 hiI3 rfl (by omega) (.slice ad1 xs.length cap1) xs.length (ints xs) rfl (HR29.out.alloc _) ⟨w21.heap.size, 0, none⟩ 1 1 [.int .i64 x20] rfl rfl (World.news_of_block (cs := #[.int .i64 x20]) (t := 3) (fr := (0, 0)) (heap_alloc_new _ _)) (by simp [Value.oneCell']) (by omega) (by unfold maxLen; omega) (by omega) (by simp; omega) (w21.heap.size + 1) (by simp) ?_; intro g31 cap32 w33 hown hgrow hat hltx; clear hat)
      have hb34 := app_below (Below.refl w.heap.size w21) (by omega) HR29.out hgrow
      have hz35 : w21.heap.size ≤ w33.heap.size := by have := hgrow.size; simp at this; omega
      have HR36 := Lib.hid (row_congr (ys := ints (xs ++ [x20])) hown (m := (xs ++ [x20]).length) (by simp) (by simp [ints])); clear hown
      clear hgrow
      have HU37 := Lib.hid (HU27.out.under hb34 (by omega))
      have HF38 := Lib.hid (HF28.out.under hb34 (by omega) hz35)
      clear hb34
      go_roundw
      case rel => exact ⟨xs ++ [x20], by simp; omega, HR36.out, HU37.out.mono (by simp; omega), HF38.out⟩
      case measure => (simp [slen]; omega)
    case neg =>
      have g1 : decide ((xs.length : Int) < (N : Int)) = false := decide_eq_false (by omega)
      go_wp2_with fail
      refine (small_c c ((n + 2) + 6 * xs.length) wo HU.out (by omega)).mono ?_
      rintro e w40 ⟨x39, rfl, -, hcu, hch⟩
      have HU41 := Lib.hid hcu; clear hcu
      have HF42 := Lib.hid (HF.out.trans hch)
      have HR43 := Lib.hid (row_chg HR.out hch (by omega))
      clear hch
      have hz44 := HF42.out.size
      go_wp2_with (at_builtin; refine wpList_append_lies _ rfl _ _ 24 rfl w.heap.size 3 iI _ 1 8 Tryz.underlying24 hiI0 hiI1 hiI2 hiI3 rfl (by omega) (.slice ad1 xs.length cap1) xs.length (ints xs) rfl (HR43.out.alloc _) ⟨w40.heap.size, 0, none⟩ 1 1 [.int .i64 x39] rfl rfl (World.news_of_block (cs := #[.int .i64 x39]) (t := 3) (fr := (0, 0)) (heap_alloc_new _ _)) (by simp [Value.oneCell']) (by omega) (by unfold maxLen; omega) (by omega) (by simp; omega) (w40.heap.size + 1) (by simp) ?_; intro g45 cap46 w47 hown hgrow hat hltx; clear hat)
      have hb48 := app_below (Below.refl w.heap.size w40) (by omega) HR43.out hgrow
      have hz49 : w40.heap.size ≤ w47.heap.size := by have := hgrow.size; simp at this; omega
      have HR50 := Lib.hid (row_congr (ys := ints (xs ++ [x39])) hown (m := (xs ++ [x39]).length) (by simp) (by simp [ints])); clear hown
      clear hgrow
      have HU51 := Lib.hid (HU41.out.under hb48 (by omega))
      have HF52 := Lib.hid (HF42.out.under hb48 (by omega) hz49)
      clear hb48
      go_ret
      exact ⟨_, xs ++ [x39], rfl, by simp; omega, HR50.out, HU51.out.mono (by omega), HF52.out⟩
set_option maxHeartbeats 6400000 in
set_option maxRecDepth 100000 in
theorem nums_c (c n : Nat) (w : World) (h : Cur w c n) (hn : n ≤ 4611686018427300000) :
    Calls Tryz.prog 71 #[.pointer (some ⟨c, 0, none⟩)] w (IntsD (fun xs => xs.length ≤ 21) c (n + 160) w) := by
  have hcl := h.lt
  have H := Lib.hid h; clear h
  obtain ⟨iI, hiI0, hiI1, hiI2, hiI3⟩ := info_parts Tryz.infoI
  have HF1 := Lib.hid (Chg.refl c w)
  go_enter Tryz.func71, Tryz.ntmps71
  go_wp2_with fail
  refine (pick_c 7 c n w H.out (by omega)).mono ?_
  rintro e w3 ⟨x2, rfl, hp4, hcu, hch⟩
  have HU5 := Lib.hid hcu; clear hcu
  have HF6 := Lib.hid (HF1.out.trans hch)
  clear hch
  have hz7 := HF6.out.size
  go_wp2_with fail
  refine (one_c 12 c (n + 2) w3 HU5.out (by omega)).mono ?_
  rintro e w9 ⟨b8, rfl, hcu, hch⟩
  have HU10 := Lib.hid hcu; clear hcu
  have HF11 := Lib.hid (HF6.out.trans hch)
  clear hch
  have hz12 := HF11.out.size
  cases b8
  case false =>
    obtain ⟨N, hN⟩ : ∃ N : Nat, x2 = N := ⟨x2.toNat, by omega⟩
    subst hN
    have hN4 : N ≤ 21 := by omega
    clear hp4
    go_wp2_with fail
    go_loopw [3] (fun v wr => ∃ xs : List Int, xs.length ≤ N ∧ RowI wr w.heap.size v xs ∧ Cur wr c ((n + 4) + 4 * xs.length) ∧ Chg c w wr) (fun v _ => N - slen v)
    case atStart => exact ⟨[], by simp, RowI.nil _ _, HU10.out.mono (by simp), HF11.out⟩
    case round =>
      obtain ⟨xs, hxs, hrow, hcu, hch⟩ := hrel
      have HR := Lib.hid hrow; clear hrow
      have HU := Lib.hid hcu; clear hcu
      have HF := Lib.hid hch; clear hch
      have hsz := HF.out.size
      obtain ⟨wo, rfl⟩ : ∃ wo : World, wo = wr := ⟨_, rfl⟩
      obtain ⟨ad1, cap1, rfl, -⟩ := HR.out.shape
      by_cases hlt : xs.length < N
      case pos =>
        have g1 : decide ((xs.length : Int) < (N : Int)) = true := decide_eq_true (by omega)
        go_wp2_with fail
        refine (num_c c ((n + 4) + 4 * xs.length) wo HU.out (by omega)).mono ?_
        rintro e w14 ⟨x13, rfl, -, hcu, hch⟩
        have HU15 := Lib.hid hcu; clear hcu
        have HF16 := Lib.hid (HF.out.trans hch)
        have HR17 := Lib.hid (row_chg HR.out hch (by omega))
        clear hch
        have hz18 := HF16.out.size
        go_wp2_with (at_builtin; refine wpList_append_lies _ rfl _ _ 24 rfl w.heap.size 3 iI _ 1 8 Tryz.underlying24 hiI0 hiI1 hiI2 hiI3 rfl (by omega) (.slice ad1 xs.length cap1) xs.length (ints xs) rfl (HR17.out.alloc _) ⟨w14.heap.size, 0, none⟩ 1 1 [.int .i64 x13] rfl rfl (World.news_of_block (cs := #[.int .i64 x13]) (t := 3) (fr := (0, 0)) (heap_alloc_new _ _)) (by simp [Value.oneCell']) (by omega) (by unfold maxLen; omega) (by omega) (by simp; omega) (w14.heap.size + 1) (by simp) ?_; intro g19 cap20 w21 hown hgrow hat hltx; clear hat)
        have hb22 := app_below (Below.refl w.heap.size w14) (by omega) HR17.out hgrow
        have hz23 : w14.heap.size ≤ w21.heap.size := by have := hgrow.size; simp at this; omega
        have HR24 := Lib.hid (row_congr (ys := ints (xs ++ [x13])) hown (m := (xs ++ [x13]).length) (by simp) (by simp [ints])); clear hown
        clear hgrow
        have HU25 := Lib.hid (HU15.out.under hb22 (by omega))
        have HF26 := Lib.hid (HF16.out.under hb22 (by omega) hz23)
        clear hb22
        go_roundw
        case rel => exact ⟨xs ++ [x13], by simp; omega, HR24.out, HU25.out.mono (by simp; omega), HF26.out⟩
        case measure => (simp [slen]; omega)
      case neg =>
        have g1 : decide ((xs.length : Int) < (N : Int)) = false := decide_eq_false (by omega)
        have HXL : xs.length = N := by omega
        have HXB : xs.length ≤ 21 := by omega
        clear hlt hxs g1
        rw [HXL]
        have g1 : decide ((N : Int) < (N : Int)) = false := decide_eq_false (by omega)
        by_cases hN1 : 1 < N
        case neg =>
          have q1 : decide ((1 : Int) < (N : Int)) = false := decide_eq_false (by omega)
          by_cases hN0 : 0 < N
          case neg =>
            have q0 : decide ((0 : Int) < (N : Int)) = false := decide_eq_false (by omega)
            go_wp2_with fail
            go_ret
            exact ⟨_, xs, rfl, by omega, by (have h9 := HR.out); (try unfold RowI at h9); unfold RowI; rw [HXL] at h9 ⊢; exact h9, HU.out.mono (by omega), HF.out⟩
          case pos =>
            have q0 : decide ((0 : Int) < (N : Int)) = true := decide_eq_true (by omega)
            go_wp2_with fail
            refine (one_c 24 c ((n + 4) + 4 * xs.length) wo HU.out (by omega)).mono ?_
            rintro e w28 ⟨b27, rfl, hcu, hch⟩
            have HU29 := Lib.hid hcu; clear hcu
            have HF30 := Lib.hid (HF.out.trans hch)
            have HR31 := Lib.hid (row_chg HR.out hch (by omega))
            clear hch
            have hz32 := HF30.out.size
            cases b27
            case false =>
              go_wp2_with fail
              go_ret
              exact ⟨_, xs, rfl, by omega, by (have h9 := HR31.out); (try unfold RowI at h9); unfold RowI; rw [HXL] at h9 ⊢; exact h9, HU29.out.mono (by omega), HF30.out⟩
            case true =>
              obtain ⟨g33, rfl, hg34⟩ : ∃ g, ad1 = some ⟨g, 0, none⟩ ∧ w.heap.size ≤ g := by
                obtain ⟨g, cap, e, hg⟩ := RowI.own (by exact HR31.out) (by rw [HXL]; omega)
                injection e with e1 _ _
                exact ⟨g, e1, hg⟩
              go_wp2_with fail
              refine (pick_c (N : Int) c (((n + 4) + 4 * xs.length) + 2) w28 HU29.out (by omega)).mono ?_
              rintro e w36 ⟨x35, rfl, hp37, hcu, hch⟩
              have HU38 := Lib.hid hcu; clear hcu
              have HF39 := Lib.hid (HF30.out.trans hch)
              have HR40 := Lib.hid (row_chg HR31.out hch (by omega))
              clear hch
              have hz41 := HF39.out.size
              obtain ⟨a42, rfl⟩ : ∃ a : Nat, x35 = a := ⟨x35.toNat, by omega⟩
              have a42l : a42 < N := by omega
              have a42x : (0 : Int) ≤ (a42 : Int) := by omega
              have a42y : (a42 : Int) < (N : Int) := by omega
              clear hp37
              go_wp2_with fail
              refine (anyNum_c c (((n + 4) + 4 * xs.length) + 4) w36 HU38.out (by omega)).mono ?_
              rintro e w44 ⟨x43, rfl, -, hcu, hch⟩
              have HU45 := Lib.hid hcu; clear hcu
              have HF46 := Lib.hid (HF39.out.trans hch)
              have HR47 := Lib.hid (row_chg HR40.out hch (by omega))
              clear hch
              have hz48 := HF46.out.size
              have hrw49 := HR47.out
              have fza42 := World.ownsRow.frozenAt hrw49 a42
              have cza42 := World.ownsRow.cellAt hrw49 a42 (by have := a42l; rw [HXL]; omega)
              rw [ints_get (show a42 < xs.length by rw [HXL]; exact a42l)] at cza42
              go_wp2_with fail
              have hset50 : RowI (w44.setCell ⟨g33, a42, none⟩ (.int .i64 x43)) w.heap.size (.slice (some ⟨g33, 0, none⟩) xs.length cap1) _ := RowI.set (cap := cap1) (by exact hrw49) a42 x43
              have hb51 : Below w.heap.size w44 (w44.setCell ⟨g33, a42, none⟩ (.int .i64 x43)) := (Below.refl w.heap.size w44).setCell (p := ⟨g33, a42, none⟩) hg34 (.int .i64 x43)
              have HU54 := Lib.hid (HU45.out.under hb51 (by omega))
              have HF55 := Lib.hid (HF46.out.under hb51 (Nat.le_refl _) (by simp [World.setCell]))
              have HYL : (xs.set a42 x43).length = N := by rw [List.length_set]; exact HXL
              rw [HXL, ← HYL] at hset50
              have HR56 := Lib.hid hset50; clear hset50
              generalize xs.set a42 x43 = ys53 at HR56 HYL
              generalize w44.setCell ⟨g33, a42, none⟩ (.int .i64 x43) = wS52 at HR56 HU54 HF55 ⊢
              clear HXL hrw49 hb51
              have HXL := HYL
              clear HYL
              have hz57 := HF55.out.size
              go_wp2_with fail
              go_ret
              exact ⟨_, ys53, rfl, by omega, by (have h9 := HR56.out); (try unfold RowI at h9); unfold RowI; rw [HXL] at h9 ⊢; exact h9, HU54.out.mono (by omega), HF55.out⟩
        case pos =>
          have q1 : decide ((1 : Int) < (N : Int)) = true := decide_eq_true (by omega)
          go_wp2_with fail
          refine (one_c 3 c ((n + 4) + 4 * xs.length) wo HU.out (by omega)).mono ?_
          rintro e w59 ⟨b58, rfl, hcu, hch⟩
          have HU60 := Lib.hid hcu; clear hcu
          have HF61 := Lib.hid (HF.out.trans hch)
          have HR62 := Lib.hid (row_chg HR.out hch (by omega))
          clear hch
          have hz63 := HF61.out.size
          cases b58
          case false =>
            by_cases hN0 : 0 < N
            case neg =>
              have q0 : decide ((0 : Int) < (N : Int)) = false := decide_eq_false (by omega)
              go_wp2_with fail
              go_ret
              exact ⟨_, xs, rfl, by omega, by (have h9 := HR62.out); (try unfold RowI at h9); unfold RowI; rw [HXL] at h9 ⊢; exact h9, HU60.out.mono (by omega), HF61.out⟩
            case pos =>
              have q0 : decide ((0 : Int) < (N : Int)) = true := decide_eq_true (by omega)
              go_wp2_with fail
              refine (one_c 24 c (((n + 4) + 4 * xs.length) + 2) w59 HU60.out (by omega)).mono ?_
              rintro e w65 ⟨b64, rfl, hcu, hch⟩
              have HU66 := Lib.hid hcu; clear hcu
              have HF67 := Lib.hid (HF61.out.trans hch)
              have HR68 := Lib.hid (row_chg HR62.out hch (by omega))
              clear hch
              have hz69 := HF67.out.size
              cases b64
              case false =>
                go_wp2_with fail
                go_ret
                exact ⟨_, xs, rfl, by omega, by (have h9 := HR68.out); (try unfold RowI at h9); unfold RowI; rw [HXL] at h9 ⊢; exact h9, HU66.out.mono (by omega), HF67.out⟩
              case true =>
                obtain ⟨g70, rfl, hg71⟩ : ∃ g, ad1 = some ⟨g, 0, none⟩ ∧ w.heap.size ≤ g := by
                  obtain ⟨g, cap, e, hg⟩ := RowI.own (by exact HR68.out) (by rw [HXL]; omega)
                  injection e with e1 _ _
                  exact ⟨g, e1, hg⟩
                go_wp2_with fail
                refine (pick_c (N : Int) c (((n + 4) + 4 * xs.length) + 4) w65 HU66.out (by omega)).mono ?_
                rintro e w73 ⟨x72, rfl, hp74, hcu, hch⟩
                have HU75 := Lib.hid hcu; clear hcu
                have HF76 := Lib.hid (HF67.out.trans hch)
                have HR77 := Lib.hid (row_chg HR68.out hch (by omega))
                clear hch
                have hz78 := HF76.out.size
                obtain ⟨a79, rfl⟩ : ∃ a : Nat, x72 = a := ⟨x72.toNat, by omega⟩
                have a79l : a79 < N := by omega
                have a79x : (0 : Int) ≤ (a79 : Int) := by omega
                have a79y : (a79 : Int) < (N : Int) := by omega
                clear hp74
                go_wp2_with fail
                refine (anyNum_c c (((n + 4) + 4 * xs.length) + 6) w73 HU75.out (by omega)).mono ?_
                rintro e w81 ⟨x80, rfl, -, hcu, hch⟩
                have HU82 := Lib.hid hcu; clear hcu
                have HF83 := Lib.hid (HF76.out.trans hch)
                have HR84 := Lib.hid (row_chg HR77.out hch (by omega))
                clear hch
                have hz85 := HF83.out.size
                have hrw86 := HR84.out
                have fza79 := World.ownsRow.frozenAt hrw86 a79
                have cza79 := World.ownsRow.cellAt hrw86 a79 (by have := a79l; rw [HXL]; omega)
                rw [ints_get (show a79 < xs.length by rw [HXL]; exact a79l)] at cza79
                go_wp2_with fail
                have hset87 : RowI (w81.setCell ⟨g70, a79, none⟩ (.int .i64 x80)) w.heap.size (.slice (some ⟨g70, 0, none⟩) xs.length cap1) _ := RowI.set (cap := cap1) (by exact hrw86) a79 x80
                have hb88 : Below w.heap.size w81 (w81.setCell ⟨g70, a79, none⟩ (.int .i64 x80)) := (Below.refl w.heap.size w81).setCell (p := ⟨g70, a79, none⟩) hg71 (.int .i64 x80)
                have HU91 := Lib.hid (HU82.out.under hb88 (by omega))
                have HF92 := Lib.hid (HF83.out.under hb88 (Nat.le_refl _) (by simp [World.setCell]))
                have HYL : (xs.set a79 x80).length = N := by rw [List.length_set]; exact HXL
                rw [HXL, ← HYL] at hset87
                have HR93 := Lib.hid hset87; clear hset87
                generalize xs.set a79 x80 = ys90 at HR93 HYL
                generalize w81.setCell ⟨g70, a79, none⟩ (.int .i64 x80) = wS89 at HR93 HU91 HF92 ⊢
                clear HXL hrw86 hb88
                have HXL := HYL
                clear HYL
                have hz94 := HF92.out.size
                go_wp2_with fail
                go_ret
                exact ⟨_, ys90, rfl, by omega, by (have h9 := HR93.out); (try unfold RowI at h9); unfold RowI; rw [HXL] at h9 ⊢; exact h9, HU91.out.mono (by omega), HF92.out⟩
          case true =>
            obtain ⟨g95, rfl, hg96⟩ : ∃ g, ad1 = some ⟨g, 0, none⟩ ∧ w.heap.size ≤ g := by
              obtain ⟨g, cap, e, hg⟩ := RowI.own (by exact HR62.out) (by rw [HXL]; omega)
              injection e with e1 _ _
              exact ⟨g, e1, hg⟩
            go_wp2_with fail
            refine (pick_c (N : Int) c (((n + 4) + 4 * xs.length) + 2) w59 HU60.out (by omega)).mono ?_
            rintro e w98 ⟨x97, rfl, hp99, hcu, hch⟩
            have HU100 := Lib.hid hcu; clear hcu
            have HF101 := Lib.hid (HF61.out.trans hch)
            have HR102 := Lib.hid (row_chg HR62.out hch (by omega))
            clear hch
            have hz103 := HF101.out.size
            obtain ⟨a104, rfl⟩ : ∃ a : Nat, x97 = a := ⟨x97.toNat, by omega⟩
            have a104l : a104 < N := by omega
            have a104x : (0 : Int) ≤ (a104 : Int) := by omega
            have a104y : (a104 : Int) < (N : Int) := by omega
            clear hp99
            go_wp2_with fail
            refine (pick_c (N : Int) c (((n + 4) + 4 * xs.length) + 4) w98 HU100.out (by omega)).mono ?_
            rintro e w106 ⟨x105, rfl, hp107, hcu, hch⟩
            have HU108 := Lib.hid hcu; clear hcu
            have HF109 := Lib.hid (HF101.out.trans hch)
            have HR110 := Lib.hid (row_chg HR102.out hch (by omega))
            clear hch
            have hz111 := HF109.out.size
            obtain ⟨a112, rfl⟩ : ∃ a : Nat, x105 = a := ⟨x105.toNat, by omega⟩
            have a112l : a112 < N := by omega
            have a112x : (0 : Int) ≤ (a112 : Int) := by omega
            have a112y : (a112 : Int) < (N : Int) := by omega
            clear hp107
            have hrw113 := HR110.out
            have fza104 := World.ownsRow.frozenAt hrw113 a104
            have cza104 := World.ownsRow.cellAt hrw113 a104 (by have := a104l; rw [HXL]; omega)
            rw [ints_get (show a104 < xs.length by rw [HXL]; exact a104l)] at cza104
            have fza112 := World.ownsRow.frozenAt hrw113 a112
            have cza112 := World.ownsRow.cellAt hrw113 a112 (by have := a112l; rw [HXL]; omega)
            rw [ints_get (show a112 < xs.length by rw [HXL]; exact a112l)] at cza112
            obtain ⟨y114, hy114⟩ : ∃ y, xs.getD a112 0 = y := ⟨_, rfl⟩
            rw [hy114] at cza112
            clear hy114
            go_wp2_with fail
            have hset115 : RowI (w106.setCell ⟨g95, a104, none⟩ (.int .i64 y114)) w.heap.size (.slice (some ⟨g95, 0, none⟩) xs.length cap1) _ := RowI.set (cap := cap1) (by exact hrw113) a104 y114
            have hb116 : Below w.heap.size w106 (w106.setCell ⟨g95, a104, none⟩ (.int .i64 y114)) := (Below.refl w.heap.size w106).setCell (p := ⟨g95, a104, none⟩) hg96 (.int .i64 y114)
            have HU119 := Lib.hid (HU108.out.under hb116 (by omega))
            have HF120 := Lib.hid (HF109.out.under hb116 (Nat.le_refl _) (by simp [World.setCell]))
            have HYL : (xs.set a104 y114).length = N := by rw [List.length_set]; exact HXL
            rw [HXL, ← HYL] at hset115
            have HR121 := Lib.hid hset115; clear hset115
            generalize xs.set a104 y114 = ys118 at HR121 HYL
            generalize w106.setCell ⟨g95, a104, none⟩ (.int .i64 y114) = wS117 at HR121 HU119 HF120 ⊢
            clear HXL hrw113 hb116
            have HXL := HYL
            clear HYL
            have hz122 := HF120.out.size
            by_cases hN0 : 0 < N
            case neg => (exfalso; omega)
            case pos =>
              have q0 : decide ((0 : Int) < (N : Int)) = true := decide_eq_true (by omega)
              go_wp2_with fail
              refine (one_c 24 c (((n + 4) + 4 * xs.length) + 6) wS117 HU119.out (by omega)).mono ?_
              rintro e w124 ⟨b123, rfl, hcu, hch⟩
              have HU125 := Lib.hid hcu; clear hcu
              have HF126 := Lib.hid (HF120.out.trans hch)
              have HR127 := Lib.hid (row_chg HR121.out hch (by omega))
              clear hch
              have hz128 := HF126.out.size
              cases b123
              case false =>
                go_wp2_with fail
                go_ret
                exact ⟨_, ys118, rfl, by omega, by (have h9 := HR127.out); (try unfold RowI at h9); unfold RowI; rw [HXL] at h9 ⊢; exact h9, HU125.out.mono (by omega), HF126.out⟩
              case true =>
                go_wp2_with fail
                refine (pick_c (N : Int) c (((n + 4) + 4 * xs.length) + 8) w124 HU125.out (by omega)).mono ?_
                rintro e w130 ⟨x129, rfl, hp131, hcu, hch⟩
                have HU132 := Lib.hid hcu; clear hcu
                have HF133 := Lib.hid (HF126.out.trans hch)
                have HR134 := Lib.hid (row_chg HR127.out hch (by omega))
                clear hch
                have hz135 := HF133.out.size
                obtain ⟨a136, rfl⟩ : ∃ a : Nat, x129 = a := ⟨x129.toNat, by omega⟩
                have a136l : a136 < N := by omega
                have a136x : (0 : Int) ≤ (a136 : Int) := by omega
                have a136y : (a136 : Int) < (N : Int) := by omega
                clear hp131
                go_wp2_with fail
                refine (anyNum_c c (((n + 4) + 4 * xs.length) + 10) w130 HU132.out (by omega)).mono ?_
                rintro e w138 ⟨x137, rfl, -, hcu, hch⟩
                have HU139 := Lib.hid hcu; clear hcu
                have HF140 := Lib.hid (HF133.out.trans hch)
                have HR141 := Lib.hid (row_chg HR134.out hch (by omega))
                clear hch
                have hz142 := HF140.out.size
                have hrw143 := HR141.out
                have fza136 := World.ownsRow.frozenAt hrw143 a136
                have cza136 := World.ownsRow.cellAt hrw143 a136 (by have := a136l; rw [HXL]; omega)
                rw [ints_get (show a136 < ys118.length by rw [HXL]; exact a136l)] at cza136
                go_wp2_with fail
                have hset144 : RowI (w138.setCell ⟨g95, a136, none⟩ (.int .i64 x137)) w.heap.size (.slice (some ⟨g95, 0, none⟩) ys118.length cap1) _ := RowI.set (cap := cap1) (by exact hrw143) a136 x137
                have hb145 : Below w.heap.size w138 (w138.setCell ⟨g95, a136, none⟩ (.int .i64 x137)) := (Below.refl w.heap.size w138).setCell (p := ⟨g95, a136, none⟩) hg96 (.int .i64 x137)
                have HU148 := Lib.hid (HU139.out.under hb145 (by omega))
                have HF149 := Lib.hid (HF140.out.under hb145 (Nat.le_refl _) (by simp [World.setCell]))
                have HYL : (ys118.set a136 x137).length = N := by rw [List.length_set]; exact HXL
                rw [HXL, ← HYL] at hset144
                have HR150 := Lib.hid hset144; clear hset144
                generalize ys118.set a136 x137 = ys147 at HR150 HYL
                generalize w138.setCell ⟨g95, a136, none⟩ (.int .i64 x137) = wS146 at HR150 HU148 HF149 ⊢
                clear HXL hrw143 hb145
                have HXL := HYL
                clear HYL
                have hz151 := HF149.out.size
                go_wp2_with fail
                go_ret
                exact ⟨_, ys147, rfl, by omega, by (have h9 := HR150.out); (try unfold RowI at h9); unfold RowI; rw [HXL] at h9 ⊢; exact h9, HU148.out.mono (by omega), HF149.out⟩
  case true =>
    clear hp4
    go_wp2_with fail
    refine (pick_c 2 c (n + 4) w9 HU10.out (by omega)).mono ?_
    rintro e w153 ⟨x152, rfl, hp154, hcu, hch⟩
    have HU155 := Lib.hid hcu; clear hcu
    have HF156 := Lib.hid (HF11.out.trans hch)
    clear hch
    have hz157 := HF156.out.size
    obtain ⟨N, hN⟩ : ∃ N : Nat, 20 + x152 = N := ⟨(20 + x152).toNat, by omega⟩
    have eN : IntKind.i64.wrap (20 + x152) = (N : Int) := by rw [hN]; exact i64_small (by omega) (by omega)
    have hN4 : N ≤ 21 := by omega
    clear hp154 hN
    go_wp2_with fail
    go_loopw [3] (fun v wr => ∃ xs : List Int, xs.length ≤ N ∧ RowI wr w.heap.size v xs ∧ Cur wr c ((n + 6) + 4 * xs.length) ∧ Chg c w wr) (fun v _ => N - slen v)
    case atStart => exact ⟨[], by simp, RowI.nil _ _, HU155.out.mono (by simp), HF156.out⟩
    case round =>
      obtain ⟨xs, hxs, hrow, hcu, hch⟩ := hrel
      have HR := Lib.hid hrow; clear hrow
      have HU := Lib.hid hcu; clear hcu
      have HF := Lib.hid hch; clear hch
      have hsz := HF.out.size
      obtain ⟨wo, rfl⟩ : ∃ wo : World, wo = wr := ⟨_, rfl⟩
      obtain ⟨ad1, cap1, rfl, -⟩ := HR.out.shape
      by_cases hlt : xs.length < N
      case pos =>
        have g1 : decide ((xs.length : Int) < (N : Int)) = true := decide_eq_true (by omega)
        go_wp2_with fail
        refine (num_c c ((n + 6) + 4 * xs.length) wo HU.out (by omega)).mono ?_
        rintro e w159 ⟨x158, rfl, -, hcu, hch⟩
        have HU160 := Lib.hid hcu; clear hcu
        have HF161 := Lib.hid (HF.out.trans hch)
        have HR162 := Lib.hid (row_chg HR.out hch (by omega))
        clear hch
        have hz163 := HF161.out.size
        go_wp2_with (at_builtin; refine wpList_append_lies _ rfl _ _ 24 rfl w.heap.size 3 iI _ 1 8 Tryz.underlying24 hiI0 hiI1 hiI2 hiI3 rfl (by omega) (.slice ad1 xs.length cap1) xs.length (ints xs) rfl (HR162.out.alloc _) ⟨w159.heap.size, 0, none⟩ 1 1 [.int .i64 x158] rfl rfl (World.news_of_block (cs := #[.int .i64 x158]) (t := 3) (fr := (0, 0)) (heap_alloc_new _ _)) (by simp [Value.oneCell']) (by omega) (by unfold maxLen; omega) (by omega) (by simp; omega) (w159.heap.size + 1) (by simp) ?_; intro g164 cap165 w166 hown hgrow hat hltx; clear hat)
        have hb167 := app_below (Below.refl w.heap.size w159) (by omega) HR162.out hgrow
        have hz168 : w159.heap.size ≤ w166.heap.size := by have := hgrow.size; simp at this; omega
        have HR169 := Lib.hid (row_congr (ys := ints (xs ++ [x158])) hown (m := (xs ++ [x158]).length) (by simp) (by simp [ints])); clear hown
        clear hgrow
        have HU170 := Lib.hid (HU160.out.under hb167 (by omega))
        have HF171 := Lib.hid (HF161.out.under hb167 (by omega) hz168)
        clear hb167
        go_roundw
        case rel => exact ⟨xs ++ [x158], by simp; omega, HR169.out, HU170.out.mono (by simp; omega), HF171.out⟩
        case measure => (simp [slen]; omega)
      case neg =>
        have g1 : decide ((xs.length : Int) < (N : Int)) = false := decide_eq_false (by omega)
        have HXL : xs.length = N := by omega
        have HXB : xs.length ≤ 21 := by omega
        clear hlt hxs g1
        rw [HXL]
        have g1 : decide ((N : Int) < (N : Int)) = false := decide_eq_false (by omega)
        by_cases hN1 : 1 < N
        case neg =>
          have q1 : decide ((1 : Int) < (N : Int)) = false := decide_eq_false (by omega)
          by_cases hN0 : 0 < N
          case neg =>
            have q0 : decide ((0 : Int) < (N : Int)) = false := decide_eq_false (by omega)
            go_wp2_with fail
            go_ret
            exact ⟨_, xs, rfl, by omega, by (have h9 := HR.out); (try unfold RowI at h9); unfold RowI; rw [HXL] at h9 ⊢; exact h9, HU.out.mono (by omega), HF.out⟩
          case pos =>
            have q0 : decide ((0 : Int) < (N : Int)) = true := decide_eq_true (by omega)
            go_wp2_with fail
            refine (one_c 24 c ((n + 6) + 4 * xs.length) wo HU.out (by omega)).mono ?_
            rintro e w173 ⟨b172, rfl, hcu, hch⟩
            have HU174 := Lib.hid hcu; clear hcu
            have HF175 := Lib.hid (HF.out.trans hch)
            have HR176 := Lib.hid (row_chg HR.out hch (by omega))
            clear hch
            have hz177 := HF175.out.size
            cases b172
            case false =>
              go_wp2_with fail
              go_ret
              exact ⟨_, xs, rfl, by omega, by (have h9 := HR176.out); (try unfold RowI at h9); unfold RowI; rw [HXL] at h9 ⊢; exact h9, HU174.out.mono (by omega), HF175.out⟩
            case true =>
              obtain ⟨g178, rfl, hg179⟩ : ∃ g, ad1 = some ⟨g, 0, none⟩ ∧ w.heap.size ≤ g := by
                obtain ⟨g, cap, e, hg⟩ := RowI.own (by exact HR176.out) (by rw [HXL]; omega)
                injection e with e1 _ _
                exact ⟨g, e1, hg⟩
              go_wp2_with fail
              refine (pick_c (N : Int) c (((n + 6) + 4 * xs.length) + 2) w173 HU174.out (by omega)).mono ?_
              rintro e w181 ⟨x180, rfl, hp182, hcu, hch⟩
              have HU183 := Lib.hid hcu; clear hcu
              have HF184 := Lib.hid (HF175.out.trans hch)
              have HR185 := Lib.hid (row_chg HR176.out hch (by omega))
              clear hch
              have hz186 := HF184.out.size
              obtain ⟨a187, rfl⟩ : ∃ a : Nat, x180 = a := ⟨x180.toNat, by omega⟩
              have a187l : a187 < N := by omega
              have a187x : (0 : Int) ≤ (a187 : Int) := by omega
              have a187y : (a187 : Int) < (N : Int) := by omega
              clear hp182
              go_wp2_with fail
              refine (anyNum_c c (((n + 6) + 4 * xs.length) + 4) w181 HU183.out (by omega)).mono ?_
              rintro e w189 ⟨x188, rfl, -, hcu, hch⟩
              have HU190 := Lib.hid hcu; clear hcu
              have HF191 := Lib.hid (HF184.out.trans hch)
              have HR192 := Lib.hid (row_chg HR185.out hch (by omega))
              clear hch
              have hz193 := HF191.out.size
              have hrw194 := HR192.out
              have fza187 := World.ownsRow.frozenAt hrw194 a187
              have cza187 := World.ownsRow.cellAt hrw194 a187 (by have := a187l; rw [HXL]; omega)
              rw [ints_get (show a187 < xs.length by rw [HXL]; exact a187l)] at cza187
              go_wp2_with fail
              have hset195 : RowI (w189.setCell ⟨g178, a187, none⟩ (.int .i64 x188)) w.heap.size (.slice (some ⟨g178, 0, none⟩) xs.length cap1) _ := RowI.set (cap := cap1) (by exact hrw194) a187 x188
              have hb196 : Below w.heap.size w189 (w189.setCell ⟨g178, a187, none⟩ (.int .i64 x188)) := (Below.refl w.heap.size w189).setCell (p := ⟨g178, a187, none⟩) hg179 (.int .i64 x188)
              have HU199 := Lib.hid (HU190.out.under hb196 (by omega))
              have HF200 := Lib.hid (HF191.out.under hb196 (Nat.le_refl _) (by simp [World.setCell]))
              have HYL : (xs.set a187 x188).length = N := by rw [List.length_set]; exact HXL
              rw [HXL, ← HYL] at hset195
              have HR201 := Lib.hid hset195; clear hset195
              generalize xs.set a187 x188 = ys198 at HR201 HYL
              generalize w189.setCell ⟨g178, a187, none⟩ (.int .i64 x188) = wS197 at HR201 HU199 HF200 ⊢
              clear HXL hrw194 hb196
              have HXL := HYL
              clear HYL
              have hz202 := HF200.out.size
              go_wp2_with fail
              go_ret
              exact ⟨_, ys198, rfl, by omega, by (have h9 := HR201.out); (try unfold RowI at h9); unfold RowI; rw [HXL] at h9 ⊢; exact h9, HU199.out.mono (by omega), HF200.out⟩
        case pos =>
          have q1 : decide ((1 : Int) < (N : Int)) = true := decide_eq_true (by omega)
          go_wp2_with fail
          refine (one_c 3 c ((n + 6) + 4 * xs.length) wo HU.out (by omega)).mono ?_
          rintro e w204 ⟨b203, rfl, hcu, hch⟩
          have HU205 := Lib.hid hcu; clear hcu
          have HF206 := Lib.hid (HF.out.trans hch)
          have HR207 := Lib.hid (row_chg HR.out hch (by omega))
          clear hch
          have hz208 := HF206.out.size
          cases b203
          case false =>
            by_cases hN0 : 0 < N
            case neg =>
              have q0 : decide ((0 : Int) < (N : Int)) = false := decide_eq_false (by omega)
              go_wp2_with fail
              go_ret
              exact ⟨_, xs, rfl, by omega, by (have h9 := HR207.out); (try unfold RowI at h9); unfold RowI; rw [HXL] at h9 ⊢; exact h9, HU205.out.mono (by omega), HF206.out⟩
            case pos =>
              have q0 : decide ((0 : Int) < (N : Int)) = true := decide_eq_true (by omega)
              go_wp2_with fail
              refine (one_c 24 c (((n + 6) + 4 * xs.length) + 2) w204 HU205.out (by omega)).mono ?_
              rintro e w210 ⟨b209, rfl, hcu, hch⟩
              have HU211 := Lib.hid hcu; clear hcu
              have HF212 := Lib.hid (HF206.out.trans hch)
              have HR213 := Lib.hid (row_chg HR207.out hch (by omega))
              clear hch
              have hz214 := HF212.out.size
              cases b209
              case false =>
                go_wp2_with fail
                go_ret
                exact ⟨_, xs, rfl, by omega, by (have h9 := HR213.out); (try unfold RowI at h9); unfold RowI; rw [HXL] at h9 ⊢; exact h9, HU211.out.mono (by omega), HF212.out⟩
              case true =>
                obtain ⟨g215, rfl, hg216⟩ : ∃ g, ad1 = some ⟨g, 0, none⟩ ∧ w.heap.size ≤ g := by
                  obtain ⟨g, cap, e, hg⟩ := RowI.own (by exact HR213.out) (by rw [HXL]; omega)
                  injection e with e1 _ _
                  exact ⟨g, e1, hg⟩
                go_wp2_with fail
                refine (pick_c (N : Int) c (((n + 6) + 4 * xs.length) + 4) w210 HU211.out (by omega)).mono ?_
                rintro e w218 ⟨x217, rfl, hp219, hcu, hch⟩
                have HU220 := Lib.hid hcu; clear hcu
                have HF221 := Lib.hid (HF212.out.trans hch)
                have HR222 := Lib.hid (row_chg HR213.out hch (by omega))
                clear hch
                have hz223 := HF221.out.size
                obtain ⟨a224, rfl⟩ : ∃ a : Nat, x217 = a := ⟨x217.toNat, by omega⟩
                have a224l : a224 < N := by omega
                have a224x : (0 : Int) ≤ (a224 : Int) := by omega
                have a224y : (a224 : Int) < (N : Int) := by omega
                clear hp219
                go_wp2_with fail
                refine (anyNum_c c (((n + 6) + 4 * xs.length) + 6) w218 HU220.out (by omega)).mono ?_
                rintro e w226 ⟨x225, rfl, -, hcu, hch⟩
                have HU227 := Lib.hid hcu; clear hcu
                have HF228 := Lib.hid (HF221.out.trans hch)
                have HR229 := Lib.hid (row_chg HR222.out hch (by omega))
                clear hch
                have hz230 := HF228.out.size
                have hrw231 := HR229.out
                have fza224 := World.ownsRow.frozenAt hrw231 a224
                have cza224 := World.ownsRow.cellAt hrw231 a224 (by have := a224l; rw [HXL]; omega)
                rw [ints_get (show a224 < xs.length by rw [HXL]; exact a224l)] at cza224
                go_wp2_with fail
                have hset232 : RowI (w226.setCell ⟨g215, a224, none⟩ (.int .i64 x225)) w.heap.size (.slice (some ⟨g215, 0, none⟩) xs.length cap1) _ := RowI.set (cap := cap1) (by exact hrw231) a224 x225
                have hb233 : Below w.heap.size w226 (w226.setCell ⟨g215, a224, none⟩ (.int .i64 x225)) := (Below.refl w.heap.size w226).setCell (p := ⟨g215, a224, none⟩) hg216 (.int .i64 x225)
                have HU236 := Lib.hid (HU227.out.under hb233 (by omega))
                have HF237 := Lib.hid (HF228.out.under hb233 (Nat.le_refl _) (by simp [World.setCell]))
                have HYL : (xs.set a224 x225).length = N := by rw [List.length_set]; exact HXL
                rw [HXL, ← HYL] at hset232
                have HR238 := Lib.hid hset232; clear hset232
                generalize xs.set a224 x225 = ys235 at HR238 HYL
                generalize w226.setCell ⟨g215, a224, none⟩ (.int .i64 x225) = wS234 at HR238 HU236 HF237 ⊢
                clear HXL hrw231 hb233
                have HXL := HYL
                clear HYL
                have hz239 := HF237.out.size
                go_wp2_with fail
                go_ret
                exact ⟨_, ys235, rfl, by omega, by (have h9 := HR238.out); (try unfold RowI at h9); unfold RowI; rw [HXL] at h9 ⊢; exact h9, HU236.out.mono (by omega), HF237.out⟩
          case true =>
            obtain ⟨g240, rfl, hg241⟩ : ∃ g, ad1 = some ⟨g, 0, none⟩ ∧ w.heap.size ≤ g := by
              obtain ⟨g, cap, e, hg⟩ := RowI.own (by exact HR207.out) (by rw [HXL]; omega)
              injection e with e1 _ _
              exact ⟨g, e1, hg⟩
            go_wp2_with fail
            refine (pick_c (N : Int) c (((n + 6) + 4 * xs.length) + 2) w204 HU205.out (by omega)).mono ?_
            rintro e w243 ⟨x242, rfl, hp244, hcu, hch⟩
            have HU245 := Lib.hid hcu; clear hcu
            have HF246 := Lib.hid (HF206.out.trans hch)
            have HR247 := Lib.hid (row_chg HR207.out hch (by omega))
            clear hch
            have hz248 := HF246.out.size
            obtain ⟨a249, rfl⟩ : ∃ a : Nat, x242 = a := ⟨x242.toNat, by omega⟩
            have a249l : a249 < N := by omega
            have a249x : (0 : Int) ≤ (a249 : Int) := by omega
            have a249y : (a249 : Int) < (N : Int) := by omega
            clear hp244
            go_wp2_with fail
            refine (pick_c (N : Int) c (((n + 6) + 4 * xs.length) + 4) w243 HU245.out (by omega)).mono ?_
            rintro e w251 ⟨x250, rfl, hp252, hcu, hch⟩
            have HU253 := Lib.hid hcu; clear hcu
            have HF254 := Lib.hid (HF246.out.trans hch)
            have HR255 := Lib.hid (row_chg HR247.out hch (by omega))
            clear hch
            have hz256 := HF254.out.size
            obtain ⟨a257, rfl⟩ : ∃ a : Nat, x250 = a := ⟨x250.toNat, by omega⟩
            have a257l : a257 < N := by omega
            have a257x : (0 : Int) ≤ (a257 : Int) := by omega
            have a257y : (a257 : Int) < (N : Int) := by omega
            clear hp252
            have hrw258 := HR255.out
            have fza249 := World.ownsRow.frozenAt hrw258 a249
            have cza249 := World.ownsRow.cellAt hrw258 a249 (by have := a249l; rw [HXL]; omega)
            rw [ints_get (show a249 < xs.length by rw [HXL]; exact a249l)] at cza249
            have fza257 := World.ownsRow.frozenAt hrw258 a257
            have cza257 := World.ownsRow.cellAt hrw258 a257 (by have := a257l; rw [HXL]; omega)
            rw [ints_get (show a257 < xs.length by rw [HXL]; exact a257l)] at cza257
            obtain ⟨y259, hy259⟩ : ∃ y, xs.getD a257 0 = y := ⟨_, rfl⟩
            rw [hy259] at cza257
            clear hy259
            go_wp2_with fail
            have hset260 : RowI (w251.setCell ⟨g240, a249, none⟩ (.int .i64 y259)) w.heap.size (.slice (some ⟨g240, 0, none⟩) xs.length cap1) _ := RowI.set (cap := cap1) (by exact hrw258) a249 y259
            have hb261 : Below w.heap.size w251 (w251.setCell ⟨g240, a249, none⟩ (.int .i64 y259)) := (Below.refl w.heap.size w251).setCell (p := ⟨g240, a249, none⟩) hg241 (.int .i64 y259)
            have HU264 := Lib.hid (HU253.out.under hb261 (by omega))
            have HF265 := Lib.hid (HF254.out.under hb261 (Nat.le_refl _) (by simp [World.setCell]))
            have HYL : (xs.set a249 y259).length = N := by rw [List.length_set]; exact HXL
            rw [HXL, ← HYL] at hset260
            have HR266 := Lib.hid hset260; clear hset260
            generalize xs.set a249 y259 = ys263 at HR266 HYL
            generalize w251.setCell ⟨g240, a249, none⟩ (.int .i64 y259) = wS262 at HR266 HU264 HF265 ⊢
            clear HXL hrw258 hb261
            have HXL := HYL
            clear HYL
            have hz267 := HF265.out.size
            by_cases hN0 : 0 < N
            case neg => (exfalso; omega)
            case pos =>
              have q0 : decide ((0 : Int) < (N : Int)) = true := decide_eq_true (by omega)
              go_wp2_with fail
              refine (one_c 24 c (((n + 6) + 4 * xs.length) + 6) wS262 HU264.out (by omega)).mono ?_
              rintro e w269 ⟨b268, rfl, hcu, hch⟩
              have HU270 := Lib.hid hcu; clear hcu
              have HF271 := Lib.hid (HF265.out.trans hch)
              have HR272 := Lib.hid (row_chg HR266.out hch (by omega))
              clear hch
              have hz273 := HF271.out.size
              cases b268
              case false =>
                go_wp2_with fail
                go_ret
                exact ⟨_, ys263, rfl, by omega, by (have h9 := HR272.out); (try unfold RowI at h9); unfold RowI; rw [HXL] at h9 ⊢; exact h9, HU270.out.mono (by omega), HF271.out⟩
              case true =>
                go_wp2_with fail
                refine (pick_c (N : Int) c (((n + 6) + 4 * xs.length) + 8) w269 HU270.out (by omega)).mono ?_
                rintro e w275 ⟨x274, rfl, hp276, hcu, hch⟩
                have HU277 := Lib.hid hcu; clear hcu
                have HF278 := Lib.hid (HF271.out.trans hch)
                have HR279 := Lib.hid (row_chg HR272.out hch (by omega))
                clear hch
                have hz280 := HF278.out.size
                obtain ⟨a281, rfl⟩ : ∃ a : Nat, x274 = a := ⟨x274.toNat, by omega⟩
                have a281l : a281 < N := by omega
                have a281x : (0 : Int) ≤ (a281 : Int) := by omega
                have a281y : (a281 : Int) < (N : Int) := by omega
                clear hp276
                go_wp2_with fail
                refine (anyNum_c c (((n + 6) + 4 * xs.length) + 10) w275 HU277.out (by omega)).mono ?_
                rintro e w283 ⟨x282, rfl, -, hcu, hch⟩
                have HU284 := Lib.hid hcu; clear hcu
                have HF285 := Lib.hid (HF278.out.trans hch)
                have HR286 := Lib.hid (row_chg HR279.out hch (by omega))
                clear hch
                have hz287 := HF285.out.size
                have hrw288 := HR286.out
                have fza281 := World.ownsRow.frozenAt hrw288 a281
                have cza281 := World.ownsRow.cellAt hrw288 a281 (by have := a281l; rw [HXL]; omega)
                rw [ints_get (show a281 < ys263.length by rw [HXL]; exact a281l)] at cza281
                go_wp2_with fail
                have hset289 : RowI (w283.setCell ⟨g240, a281, none⟩ (.int .i64 x282)) w.heap.size (.slice (some ⟨g240, 0, none⟩) ys263.length cap1) _ := RowI.set (cap := cap1) (by exact hrw288) a281 x282
                have hb290 : Below w.heap.size w283 (w283.setCell ⟨g240, a281, none⟩ (.int .i64 x282)) := (Below.refl w.heap.size w283).setCell (p := ⟨g240, a281, none⟩) hg241 (.int .i64 x282)
                have HU293 := Lib.hid (HU284.out.under hb290 (by omega))
                have HF294 := Lib.hid (HF285.out.under hb290 (Nat.le_refl _) (by simp [World.setCell]))
                have HYL : (ys263.set a281 x282).length = N := by rw [List.length_set]; exact HXL
                rw [HXL, ← HYL] at hset289
                have HR295 := Lib.hid hset289; clear hset289
                generalize ys263.set a281 x282 = ys292 at HR295 HYL
                generalize w283.setCell ⟨g240, a281, none⟩ (.int .i64 x282) = wS291 at HR295 HU293 HF294 ⊢
                clear HXL hrw288 hb290
                have HXL := HYL
                clear HYL
                have hz296 := HF294.out.size
                go_wp2_with fail
                go_ret
                exact ⟨_, ys292, rfl, by omega, by (have h9 := HR295.out); (try unfold RowI at h9); unfold RowI; rw [HXL] at h9 ⊢; exact h9, HU293.out.mono (by omega), HF294.out⟩

end Go.Proofs.YtfcdmdamniijbaaGreatDoor
