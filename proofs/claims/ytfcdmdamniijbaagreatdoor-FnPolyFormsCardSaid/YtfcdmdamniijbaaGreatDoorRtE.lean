/-
  Any polynomials, those with corners, with a fraction, with a number, that the cursor draws. Printed by gen_rtE.py.
-/
import Derived.Test.YtfcdmdamniijbaaGreatDoorRtD
namespace Go.Proofs.YtfcdmdamniijbaaGreatDoor
open Go.RowKit

set_option maxHeartbeats 6400000 in
set_option maxRecDepth 100000 in
theorem anyPoly_c (c n : Nat) (w : World) (h : Cur w c n) (hn : n ≤ 4611686018427200000) :
    Calls Tryz.prog 52 #[.pointer (some ⟨c, 0, none⟩)] w (IntsD (fun xs => xs.length ≤ 41) c (n + 300) w) := by
  have hcl := h.lt
  have H := Lib.hid h; clear h
  obtain ⟨iI, hiI0, hiI1, hiI2, hiI3⟩ := info_parts Tryz.infoI
  have HF1 := Lib.hid (Chg.refl c w)
  go_enter Tryz.func52, Tryz.ntmps52
  go_wp2_with fail
  refine (poly_c c n w H.out (by omega)).mono ?_
  rintro e w2 ⟨v, xs3, rfl, hx4, hrow, hcu, hch⟩
  obtain ⟨ad5, cap6, rfl, -⟩ := RowI.shape hrow
  have HU7 := Lib.hid hcu; clear hcu
  have HF8 := Lib.hid (HF1.out.trans hch)
  clear hch
  have hz9 := HF8.out.size
  have HR10 := Lib.hid hrow; clear hrow
  go_wp2_with fail
  refine (pick_c 16 c (n + 40) w2 HU7.out (by omega)).mono ?_
  rintro e w12 ⟨x11, rfl, hp13, hcu, hch⟩
  have HU14 := Lib.hid hcu; clear hcu
  have HF15 := Lib.hid (HF8.out.trans hch)
  have HR16 := Lib.hid (row_chg HR10.out hch (by omega))
  clear hch
  have hz17 := HF15.out.size
  by_cases h1 : x11 = 0
  case pos =>
    subst h1
    clear hp13
    go_wp2_with fail
    refine (pick_c 2 c (n + 42) w12 HU14.out (by omega)).mono ?_
    rintro e w19 ⟨x18, rfl, hp20, hcu, hch⟩
    have HU21 := Lib.hid hcu; clear hcu
    have HF22 := Lib.hid (HF15.out.trans hch)
    clear hch
    have hz23 := HF22.out.size
    obtain ⟨N, hN⟩ : ∃ N : Nat, 12 + x18 = N := ⟨(12 + x18).toNat, by omega⟩
    have eN : IntKind.i64.wrap (12 + x18) = (N : Int) := by rw [hN]; exact i64_small (by omega) (by omega)
    have hN4 : N ≤ 13 := by omega
    clear hp20 hN
    go_wp2_with fail
    go_loopw [3] (fun v wr => ∃ xs : List Int, xs.length ≤ N ∧ RowI wr w.heap.size v xs ∧ Cur wr c ((n + 44) + 2 * xs.length) ∧ Chg c w wr) (fun v _ => N - slen v)
    case atStart => exact ⟨[], by simp, RowI.nil _ _, HU21.out.mono (by simp), HF22.out⟩
    case round =>
      obtain ⟨xs, hxs, hrow, hcu, hch⟩ := hrel
      have HR := Lib.hid hrow; clear hrow
      have HU := Lib.hid hcu; clear hcu
      have HF := Lib.hid hch; clear hch
      have hsz := HF.out.size
      obtain ⟨wo, rfl⟩ : ∃ wo : World, wo = wr := ⟨_, rfl⟩
      obtain ⟨ad1, cap1, rfl, -⟩ := HR.out.shape
      by_cases hlt : xs.length < N
      case pos =>
        have g1 : decide ((xs.length : Int) < (N : Int)) = true := decide_eq_true (by omega)
        go_wp2_with fail
        refine (small_c c ((n + 44) + 2 * xs.length) wo HU.out (by omega)).mono ?_
        rintro e w25 ⟨x24, rfl, -, hcu, hch⟩
        have HU26 := Lib.hid hcu; clear hcu
        have HF27 := Lib.hid (HF.out.trans hch)
        have HR28 := Lib.hid (row_chg HR.out hch (by omega))
        clear hch
        have hz29 := HF27.out.size
        go_wp2_with (at_builtin; refine wpList_append_lies _ rfl _ _ 24 rfl w.heap.size 3 iI _ 1 8 Tryz.underlying24 hiI0 hiI1 hiI2 hiI3 rfl (by omega) (.slice ad1 xs.length cap1) xs.length (ints xs) rfl (HR28.out.alloc _) ⟨w25.heap.size, 0, none⟩ 1 1 [.int .i64 x24] rfl rfl (World.news_of_block (cs := #[.int .i64 x24]) (t := 3) (fr := (0, 0)) (heap_alloc_new _ _)) (by simp [Value.oneCell']) (by omega) (by unfold maxLen; omega) (by omega) (by simp; omega) (w25.heap.size + 1) (by simp) ?_; intro g30 cap31 w32 hown hgrow hat hltx; clear hat)
        have hb33 := app_below (Below.refl w.heap.size w25) (by omega) HR28.out hgrow
        have hz34 : w25.heap.size ≤ w32.heap.size := by have := hgrow.size; simp at this; omega
        have HR35 := Lib.hid (row_congr (ys := ints (xs ++ [x24])) hown (m := (xs ++ [x24]).length) (by simp) (by simp [ints])); clear hown
        clear hgrow
        have HU36 := Lib.hid (HU26.out.under hb33 (by omega))
        have HF37 := Lib.hid (HF27.out.under hb33 (by omega) hz34)
        clear hb33
        go_roundw
        case rel => exact ⟨xs ++ [x24], by simp; omega, HR35.out, HU36.out.mono (by simp; omega), HF37.out⟩
        case measure => (simp [slen]; omega)
      case neg =>
        have g1 : decide ((xs.length : Int) < (N : Int)) = false := decide_eq_false (by omega)
        go_wp2_with (at_builtin; refine wpList_append_lies _ rfl _ _ 24 rfl w.heap.size 3 iI _ 1 8 Tryz.underlying24 hiI0 hiI1 hiI2 hiI3 rfl (by omega) (.slice ad1 xs.length cap1) xs.length (ints xs) rfl (HR.out.alloc _) ⟨wo.heap.size, 0, none⟩ 1 1 [.int .i64 0] rfl rfl (World.news_of_block (cs := #[.int .i64 0]) (t := 3) (fr := (0, 0)) (heap_alloc_new _ _)) (by simp [Value.oneCell']) (by omega) (by unfold maxLen; omega) (by omega) (by simp; omega) (wo.heap.size + 1) (by simp) ?_; intro g38 cap39 w40 hown hgrow hat hltx; clear hat)
        have hb41 := app_below (Below.refl w.heap.size wo) (by omega) HR.out hgrow
        have hz42 : wo.heap.size ≤ w40.heap.size := by have := hgrow.size; simp at this; omega
        have HR43 := Lib.hid (row_congr (ys := ints (xs ++ [0])) hown (m := (xs ++ [0]).length) (by simp) (by simp [ints])); clear hown
        clear hgrow
        have HU44 := Lib.hid (HU.out.under hb41 (by omega))
        have HF45 := Lib.hid (HF.out.under hb41 (by omega) hz42)
        clear hb41
        go_wp2_with fail
        go_ret
        exact ⟨_, (xs ++ [0]), rfl, by simp; omega, RowI.mono (by exact HR43.out) (by omega), HU44.out.mono (by omega), HF45.out⟩
  case neg =>
    have e1 : (x11 == 0) = false := beq_eq_false_iff_ne.2 h1
    by_cases h2 : x11 = 1
    case pos =>
      subst h2
      clear e1 h1 hp13
      go_wp2_with fail
      have HU49 := Lib.hid (HU14.out.below ((Below.refl _ _).alloc (Nat.le_refl _) (.cells #[.int .i64 1000000000, .int .i64 1000000, .int .i64 (-1000000), .int .i64 1000001] 3)))
      have hl50 := HU14.out.lt
      have HF51 := Lib.hid (HF15.out.trans (Chg.alloc c w12 (.cells #[.int .i64 1000000000, .int .i64 1000000, .int .i64 (-1000000), .int .i64 1000001] 3)))
      have HR52 := Lib.hid (row_below HR16.out ((Below.refl _ _).alloc (Nat.le_refl _) (.cells #[.int .i64 1000000000, .int .i64 1000000, .int .i64 (-1000000), .int .i64 1000001] 3)))
      refine (among_c w12.heap.size 4 [1000000000, 1000000, (-1000000), 1000001] c (n + 42) (w12.alloc (.cells #[.int .i64 1000000000, .int .i64 1000000, .int .i64 (-1000000), .int .i64 1000001] 3)) HU49.out (by omega) (by simp) (by simp) (by omega) (Own.newA w12 _ 3 rfl)).mono ?_
      rintro e w47 ⟨x46, rfl, hx, hcu, hch⟩
      clear hx
      have HU53 := Lib.hid hcu; clear hcu
      have HF54 := Lib.hid (HF51.out.trans hch)
      have HR55 := Lib.hid (row_chg HR52.out hch (by omega))
      clear hch
      have hz56 := HF54.out.size
      go_wp2_with (at_builtin; refine wpList_append_lies _ rfl _ _ 24 rfl w.heap.size 3 iI _ 1 8 Tryz.underlying24 hiI0 hiI1 hiI2 hiI3 rfl (by omega) (.slice ad5 xs3.length cap6) xs3.length (ints xs3) rfl (HR55.out.alloc _) ⟨w47.heap.size, 0, none⟩ 1 1 [.int .i64 x46] rfl rfl (World.news_of_block (cs := #[.int .i64 x46]) (t := 3) (fr := (0, 0)) (heap_alloc_new _ _)) (by simp [Value.oneCell']) (by omega) (by unfold maxLen; omega) (by omega) (by simp; omega) (w47.heap.size + 1) (by simp) ?_; intro g57 cap58 w59 hown hgrow hat hltx; clear hat)
      have hb60 := app_below (Below.refl w.heap.size w47) (by omega) HR55.out hgrow
      have hz61 : w47.heap.size ≤ w59.heap.size := by have := hgrow.size; simp at this; omega
      have HR62 := Lib.hid (row_congr (ys := ints (xs3 ++ [x46])) hown (m := (xs3 ++ [x46]).length) (by simp) (by simp [ints])); clear hown
      clear hgrow
      have HU63 := Lib.hid (HU53.out.under hb60 (by omega))
      have HF64 := Lib.hid (HF54.out.under hb60 (by omega) hz61)
      clear hb60
      go_wp2_with fail
      go_ret
      exact ⟨_, (xs3 ++ [x46]), rfl, by simp; omega, RowI.mono (by exact HR62.out) (by omega), HU63.out.mono (by omega), HF64.out⟩
    case neg =>
      have e2 : (x11 == 1) = false := beq_eq_false_iff_ne.2 h2
      by_cases h3 : x11 = 2
      case pos =>
        subst h3
        clear e1 h1 e2 h2 hp13
        go_wp2_with fail
        refine (nums_c c (n + 42) w12 HU14.out (by omega)).mono ?_
        rintro e w65 ⟨v, xs66, rfl, hx67, hrow, hcu, hch⟩
        obtain ⟨ad68, cap69, rfl, -⟩ := RowI.shape hrow
        have HU70 := Lib.hid hcu; clear hcu
        have HF71 := Lib.hid (HF15.out.trans hch)
        clear hch
        have hz72 := HF71.out.size
        have HR73 := Lib.hid hrow; clear hrow
        go_wp2_with fail
        go_ret
        exact ⟨_, xs66, rfl, by simp; omega, RowI.mono (by exact HR73.out) (by omega), HU70.out.mono (by omega), HF71.out⟩
      case neg =>
        have e3 : (x11 == 2) = false := beq_eq_false_iff_ne.2 h3
        go_wp2_with fail
        go_ret
        exact ⟨_, xs3, rfl, by simp; omega, RowI.mono (by exact HR16.out) (by omega), HU14.out.mono (by omega), HF15.out⟩

def ListD (M : Nat) (w : World) (e : Ending) (w' : World) : Prop := ∃ (v : Value) (xs : List Int), e = .returned v ∧ xs.length ≤ M ∧ RowI w' w.heap.size v xs ∧ Below w.heap.size w w'

def ListND (M : Nat) (w : World) (e : Ending) (w' : World) : Prop := ∃ (v : Value) (xs : List Int) (x : Int), e = .returned (.tuple #[v, .int .i64 x]) ∧ xs.length ≤ M ∧ RowI w' w.heap.size v xs ∧ Below w.heap.size w w'
def ListFD (M : Nat) (w : World) (e : Ending) (w' : World) : Prop := ∃ (v : Value) (xs : List Int) (f : Fr), e = .returned (.tuple #[v, frV f]) ∧ xs.length ≤ M ∧ RowI w' w.heap.size v xs ∧ Below w.heap.size w w'
theorem RowI.setOther {w : World} {B g : Nat} {v : Value} {xs : List Int} {a b : Int} (h : RowI w B v xs) (hg : g < B) : RowI (fr2 w g a b) B v xs :=
  row_chg (row_chg h (Chg.set g 0 w (.int .i64 a)) hg) (Chg.set g 1 _ (.int .i64 b)) hg
end Go.Proofs.YtfcdmdamniijbaaGreatDoor
