/-
  The sets, chips and vertices that the cursor draws. Printed by gen_draw21.py.
-/
import Derived.Test.YtmhmdbmiimpbnaaDrawH
namespace Go.Proofs.Ytmhmdbmiimpbnaa
open Go.RowKit

/-- What a draw of a list gives. -/
def IntsD (P : List Int → Prop) (c n : Nat) (w : World) (e : Ending) (w' : World) : Prop := ∃ (v : Value) (xs : List Int), e = .returned v ∧ P xs ∧ RowI w' w.heap.size v xs ∧ Cur w' c n ∧ Chg c w w'

set_option maxHeartbeats 3200000 in
set_option maxRecDepth 100000 in
theorem vertices_c (m : Int) (c n : Nat) (w : World) (h : Cur w c n) (hn : n ≤ 4611686018427370000) (hm0 : -10 ≤ m) (hm : m ≤ 10) :
    Calls Try.prog 67 #[.pointer (some ⟨c, 0, none⟩), .int .i64 m] w (IntsD (fun xs => xs.length ≤ 11) c (n + 24) w) := by
  have hcl := h.lt
  have H := Lib.hid h; clear h
  obtain ⟨iI, hiI0, hiI1, hiI2, hiI3⟩ := info_parts Try.infoI
  go_enter Try.func67, Try.ntmps67
  go_wp2_with fail
  go_loopw [5, 6] (fun v i wr => ∃ (k : Nat) (xs : List Int), k ≤ m.toNat ∧ i = .int .i64 k ∧ xs.length ≤ k ∧ RowI wr w.heap.size v xs ∧ Cur wr c (n + 2 * k) ∧ Chg c w wr) (fun _ i _ => m.toNat - (intOf i).toNat)
  case atStart => exact ⟨0, [], by omega, rfl, by simp, RowI.nil _ _, H.out, Chg.refl _ _⟩
  case round =>
    obtain ⟨k, xs, hk, rfl, hxs, hrow, hcu, hch⟩ := hrel
    have HR := Lib.hid hrow; clear hrow
    have HU := Lib.hid hcu; clear hcu
    have HF := Lib.hid hch; clear hch
    have hsz := HF.out.size
    obtain ⟨wo, rfl⟩ : ∃ wo : World, wo = wr := ⟨_, rfl⟩
    by_cases hlt : (k : Int) < m
    case pos =>
      go_wp2_with fail
      refine (one_c 2 c (n + 2 * k) wo HU.out (by omega)).mono ?_
      rintro e w2 ⟨b1, rfl, hcu, hch⟩
      have HU3 := Lib.hid hcu; clear hcu
      have HF4 := Lib.hid (HF.out.trans hch)
      have HR5 := Lib.hid (row_chg HR.out hch (by omega))
      clear hch
      have hz6 := HF4.out.size
      cases b1
      case true =>
        go_wp2_with (at_builtin; refine wpList_append_lies _ rfl _ _ 30 rfl w.heap.size 3 iI _ 1 8 Try.underlying30 hiI0 hiI1 hiI2 hiI3 rfl (by omega) u5 xs.length (ints xs) rfl (HR5.out.alloc _) ⟨w2.heap.size, 0, none⟩ 1 1 [.int .i64 k] rfl rfl (World.news_of_block (cs := #[.int .i64 k]) (t := 3) (fr := (0, 0)) (heap_alloc_new _ _)) (by simp [Value.oneCell']) (by omega) (by unfold maxLen; omega) (by omega) (by simp; omega) (w2.heap.size + 1) (by simp) ?_; intro g7 cap8 w9 hown hgrow hat hltx; clear hat)
        have hb10 := app_below (Below.refl w.heap.size w2) (by omega) HR5.out hgrow
        have hz11 : w2.heap.size ≤ w9.heap.size := by have := hgrow.size; simp at this; omega
        have HR12 := Lib.hid (row_congr (ys := ints (xs ++ [(k : Int)])) hown (m := (xs ++ [(k : Int)]).length) (by simp) (by simp [ints])); clear hown
        clear hgrow
        have HU13 := Lib.hid (HU3.out.under hb10 (by omega))
        have HF14 := Lib.hid (HF4.out.under hb10 (by omega) hz11)
        clear hb10
        go_roundw
        case rel => exact ⟨k + 1, xs ++ [(k : Int)], by omega, by go_num, by simp; omega, HR12.out, HU13.out.mono (by omega), HF14.out⟩
        case measure => simp [intOf]; omega
      case false =>
        go_wp2_with fail
        go_roundw
        case rel => exact ⟨k + 1, _, by omega, by go_num, by omega, HR5.out, HU3.out.mono (by omega), HF4.out⟩
        case measure => simp [intOf]; omega
    case neg =>
      go_wp2_with fail
      refine (one_c 16 c (n + 2 * k) wo HU.out (by omega)).mono ?_
      rintro e w16 ⟨b15, rfl, hcu, hch⟩
      have HU17 := Lib.hid hcu; clear hcu
      have HF18 := Lib.hid (HF.out.trans hch)
      have HR19 := Lib.hid (row_chg HR.out hch (by omega))
      clear hch
      have hz20 := HF18.out.size
      cases b15
      case true =>
        go_wp2_with fail
        have HU24 := Lib.hid (HU17.out.below ((Below.refl _ _).alloc (Nat.le_refl _) (.cells #[.int .i64 m, .int .i64 0, .int .i64 (-1)] 3)))
        have hl25 := HU17.out.lt
        have HF26 := Lib.hid (HF18.out.trans (Chg.alloc c w16 (.cells #[.int .i64 m, .int .i64 0, .int .i64 (-1)] 3)))
        have HR27 := Lib.hid (row_below HR19.out ((Below.refl _ _).alloc (Nat.le_refl _) (.cells #[.int .i64 m, .int .i64 0, .int .i64 (-1)] 3)))
        refine (among_c w16.heap.size 3 [m, 0, -1] c ((n + 2 * k) + 2) (w16.alloc (.cells #[.int .i64 m, .int .i64 0, .int .i64 (-1)] 3)) HU24.out (by omega) (by simp) (by simp) (by omega) (Own.newA w16 _ 3 rfl)).mono ?_
        rintro e w22 ⟨x21, rfl, hx, hcu, hch⟩
        clear hx
        have HU28 := Lib.hid hcu; clear hcu
        have HF29 := Lib.hid (HF26.out.trans hch)
        have HR30 := Lib.hid (row_chg HR27.out hch (by omega))
        clear hch
        have hz31 := HF29.out.size
        go_wp2_with (at_builtin; refine wpList_append_lies _ rfl _ _ 30 rfl w.heap.size 3 iI _ 1 8 Try.underlying30 hiI0 hiI1 hiI2 hiI3 rfl (by omega) u5 xs.length (ints xs) rfl (HR30.out.alloc _) ⟨w22.heap.size, 0, none⟩ 1 1 [.int .i64 x21] rfl rfl (World.news_of_block (cs := #[.int .i64 x21]) (t := 3) (fr := (0, 0)) (heap_alloc_new _ _)) (by simp [Value.oneCell']) (by omega) (by unfold maxLen; omega) (by omega) (by simp; omega) (w22.heap.size + 1) (by simp) ?_; intro g32 cap33 w34 hown hgrow hat hltx; clear hat)
        have hb35 := app_below (Below.refl w.heap.size w22) (by omega) HR30.out hgrow
        have hz36 : w22.heap.size ≤ w34.heap.size := by have := hgrow.size; simp at this; omega
        have HR37 := Lib.hid (row_congr (ys := ints (xs ++ [x21])) hown (m := (xs ++ [x21]).length) (by simp) (by simp [ints])); clear hown
        clear hgrow
        have HU38 := Lib.hid (HU28.out.under hb35 (by omega))
        have HF39 := Lib.hid (HF29.out.under hb35 (by omega) hz36)
        clear hb35
        go_ret
        exact ⟨_, xs ++ [x21], rfl, by simp; omega, HR37.out, HU38.out.mono (by omega), HF39.out⟩
      case false =>
        go_wp2_with fail
        go_ret
        exact ⟨_, xs, rfl, by omega, HR19.out, HU17.out.mono (by omega), HF18.out⟩

end Go.Proofs.Ytmhmdbmiimpbnaa
