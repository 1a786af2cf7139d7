/-
  The graphs that the cursor draws: some links, not many.
-/
import Derived.Test.YtmhmdbmiimpbnaaCur
import Derived.Test.YtmhmdbmiimpbnaaVal
import Derived.Deep.AppendLies
namespace Go.Proofs.Ytmhmdbmiimpbnaa
open Go.RowKit

def RowL (w : World) (B : Nat) (v : Value) (ls : List Lk) : Prop := w.ownsRow B 41 3 v ls.length (lks ls)
theorem RowL.nil (w : World) (B : Nat) : RowL w B (.slice none 0 0) [] := ⟨rfl, Or.inl ⟨rfl, rfl⟩⟩
theorem lks_snoc (ls : List Lk) (x : Lk) : lks (ls ++ [x]) = lks ls ++ [.int .i64 x.a, .int .i64 x.b, .int .i64 x.n] := by simp [lks]
def RowI (w : World) (B : Nat) (v : Value) (xs : List Int) : Prop := w.ownsRow B 3 1 v xs.length (ints xs)
theorem RowI.nil (w : World) (B : Nat) : RowI w B (.slice none 0 0) [] := ⟨rfl, Or.inl ⟨rfl, rfl⟩⟩

/-- What a draw of a graph gives. -/
def GraphD (P : Int → List Lk → Prop) (c n : Nat) (w : World) (e : Ending) (w' : World) : Prop := ∃ (m : Int) (v : Value) (ls : List Lk), e = .returned (.tuple #[.int .i64 m, v]) ∧ P m ls ∧ RowL w' w.heap.size v ls ∧ Cur w' c n ∧ Chg c w w'

set_option maxHeartbeats 3200000 in
set_option maxRecDepth 100000 in
theorem graph_c (c n : Nat) (w : World) (h : Cur w c n) (hn : n ≤ 4611686018427380000) :
    Calls Try.prog 108 #[.pointer (some ⟨c, 0, none⟩)] w (GraphD (fun m ls => 1 ≤ m ∧ m ≤ 8 ∧ ls.length ≤ 128) c (n + 1000) w) := by
  have hcl := h.lt
  have H := Lib.hid h; clear h
  obtain ⟨iL, hiL, hzL, hsL, hbL⟩ := info_parts Try.infoL
  go_enter Try.func108, Try.ntmps108
  go_wp2_with fail
  refine (pick_c 5 c n w H.out (by omega)).mono ?_
  rintro e w1 ⟨x1, rfl, ⟨hx0, hx1⟩, hcu, hch1⟩
  have H1 := Lib.hid hcu; clear hcu
  have hx1' : x1 ≤ 4 := by omega
  clear hx1
  go_wp2_with fail
  refine (one_c 16 c (n + 2) w1 H1.out (by omega)).mono ?_
  rintro e w2 ⟨b1, rfl, hcu, hch2⟩
  have H2 := Lib.hid hcu; clear hcu
  have HC2 := Lib.hid (hch1.trans hch2); clear hch1 hch2
  clear H H1
  have hm : ∃ m : Nat, ((m : Int) = if b1 = true then (8 : Int) else 1 + x1) ∧ 1 ≤ m ∧ m ≤ 8 := ⟨(if b1 = true then (8 : Int) else 1 + x1).toNat, by split <;> omega, by split <;> omega, by split <;> omega⟩
  obtain ⟨m, hm, hm1, hm8⟩ := hm
  cases b1
  all_goals
    simp only [if_true, if_false, Bool.false_eq_true] at hm
    go_wp2_with fail
    rw [← hm]
    clear hm hx0 hx1'
    refine (pick_c 3 c (n + 4) w2 H2.out (by omega)).mono ?_
    rintro e w3 ⟨x3, rfl, ⟨hx30, hx31⟩, hcu, hch3⟩
    have H3 := Lib.hid hcu; clear hcu
    have hx3 : x3 ≤ 2 := by omega
    have HC3 := Lib.hid (HC2.out.trans hch3); clear hch3 HC2 H2 hx31
    go_wp2_with fail
    go_loopw [6, 7] (fun v i wr => ∃ (a : Nat) (ls : List Lk), a ≤ m ∧ i = .int .i64 a ∧ ls.length ≤ 8 * a ∧ RowL wr w.heap.size v ls ∧ Cur wr c (n + 6 + 64 * a) ∧ Chg c w wr) (fun _ i _ => m - (intOf i).toNat)
    case atStart => exact ⟨0, [], by omega, rfl, by simp, RowL.nil _ _, H3.out.mono (by omega), HC3.out⟩
    case round =>
      obtain ⟨a, ls, ha, rfl, hls, hrow, hcu, hch⟩ := hrel
      have HR := Lib.hid hrow; clear hrow
      have H4 := Lib.hid hcu; clear hcu
      have HC4 := Lib.hid hch; clear hch
      clear HC3 H3
      obtain ⟨wo, rfl⟩ : ∃ wo : World, wo = wr := ⟨_, rfl⟩
      by_cases hlt : a < m
      case neg =>
        have e8 : a = m := by omega
        subst e8
        go_wp2_with fail
        go_ret2
        exact ⟨_, _, ls, rfl, ⟨by omega, by omega, by omega⟩, HR.out, H4.out.mono (by omega), HC4.out⟩
      case pos =>
        go_wp2_with fail
        go_loopw [6, 8] (fun v i wr => ∃ (b : Nat) (ls : List Lk), b ≤ m ∧ a + 1 ≤ b ∧ i = .int .i64 b ∧ ls.length ≤ 8 * a + b ∧ RowL wr w.heap.size v ls ∧ Cur wr c (n + 6 + 64 * a + 6 * b) ∧ Chg c w wr) (fun _ i _ => m - (intOf i).toNat)
        case atStart => exact ⟨a + 1, ls, by omega, by omega, by go_num, by omega, HR.out, H4.out.mono (by omega), HC4.out⟩
        case round =>
          clear hls HR H4 HC4
          obtain ⟨b, ls, hb, hab, rfl, hls, hrow, hcu, hch⟩ := hrel
          have HR := Lib.hid hrow; clear hrow
          have H4 := Lib.hid hcu; clear hcu
          have HC4 := Lib.hid hch; clear hch
          obtain ⟨wo, rfl⟩ : ∃ wo : World, wo = wr := ⟨_, rfl⟩
          by_cases hbm : b < m
          case neg =>
            have e8 : b = m := by omega
            subst e8
            go_wp2_with fail
            go_roundw
            case rel => exact ⟨a + 1, ls, by omega, by go_num, by omega, HR.out, H4.out.mono (by omega), HC4.out⟩
            case measure => simp [intOf]; omega
          case pos =>
            by_cases he : b = a + 1
            case pos =>
              have hd1 : ((b : Int) == (a : Int) + 1) = true := by simpa using (by omega : (b : Int) = (a : Int) + 1)
              clear he
              go_wp2_with fail
              refine (one_c 12 c _ wo H4.out (by omega)).mono ?_
              rintro e wj ⟨b5, rfl, hcu, hch⟩
              cases b5
              case false =>
                obtain ⟨wk, rfl⟩ : ∃ wk : World, wk = wj := ⟨_, rfl⟩
                have H5 := Lib.hid (hcu.mono (show _ ≤ n + 6 + 64 * a + 6 * b + 4 by omega))
                have HC5 := Lib.hid (HC4.out.trans hch)
                have HR5 := Lib.hid (row_chg HR.out hch hcl); clear hch
                clear hcu
                go_wp2_with fail
                refine (among_c wk.heap.size 5 [1, 1, 1, 2, 5] c (n + 6 + 64 * a + 6 * b + 4) (wk.alloc (.cells #[.int .i64 1, .int .i64 1, .int .i64 1, .int .i64 2, .int .i64 5] 3)) (H5.out.below ((Below.refl _ _).alloc (Nat.le_refl _) _)) (by omega) (by decide) (by decide) (by have := H5.out.lt; omega) (Own.newA wk _ 3 rfl)).mono ?_
                rintro e wl ⟨x, rfl, hx, hcu, hch⟩
                clear hx
                have H6 := Lib.hid hcu; clear hcu
                have HC6 := Lib.hid ((HC5.out.trans (Chg.alloc c _ _)).trans hch)
                have HR6 := Lib.hid (row_chg (row_below HR5.out ((Below.refl _ _).alloc (Nat.le_refl _) _)) hch hcl); clear hch
                have hszl := HC6.out.size
                go_wp2_with (at_builtin; refine wpList_append_lies _ rfl _ _ 24 rfl w.heap.size 41 iL _ 3 24 Try.underlying24 hiL hzL hsL hbL rfl (by omega) u6 ls.length (lks ls) rfl (HR6.out.alloc _) ⟨wl.heap.size, 0, none⟩ 1 1 [.int .i64 a, .int .i64 b, .int .i64 x] rfl rfl (World.news_of_block (cs := #[.int .i64 a, .int .i64 b, .int .i64 x]) (t := 41) (fr := (0, 0)) (heap_alloc_new _ _)) (by simp [Value.oneCell']) (by omega) (by unfold maxLen; omega) (by omega) (by simp; omega) (wl.heap.size + 1) (by simp) ?_; intro g5 cap5 wm hown hgrow hat hlt5; clear hat)
                have hbm := app_below (Below.refl w.heap.size wl) hszl HR6.out hgrow
                have hszm : wl.heap.size ≤ wm.heap.size := by have := hgrow.size; simp at this; omega
                go_roundw
                case rel => exact ⟨b + 1, ls ++ [⟨a, b, x⟩], by omega, by omega, by go_num, by simp; omega, row_congr hown (by simp) (lks_snoc ls ⟨a, b, x⟩).symm, (H6.out.under hbm hcl).mono (by omega), HC6.out.under hbm (Nat.le_refl _) hszm⟩
                case measure => simp [intOf]; omega
              case true =>
                have H4' := Lib.hid hcu; clear hcu
                go_wp2_with fail
                refine (one_c (1 + x3 + 1) c _ wj H4'.out (by omega)).mono ?_
                rintro e wk ⟨b6, rfl, hcu, hch2⟩
                replace hch := hch.trans hch2
                clear hch2
                have H5 := Lib.hid (hcu.mono (show _ ≤ n + 6 + 64 * a + 6 * b + 4 by omega))
                have HC5 := Lib.hid (HC4.out.trans hch)
                have HR5 := Lib.hid (row_chg HR.out hch hcl); clear hch
                clear hcu
                cases b6
                case true =>
                  go_wp2_with fail
                  refine (among_c wk.heap.size 5 [1, 1, 1, 2, 5] c (n + 6 + 64 * a + 6 * b + 4) (wk.alloc (.cells #[.int .i64 1, .int .i64 1, .int .i64 1, .int .i64 2, .int .i64 5] 3)) (H5.out.below ((Below.refl _ _).alloc (Nat.le_refl _) _)) (by omega) (by decide) (by decide) (by have := H5.out.lt; omega) (Own.newA wk _ 3 rfl)).mono ?_
                  rintro e wl ⟨x, rfl, hx, hcu, hch⟩
                  clear hx
                  have H6 := Lib.hid hcu; clear hcu
                  have HC6 := Lib.hid ((HC5.out.trans (Chg.alloc c _ _)).trans hch)
                  have HR6 := Lib.hid (row_chg (row_below HR5.out ((Below.refl _ _).alloc (Nat.le_refl _) _)) hch hcl); clear hch
                  have hszl := HC6.out.size
                  go_wp2_with (at_builtin; refine wpList_append_lies _ rfl _ _ 24 rfl w.heap.size 41 iL _ 3 24 Try.underlying24 hiL hzL hsL hbL rfl (by omega) u6 ls.length (lks ls) rfl (HR6.out.alloc _) ⟨wl.heap.size, 0, none⟩ 1 1 [.int .i64 a, .int .i64 b, .int .i64 x] rfl rfl (World.news_of_block (cs := #[.int .i64 a, .int .i64 b, .int .i64 x]) (t := 41) (fr := (0, 0)) (heap_alloc_new _ _)) (by simp [Value.oneCell']) (by omega) (by unfold maxLen; omega) (by omega) (by simp; omega) (wl.heap.size + 1) (by simp) ?_; intro g5 cap5 wm hown hgrow hat hlt5; clear hat)
                  have hbm := app_below (Below.refl w.heap.size wl) hszl HR6.out hgrow
                  have hszm : wl.heap.size ≤ wm.heap.size := by have := hgrow.size; simp at this; omega
                  go_roundw
                  case rel => exact ⟨b + 1, ls ++ [⟨a, b, x⟩], by omega, by omega, by go_num, by simp; omega, row_congr hown (by simp) (lks_snoc ls ⟨a, b, x⟩).symm, (H6.out.under hbm hcl).mono (by omega), HC6.out.under hbm (Nat.le_refl _) hszm⟩
                  case measure => simp [intOf]; omega
                case false =>
                  go_wp2_with fail
                  go_roundw
                  case rel => exact ⟨b + 1, ls, by omega, by omega, by go_num, by omega, HR5.out, H5.out.mono (by omega), HC5.out⟩
                  case measure => simp [intOf]; omega
            case neg =>
              have hd1 : ((b : Int) == (a : Int) + 1) = false := by simpa using (by omega : (b : Int) ≠ (a : Int) + 1)
              clear he
              go_wp2_with fail
              refine (one_c (1 + x3 + 1) c _ wo H4.out (by omega)).mono ?_
              rintro e wk ⟨b6, rfl, hcu, hch⟩
              have H5 := Lib.hid (hcu.mono (show _ ≤ n + 6 + 64 * a + 6 * b + 4 by omega))
              have HC5 := Lib.hid (HC4.out.trans hch)
              have HR5 := Lib.hid (row_chg HR.out hch hcl); clear hch
              clear hcu
              cases b6
              case true =>
                go_wp2_with fail
                refine (among_c wk.heap.size 5 [1, 1, 1, 2, 5] c (n + 6 + 64 * a + 6 * b + 4) (wk.alloc (.cells #[.int .i64 1, .int .i64 1, .int .i64 1, .int .i64 2, .int .i64 5] 3)) (H5.out.below ((Below.refl _ _).alloc (Nat.le_refl _) _)) (by omega) (by decide) (by decide) (by have := H5.out.lt; omega) (Own.newA wk _ 3 rfl)).mono ?_
                rintro e wl ⟨x, rfl, hx, hcu, hch⟩
                clear hx
                have H6 := Lib.hid hcu; clear hcu
                have HC6 := Lib.hid ((HC5.out.trans (Chg.alloc c _ _)).trans hch)
                have HR6 := Lib.hid (row_chg (row_below HR5.out ((Below.refl _ _).alloc (Nat.le_refl _) _)) hch hcl); clear hch
                have hszl := HC6.out.size
                go_wp2_with (at_builtin; refine wpList_append_lies _ rfl _ _ 24 rfl w.heap.size 41 iL _ 3 24 Try.underlying24 hiL hzL hsL hbL rfl (by omega) u6 ls.length (lks ls) rfl (HR6.out.alloc _) ⟨wl.heap.size, 0, none⟩ 1 1 [.int .i64 a, .int .i64 b, .int .i64 x] rfl rfl (World.news_of_block (cs := #[.int .i64 a, .int .i64 b, .int .i64 x]) (t := 41) (fr := (0, 0)) (heap_alloc_new _ _)) (by simp [Value.oneCell']) (by omega) (by unfold maxLen; omega) (by omega) (by simp; omega) (wl.heap.size + 1) (by simp) ?_; intro g5 cap5 wm hown hgrow hat hlt5; clear hat)
                have hbm := app_below (Below.refl w.heap.size wl) hszl HR6.out hgrow
                have hszm : wl.heap.size ≤ wm.heap.size := by have := hgrow.size; simp at this; omega
                go_roundw
                case rel => exact ⟨b + 1, ls ++ [⟨a, b, x⟩], by omega, by omega, by go_num, by simp; omega, row_congr hown (by simp) (lks_snoc ls ⟨a, b, x⟩).symm, (H6.out.under hbm hcl).mono (by omega), HC6.out.under hbm (Nat.le_refl _) hszm⟩
                case measure => simp [intOf]; omega
              case false =>
                go_wp2_with fail
                go_roundw
                case rel => exact ⟨b + 1, ls, by omega, by omega, by go_num, by omega, HR5.out, H5.out.mono (by omega), HC5.out⟩
                case measure => simp [intOf]; omega

end Go.Proofs.Ytmhmdbmiimpbnaa
