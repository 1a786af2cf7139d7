/-
  The divisors and vertices that the cursor draws. Printed by gen_draw22.py.
-/
import Derived.Test.YtmhmdbmiimpbnaaChipGraphsL
import Derived.Test.YtmhmdbmiimpbnaaRedR
namespace Go.Proofs.Ytmhmdbmiimpbnaa
open Go.RowKit

theorem RowI.set {w : World} {B g cap : Nat} {xs : List Int} (h : RowI w B (.slice (some ⟨g, 0, none⟩) xs.length cap) xs) (k : Nat) (x : Int) :
    RowI (w.setCell ⟨g, k, none⟩ (.int .i64 x)) B (.slice (some ⟨g, 0, none⟩) xs.length cap) (xs.set k x) := by
  have := (World.ownsRow.stored h k (.int .i64 x)).1
  exact row_congr this (by simp) (by rw [ints_set])
def smallD (d : List Int) : Prop := ∀ y ∈ d, -100 ≤ y ∧ y ≤ 100
theorem smallD.snoc {d : List Int} {x : Int} (h : smallD d) (hx : -100 ≤ x ∧ x ≤ 100) : smallD (d ++ [x]) := fun y hy => by
  rcases List.mem_append.1 hy with h1 | h1
  · exact h y h1
  · have : y = x := by simpa using h1
    rw [this]; exact hx
theorem smallD.set {d : List Int} {x : Int} (h : smallD d) (hx : -100 ≤ x ∧ x ≤ 100) (k : Nat) : smallD (d.set k x) := fun y hy => by
  rcases List.mem_or_eq_of_mem_set hy with h1 | h1
  · exact h y h1
  · rw [h1]; exact hx
def ChipsP (m : Int) (ls : List Lk) (d : List Int) : Prop := -1 ≤ m ∧ m ≤ 9 ∧ ls.length ≤ 129 ∧ d.length ≤ 11 ∧ smallD d
/-- What a draw of a graph with chips gives. -/
def LinkedD (c n : Nat) (w : World) (e : Ending) (w' : World) : Prop := ∃ (m : Int) (v : Value) (ls : List Lk) (u : Value) (d : List Int), e = .returned (.tuple #[.int .i64 m, v, u]) ∧ ChipsP m ls d ∧ RowL w' w.heap.size v ls ∧ RowI w' w.heap.size u d ∧ Cur w' c n ∧ Chg c w w'
def VertD (c n : Nat) (w : World) (e : Ending) (w' : World) : Prop := ∃ x : Int, e = .returned (.int .i64 x) ∧ Cur w' c n ∧ Chg c w w'

def leastZ (a b : Int) : Int := if a < b then a else b
set_option maxHeartbeats 400000 in
theorem l1Least_any (x y : Int) (w : World) :
    Calls Try.prog 117 #[.int .i64 x, .int .i64 y] w fun e w' => e = .returned (.int .i64 (leastZ x y)) ∧ w = w' := by
  by_cases h : x < y
  · have hz := Lib.hid (show leastZ x y = x from if_pos h)
    go_enter Try.func117, Try.ntmps117
    go_wp2_with fail
    go_ret
    exact ⟨ret_int hz.out.symm, rfl⟩
  · have hz := Lib.hid (show leastZ x y = y from if_neg h)
    go_enter Try.func117, Try.ntmps117
    go_wp2_with fail
    go_ret
    exact ⟨ret_int hz.out.symm, rfl⟩

set_option maxHeartbeats 1600000 in
theorem vertexOf_c (m : Int) (c n : Nat) (w : World) (h : Cur w c n) (hn : n ≤ 4611686018427370000) (hm0 : -1 ≤ m) (hm : m ≤ 9) :
    Calls Try.prog 88 #[.pointer (some ⟨c, 0, none⟩), .int .i64 m] w (VertD c (n + 6) w) := by
  have hcl := h.lt
  have H := Lib.hid h; clear h
  have HF := Lib.hid (Chg.refl c w)
  have hz0 := HF.out.size
  go_enter Try.func88, Try.ntmps88
  go_wp2_with fail
  refine (l1Least_any m 10 _).mono ?_
  rintro e w' ⟨rfl, rfl⟩
  go_wp2_with fail
  refine (l1Most_any 1 (leastZ m 10) _).mono ?_
  rintro e w' ⟨rfl, rfl⟩
  generalize mostZ 1 (leastZ m 10) = mz
  go_wp2_with fail
  refine (pick_c mz c n w H.out (by omega)).mono ?_
  rintro e w2 ⟨x1, rfl, hp3, hcu, hch⟩
  have HU4 := Lib.hid hcu; clear hcu
  have HF5 := Lib.hid (HF.out.trans hch)
  clear hch
  have hz6 := HF5.out.size
  clear hp3
  go_wp2_with fail
  have HU10 := Lib.hid (HU4.out.below ((Below.refl _ _).alloc (Nat.le_refl _) (.cells #[.int .i64 0, .int .i64 m, .int .i64 (-1)] 3)))
  have hl11 := HU4.out.lt
  have HF12 := Lib.hid (HF5.out.trans (Chg.alloc c w2 (.cells #[.int .i64 0, .int .i64 m, .int .i64 (-1)] 3)))
  refine (among_c w2.heap.size 3 [0, m, -1] c (n + 2) (w2.alloc (.cells #[.int .i64 0, .int .i64 m, .int .i64 (-1)] 3)) HU10.out (by omega) (by simp) (by simp) (by omega) (Own.newA w2 _ 3 rfl)).mono ?_
  rintro e w8 ⟨x7, rfl, hx, hcu, hch⟩
  clear hx
  have HU13 := Lib.hid hcu; clear hcu
  have HF14 := Lib.hid (HF12.out.trans hch)
  clear hch
  have hz15 := HF14.out.size
  go_wp2_with fail
  have HU19 := Lib.hid (HU13.out.below ((Below.refl _ _).alloc (Nat.le_refl _) (.cells #[.int .i64 0, .int .i64 0, .int .i64 x1, .int .i64 (m - 1), .int .i64 x7] 3)))
  have hl20 := HU13.out.lt
  have HF21 := Lib.hid (HF14.out.trans (Chg.alloc c w8 (.cells #[.int .i64 0, .int .i64 0, .int .i64 x1, .int .i64 (m - 1), .int .i64 x7] 3)))
  refine (among_c w8.heap.size 5 [0, 0, x1, (m - 1), x7] c (n + 4) (w8.alloc (.cells #[.int .i64 0, .int .i64 0, .int .i64 x1, .int .i64 (m - 1), .int .i64 x7] 3)) HU19.out (by omega) (by simp) (by simp) (by omega) (Own.newA w8 _ 3 rfl)).mono ?_
  rintro e w17 ⟨x16, rfl, hx, hcu, hch⟩
  clear hx
  have HU22 := Lib.hid hcu; clear hcu
  have HF23 := Lib.hid (HF21.out.trans hch)
  clear hch
  have hz24 := HF23.out.size
  go_wp2_with fail
  go_ret
  exact ⟨_, rfl, HU22.out.mono (by omega), HF23.out⟩
  
set_option maxHeartbeats 6400000 in
set_option maxRecDepth 100000 in
theorem linked_c (c n : Nat) (w : World) (h : Cur w c n) (hn : n ≤ 4611686018427360000) :
    Calls Try.prog 73 #[.pointer (some ⟨c, 0, none⟩)] w (LinkedD c (n + 2100) w) := by
  have hcl := h.lt
  have H := Lib.hid h; clear h
  obtain ⟨iI, hiI0, hiI1, hiI2, hiI3⟩ := info_parts Try.infoI
  go_enter Try.func73, Try.ntmps73
  go_wp2_with fail
  refine (graph_c c n w H.out (by omega)).mono ?_
  rintro e wg ⟨m, v, ls, rfl, ⟨hm1, hm2, hls⟩, hrow, hcu, hch⟩
  have HU := Lib.hid hcu; clear hcu
  have HF := Lib.hid hch; clear hch
  have HR := Lib.hid hrow; clear hrow
  have hzg := HF.out.size
  go_wp2_with fail
  refine (one_c 24 c (n + 1000) wg HU.out (by omega)).mono ?_
  rintro e w2 ⟨b1, rfl, hcu, hch⟩
  have HU3 := Lib.hid hcu; clear hcu
  have HF4 := Lib.hid (HF.out.trans hch)
  have HR5 := Lib.hid (row_chg HR.out hch (by omega))
  clear hch
  have hz6 := HF4.out.size
  cases b1
  case false =>
    have HF0 := HF4
    have HA1 := Lib.hid (Chg.refl c w2)
    go_wp2_with fail
    go_loopw [7] (fun u wr => ∃ (d : List Int), d.length ≤ 10 ∧ smallD d ∧ RowI wr w2.heap.size u d ∧ Cur wr c (n + 2010 + 2 * d.length) ∧ Chg c w2 wr) (fun u _ => match u with | .slice _ k _ => 10 - k | _ => 0)
    case atStart => exact ⟨[], by simp, fun y hy => by simp at hy, RowI.nil _ _, HU3.out.mono (by omega), HA1.out⟩
    case round =>
      obtain ⟨d, hd, hsm, hrow, hcu, hch⟩ := hrel
      have HSM := Lib.hid hsm; clear hsm
      have HR := Lib.hid hrow
      have HU := Lib.hid hcu; clear hcu
      have HG := Lib.hid hch; clear hch
      have hszw := HG.out.size
      obtain ⟨wo, rfl⟩ : ∃ wo : World, wo = wr := ⟨_, rfl⟩
      obtain ⟨add, capd, rfl, hsh⟩ := hrow.shape
      clear hrow
      have HSH := Lib.hid hsh; clear hsh
      by_cases hlt : (d.length : Int) < m
      case pos =>
        by_cases hlt2 : d.length < 10
        case pos =>
          go_wp2_with fail
          have HU10 := Lib.hid (HU.out.below ((Below.refl _ _).alloc (Nat.le_refl _) (.cells #[.int .i64 0, .int .i64 0, .int .i64 1, .int .i64 2, .int .i64 3, .int .i64 (-1), .int .i64 (-2), .int .i64 5] 3)))
          have hl11 := HU.out.lt
          have HF12 := Lib.hid (HG.out.trans (Chg.alloc c wo (.cells #[.int .i64 0, .int .i64 0, .int .i64 1, .int .i64 2, .int .i64 3, .int .i64 (-1), .int .i64 (-2), .int .i64 5] 3)))
          have HR13 := Lib.hid (row_below HR.out ((Below.refl _ _).alloc (Nat.le_refl _) (.cells #[.int .i64 0, .int .i64 0, .int .i64 1, .int .i64 2, .int .i64 3, .int .i64 (-1), .int .i64 (-2), .int .i64 5] 3)))
          refine (among_c wo.heap.size 8 [0, 0, 1, 2, 3, -1, -2, 5] c (n + 2010 + 2 * d.length) (wo.alloc (.cells #[.int .i64 0, .int .i64 0, .int .i64 1, .int .i64 2, .int .i64 3, .int .i64 (-1), .int .i64 (-2), .int .i64 5] 3)) HU10.out (by omega) (by simp) (by simp) (by omega) (Own.newA wo _ 3 rfl)).mono ?_
          rintro e w8 ⟨x7, rfl, hx, hcu, hch⟩
          have hm9 : -100 ≤ x7 ∧ x7 ≤ 100 := by simp at hx; omega
          clear hx
          have HU14 := Lib.hid hcu; clear hcu
          have HF15 := Lib.hid (HF12.out.trans hch)
          have HR16 := Lib.hid (row_chg HR13.out hch (by omega))
          clear hch
          have hz17 := HF15.out.size
          go_wp2_with (at_builtin; refine wpList_append_lies _ rfl _ _ 30 rfl w2.heap.size 3 iI _ 1 8 Try.underlying30 hiI0 hiI1 hiI2 hiI3 rfl (by omega) (.slice add d.length capd) d.length (ints d) rfl (HR16.out.alloc _) ⟨w8.heap.size, 0, none⟩ 1 1 [.int .i64 x7] rfl rfl (World.news_of_block (cs := #[.int .i64 x7]) (t := 3) (fr := (0, 0)) (heap_alloc_new _ _)) (by simp [Value.oneCell']) (by omega) (by unfold maxLen; omega) (by omega) (by simp; omega) (w8.heap.size + 1) (by simp) ?_; intro g18 cap19 w20 hown hgrow hat hltx; clear hat)
          have hb21 := app_below (Below.refl w2.heap.size w8) (by omega) HR16.out hgrow
          have hz22 : w8.heap.size ≤ w20.heap.size := by have := hgrow.size; simp at this; omega
          have HR23 := Lib.hid (row_congr (ys := ints (d ++ [x7])) hown (m := (d ++ [x7]).length) (by simp) (by simp [ints])); clear hown
          clear hgrow
          have HU24 := Lib.hid (HU14.out.under hb21 (by omega))
          have HF25 := Lib.hid (HF15.out.under hb21 (by omega) hz22)
          clear hb21
          go_roundw
          case rel => exact ⟨d ++ [x7], by simp; omega, HSM.out.snoc (by omega), HR23.out, HU24.out.mono (by simp; omega), HF25.out⟩
          case measure => simp; omega
        case neg =>
          exfalso; omega
      case neg =>
        have HU := Lib.hid (HU.out.mono (show _ ≤ n + 2030 by omega))
        go_wp2_with fail
        refine (pick_c 30 c (n + 2030) wo HU.out (by omega)).mono ?_
        rintro e w27 ⟨x26, rfl, hp28, hcu, hch⟩
        have HU29 := Lib.hid hcu; clear hcu
        have HF30 := Lib.hid (HG.out.trans hch)
        have HR31 := Lib.hid (row_chg HR.out hch (by omega))
        clear hch
        have hz32 := HF30.out.size
        have hx : x26 = 0 ∨ x26 = 1 ∨ (x26 ≠ 0 ∧ x26 ≠ 1) := by omega
        clear hp28
        rcases hx with rfl | rfl | ⟨h0, h1⟩
        · skip
          go_wp2_with (at_builtin; refine wpList_append_lies _ rfl _ _ 30 rfl w2.heap.size 3 iI _ 1 8 Try.underlying30 hiI0 hiI1 hiI2 hiI3 rfl (by omega) (.slice add d.length capd) d.length (ints d) rfl (HR31.out.alloc _) ⟨w27.heap.size, 0, none⟩ 1 1 [.int .i64 1] rfl rfl (World.news_of_block (cs := #[.int .i64 1]) (t := 3) (fr := (0, 0)) (heap_alloc_new _ _)) (by simp [Value.oneCell']) (by omega) (by unfold maxLen; omega) (by omega) (by simp; omega) (w27.heap.size + 1) (by simp) ?_; intro g33 cap34 w35 hown hgrow hat hltx; clear hat)
          have hb36 := app_below (Below.refl w2.heap.size w27) (by omega) HR31.out hgrow
          have hz37 : w27.heap.size ≤ w35.heap.size := by have := hgrow.size; simp at this; omega
          have HR38 := Lib.hid (row_congr (ys := ints (d ++ [1])) hown (m := (d ++ [1]).length) (by simp) (by simp [ints])); clear hown
          clear hgrow
          have HU39 := Lib.hid (HU29.out.under hb36 (by omega))
          have HF40 := Lib.hid (HF30.out.under hb36 (by omega) hz37)
          clear hb36
          go_ret3
          exact ⟨_, _, ls, _, d ++ [1], rfl, ⟨by omega, by omega, by omega, by simp; omega, HSM.out.snoc (by omega)⟩, RowL.mono (row_chg HR5.out HF40.out (by omega)) (by omega), RowI.mono HR38.out (by omega), HU39.out.mono (by omega), HF0.out.trans HF40.out⟩
        · by_cases h0 : 0 < d.length
          · obtain ⟨gd, rfl, hgd⟩ := HSH.out h0
            go_wp2_with fail
            refine (pick_c d.length c ((n + 2030) + 2) w27 HU29.out (by omega)).mono ?_
            rintro e w42 ⟨x41, rfl, hp43, hcu, hch⟩
            have HU44 := Lib.hid hcu; clear hcu
            have HF45 := Lib.hid (HF30.out.trans hch)
            have HR46 := Lib.hid (row_chg HR31.out hch (by omega))
            clear hch
            have hz47 := HF45.out.size
            obtain ⟨k, rfl⟩ : ∃ k : Nat, x41 = k := ⟨x41.toNat, by omega⟩
            have hk : k < d.length := by omega
            clear hp43
            go_wp2_with fail
            have HU51 := Lib.hid (HU44.out.below ((Below.refl _ _).alloc (Nat.le_refl _) (.cells #[.int .i64 20, .int .i64 (-20), .int .i64 21, .int .i64 (-21)] 3)))
            have hl52 := HU44.out.lt
            have HF53 := Lib.hid (HF45.out.trans (Chg.alloc c w42 (.cells #[.int .i64 20, .int .i64 (-20), .int .i64 21, .int .i64 (-21)] 3)))
            have HR54 := Lib.hid (row_below HR46.out ((Below.refl _ _).alloc (Nat.le_refl _) (.cells #[.int .i64 20, .int .i64 (-20), .int .i64 21, .int .i64 (-21)] 3)))
            refine (among_c w42.heap.size 4 [20, -20, 21, -21] c ((n + 2030) + 4) (w42.alloc (.cells #[.int .i64 20, .int .i64 (-20), .int .i64 21, .int .i64 (-21)] 3)) HU51.out (by omega) (by simp) (by simp) (by omega) (Own.newA w42 _ 3 rfl)).mono ?_
            rintro e w49 ⟨x48, rfl, hx, hcu, hch⟩
            have hm50 : -100 ≤ x48 ∧ x48 ≤ 100 := by simp at hx; omega
            clear hx
            have HU55 := Lib.hid hcu; clear hcu
            have HF56 := Lib.hid (HF53.out.trans hch)
            have HR57 := Lib.hid (row_chg HR54.out hch (by omega))
            clear hch
            have hz58 := HF56.out.size
            have fz := World.ownsRow.frozenAt HR57.out k
            have cz := World.ownsRow.cellAt HR57.out k (by omega)
            rw [ints_get hk] at cz
            have HSET := Lib.hid (RowI.set (cap := capd) HR57.out k x48)
            have hb := (Below.refl w2.heap.size w49).setCell (p := ⟨gd, k, none⟩) hgd (.int .i64 x48)
            go_wp2_with fail
            go_ret3
            exact ⟨_, _, ls, _, d.set k x48, rfl, ⟨by omega, by omega, by omega, by simp; omega, HSM.out.set (by omega) k⟩, RowL.mono (row_chg HR5.out (HF56.out.under hb (Nat.le_refl _) (by simp [World.setCell])) (by omega)) (by omega), RowI.mono (by simpa using HSET.out) (by omega), (HU55.out.under hb (by omega)).mono (by omega), HF0.out.trans (HF56.out.under hb (Nat.le_refl _) (by simp [World.setCell]))⟩
          · skip
            go_wp2_with fail
            go_ret3
            exact ⟨_, _, ls, _, d, rfl, ⟨by omega, by omega, by omega, by omega, HSM.out⟩, RowL.mono (row_chg HR5.out HF30.out (by omega)) (by omega), RowI.mono HR31.out (by omega), HU29.out.mono (by omega), HF0.out.trans HF30.out⟩
        · have e0 : (x26 == 0) = false := by simpa using h0
          have e1 : (x26 == 1) = false := by simpa using h1
          clear h0 h1
          go_wp2_with fail
          go_ret3
          exact ⟨_, _, ls, _, d, rfl, ⟨by omega, by omega, by omega, by omega, HSM.out⟩, RowL.mono (row_chg HR5.out HF30.out (by omega)) (by omega), RowI.mono HR31.out (by omega), HU29.out.mono (by omega), HF0.out.trans HF30.out⟩
  case true =>
    go_wp2_with fail
    refine (anyGraph_c c (n + 1002) w2 HU3.out (by omega)).mono ?_
    rintro e wh ⟨m2, v2, ls2, rfl, ⟨hm21, hm22, hls2⟩, hrow, hcu, hch⟩
    have HU := Lib.hid hcu; clear hcu
    have HF0 := Lib.hid (HF4.out.trans hch); clear hch
    have HRG := Lib.hid hrow; clear hrow
    have hzh := HF0.out.size
    have HA2 := Lib.hid (Chg.refl c wh)
    go_wp2_with fail
    go_loopw [7] (fun u wr => ∃ (d : List Int), d.length ≤ 10 ∧ smallD d ∧ RowI wr wh.heap.size u d ∧ Cur wr c (n + 2010 + 2 * d.length) ∧ Chg c wh wr) (fun u _ => match u with | .slice _ k _ => 10 - k | _ => 0)
    case atStart => exact ⟨[], by simp, fun y hy => by simp at hy, RowI.nil _ _, HU.out.mono (by omega), HA2.out⟩
    case round =>
      obtain ⟨d, hd, hsm, hrow, hcu, hch⟩ := hrel
      have HSM := Lib.hid hsm; clear hsm
      have HR := Lib.hid hrow
      have HU := Lib.hid hcu; clear hcu
      have HG := Lib.hid hch; clear hch
      have hszw := HG.out.size
      obtain ⟨wo, rfl⟩ : ∃ wo : World, wo = wr := ⟨_, rfl⟩
      obtain ⟨add, capd, rfl, hsh⟩ := hrow.shape
      clear hrow
      have HSH := Lib.hid hsh; clear hsh
      by_cases hlt : (d.length : Int) < m2
      case pos =>
        by_cases hlt2 : d.length < 10
        case pos =>
          go_wp2_with fail
          have HU62 := Lib.hid (HU.out.below ((Below.refl _ _).alloc (Nat.le_refl _) (.cells #[.int .i64 0, .int .i64 0, .int .i64 1, .int .i64 2, .int .i64 3, .int .i64 (-1), .int .i64 (-2), .int .i64 5] 3)))
          have hl63 := HU.out.lt
          have HF64 := Lib.hid (HG.out.trans (Chg.alloc c wo (.cells #[.int .i64 0, .int .i64 0, .int .i64 1, .int .i64 2, .int .i64 3, .int .i64 (-1), .int .i64 (-2), .int .i64 5] 3)))
          have HR65 := Lib.hid (row_below HR.out ((Below.refl _ _).alloc (Nat.le_refl _) (.cells #[.int .i64 0, .int .i64 0, .int .i64 1, .int .i64 2, .int .i64 3, .int .i64 (-1), .int .i64 (-2), .int .i64 5] 3)))
          refine (among_c wo.heap.size 8 [0, 0, 1, 2, 3, -1, -2, 5] c (n + 2010 + 2 * d.length) (wo.alloc (.cells #[.int .i64 0, .int .i64 0, .int .i64 1, .int .i64 2, .int .i64 3, .int .i64 (-1), .int .i64 (-2), .int .i64 5] 3)) HU62.out (by omega) (by simp) (by simp) (by omega) (Own.newA wo _ 3 rfl)).mono ?_
          rintro e w60 ⟨x59, rfl, hx, hcu, hch⟩
          have hm61 : -100 ≤ x59 ∧ x59 ≤ 100 := by simp at hx; omega
          clear hx
          have HU66 := Lib.hid hcu; clear hcu
          have HF67 := Lib.hid (HF64.out.trans hch)
          have HR68 := Lib.hid (row_chg HR65.out hch (by omega))
          clear hch
          have hz69 := HF67.out.size
          go_wp2_with (at_builtin; refine wpList_append_lies _ rfl _ _ 30 rfl wh.heap.size 3 iI _ 1 8 Try.underlying30 hiI0 hiI1 hiI2 hiI3 rfl (by omega) (.slice add d.length capd) d.length (ints d) rfl (HR68.out.alloc _) ⟨w60.heap.size, 0, none⟩ 1 1 [.int .i64 x59] rfl rfl (World.news_of_block (cs := #[.int .i64 x59]) (t := 3) (fr := (0, 0)) (heap_alloc_new _ _)) (by simp [Value.oneCell']) (by omega) (by unfold maxLen; omega) (by omega) (by simp; omega) (w60.heap.size + 1) (by simp) ?_; intro g70 cap71 w72 hown hgrow hat hltx; clear hat)
          have hb73 := app_below (Below.refl wh.heap.size w60) (by omega) HR68.out hgrow
          have hz74 : w60.heap.size ≤ w72.heap.size := by have := hgrow.size; simp at this; omega
          have HR75 := Lib.hid (row_congr (ys := ints (d ++ [x59])) hown (m := (d ++ [x59]).length) (by simp) (by simp [ints])); clear hown
          clear hgrow
          have HU76 := Lib.hid (HU66.out.under hb73 (by omega))
          have HF77 := Lib.hid (HF67.out.under hb73 (by omega) hz74)
          clear hb73
          go_roundw
          case rel => exact ⟨d ++ [x59], by simp; omega, HSM.out.snoc (by omega), HR75.out, HU76.out.mono (by simp; omega), HF77.out⟩
          case measure => simp; omega
        case neg =>
          exfalso; omega
      case neg =>
        have HU := Lib.hid (HU.out.mono (show _ ≤ n + 2030 by omega))
        go_wp2_with fail
        refine (pick_c 30 c (n + 2030) wo HU.out (by omega)).mono ?_
        rintro e w79 ⟨x78, rfl, hp80, hcu, hch⟩
        have HU81 := Lib.hid hcu; clear hcu
        have HF82 := Lib.hid (HG.out.trans hch)
        have HR83 := Lib.hid (row_chg HR.out hch (by omega))
        clear hch
        have hz84 := HF82.out.size
        have hx : x78 = 0 ∨ x78 = 1 ∨ (x78 ≠ 0 ∧ x78 ≠ 1) := by omega
        clear hp80
        rcases hx with rfl | rfl | ⟨h0, h1⟩
        · skip
          go_wp2_with (at_builtin; refine wpList_append_lies _ rfl _ _ 30 rfl wh.heap.size 3 iI _ 1 8 Try.underlying30 hiI0 hiI1 hiI2 hiI3 rfl (by omega) (.slice add d.length capd) d.length (ints d) rfl (HR83.out.alloc _) ⟨w79.heap.size, 0, none⟩ 1 1 [.int .i64 1] rfl rfl (World.news_of_block (cs := #[.int .i64 1]) (t := 3) (fr := (0, 0)) (heap_alloc_new _ _)) (by simp [Value.oneCell']) (by omega) (by unfold maxLen; omega) (by omega) (by simp; omega) (w79.heap.size + 1) (by simp) ?_; intro g85 cap86 w87 hown hgrow hat hltx; clear hat)
          have hb88 := app_below (Below.refl wh.heap.size w79) (by omega) HR83.out hgrow
          have hz89 : w79.heap.size ≤ w87.heap.size := by have := hgrow.size; simp at this; omega
          have HR90 := Lib.hid (row_congr (ys := ints (d ++ [1])) hown (m := (d ++ [1]).length) (by simp) (by simp [ints])); clear hown
          clear hgrow
          have HU91 := Lib.hid (HU81.out.under hb88 (by omega))
          have HF92 := Lib.hid (HF82.out.under hb88 (by omega) hz89)
          clear hb88
          go_ret3
          exact ⟨_, _, ls2, _, d ++ [1], rfl, ⟨by omega, by omega, by omega, by simp; omega, HSM.out.snoc (by omega)⟩, RowL.mono (row_chg HRG.out HF92.out (by omega)) (by omega), RowI.mono HR90.out (by omega), HU91.out.mono (by omega), HF0.out.trans HF92.out⟩
        · by_cases h0 : 0 < d.length
          · obtain ⟨gd, rfl, hgd⟩ := HSH.out h0
            go_wp2_with fail
            refine (pick_c d.length c ((n + 2030) + 2) w79 HU81.out (by omega)).mono ?_
            rintro e w94 ⟨x93, rfl, hp95, hcu, hch⟩
            have HU96 := Lib.hid hcu; clear hcu
            have HF97 := Lib.hid (HF82.out.trans hch)
            have HR98 := Lib.hid (row_chg HR83.out hch (by omega))
            clear hch
            have hz99 := HF97.out.size
            obtain ⟨k, rfl⟩ : ∃ k : Nat, x93 = k := ⟨x93.toNat, by omega⟩
            have hk : k < d.length := by omega
            clear hp95
            go_wp2_with fail
            have HU103 := Lib.hid (HU96.out.below ((Below.refl _ _).alloc (Nat.le_refl _) (.cells #[.int .i64 20, .int .i64 (-20), .int .i64 21, .int .i64 (-21)] 3)))
            have hl104 := HU96.out.lt
            have HF105 := Lib.hid (HF97.out.trans (Chg.alloc c w94 (.cells #[.int .i64 20, .int .i64 (-20), .int .i64 21, .int .i64 (-21)] 3)))
            have HR106 := Lib.hid (row_below HR98.out ((Below.refl _ _).alloc (Nat.le_refl _) (.cells #[.int .i64 20, .int .i64 (-20), .int .i64 21, .int .i64 (-21)] 3)))
            refine (among_c w94.heap.size 4 [20, -20, 21, -21] c ((n + 2030) + 4) (w94.alloc (.cells #[.int .i64 20, .int .i64 (-20), .int .i64 21, .int .i64 (-21)] 3)) HU103.out (by omega) (by simp) (by simp) (by omega) (Own.newA w94 _ 3 rfl)).mono ?_
            rintro e w101 ⟨x100, rfl, hx, hcu, hch⟩
            have hm102 : -100 ≤ x100 ∧ x100 ≤ 100 := by simp at hx; omega
            clear hx
            have HU107 := Lib.hid hcu; clear hcu
            have HF108 := Lib.hid (HF105.out.trans hch)
            have HR109 := Lib.hid (row_chg HR106.out hch (by omega))
            clear hch
            have hz110 := HF108.out.size
            have fz := World.ownsRow.frozenAt HR109.out k
            have cz := World.ownsRow.cellAt HR109.out k (by omega)
            rw [ints_get hk] at cz
            have HSET := Lib.hid (RowI.set (cap := capd) HR109.out k x100)
            have hb := (Below.refl wh.heap.size w101).setCell (p := ⟨gd, k, none⟩) hgd (.int .i64 x100)
            go_wp2_with fail
            go_ret3
            exact ⟨_, _, ls2, _, d.set k x100, rfl, ⟨by omega, by omega, by omega, by simp; omega, HSM.out.set (by omega) k⟩, RowL.mono (row_chg HRG.out (HF108.out.under hb (Nat.le_refl _) (by simp [World.setCell])) (by omega)) (by omega), RowI.mono (by simpa using HSET.out) (by omega), (HU107.out.under hb (by omega)).mono (by omega), HF0.out.trans (HF108.out.under hb (Nat.le_refl _) (by simp [World.setCell]))⟩
          · skip
            go_wp2_with fail
            go_ret3
            exact ⟨_, _, ls2, _, d, rfl, ⟨by omega, by omega, by omega, by omega, HSM.out⟩, RowL.mono (row_chg HRG.out HF82.out (by omega)) (by omega), RowI.mono HR83.out (by omega), HU81.out.mono (by omega), HF0.out.trans HF82.out⟩
        · have e0 : (x78 == 0) = false := by simpa using h0
          have e1 : (x78 == 1) = false := by simpa using h1
          clear h0 h1
          go_wp2_with fail
          go_ret3
          exact ⟨_, _, ls2, _, d, rfl, ⟨by omega, by omega, by omega, by omega, HSM.out⟩, RowL.mono (row_chg HRG.out HF82.out (by omega)) (by omega), RowI.mono HR83.out (by omega), HU81.out.mono (by omega), HF0.out.trans HF82.out⟩

def absZ (x : Int) : Int := mostZ x (-x)
set_option maxHeartbeats 400000 in
theorem l1Abs_any (x : Int) (w : World) (h0 : -1000000000000 ≤ x) (h1 : x ≤ 1000000000000) :
    Calls Try.prog 125 #[.int .i64 x] w fun e w' => e = .returned (.int .i64 (absZ x)) ∧ w = w' := by
  have hw : IntKind.i64.wrap (-x) = -x := i64_small (by omega) (by omega)
  have HM := Lib.hid (fun w => l1Most_any x (-x) w)
  go_enter Try.func125, Try.ntmps125
  go_wp2_with fail
  refine (HM.out _).mono ?_
  rintro e w' ⟨rfl, rfl⟩
  go_wp2_with fail
  go_ret
  exact ⟨rfl, rfl⟩
/-- What a draw of a graph with chips and a vertex gives. -/
def PaidD (c n : Nat) (w : World) (e : Ending) (w' : World) : Prop := ∃ (m : Int) (adl : Option Addr) (capl : Nat) (ls : List Lk) (u : Value) (d : List Int) (q : Int), e = .returned (.tuple #[.int .i64 m, .slice adl ls.length capl, u, .int .i64 q]) ∧ ChipsP m ls d ∧ RdL w' adl ls ∧ RdV w' u d ∧ Cur w' c n ∧ Chg c w w'
theorem smallD.take {xs : List Int} (h : smallD xs) {k : Nat} (hk : k < xs.length) : -100 ≤ xs.getD k 0 ∧ xs.getD k 0 ≤ 100 := h _ (by rw [List.getD_eq_getElem?_getD, List.getElem?_eq_getElem hk]; exact List.getElem_mem hk)
theorem mostZ_bd {x : Int} (h : -100 ≤ x ∧ x ≤ 100) : -100 ≤ mostZ x (-100) ∧ mostZ x (-100) ≤ 100 := by
  unfold mostZ; split <;> omega
theorem abs_small {x : Int} (h : -100 ≤ x ∧ x ≤ 100) : -100 ≤ absZ (mostZ x (-100)) ∧ absZ (mostZ x (-100)) ≤ 100 := by
  unfold absZ mostZ; split <;> split <;> omega
theorem rowL_set {w : World} {B gd k cap n : Nat} {v : Value} {ls : List Lk} {ys : List Int} {x : Int} (h : RowL w B v ls) (hr : RowI w B (.slice (some ⟨gd, 0, none⟩) n cap) ys) : RowL (w.setCell ⟨gd, k, none⟩ (.int .i64 x)) B v ls := by
  rcases Own.of_row hr with ⟨e, _⟩ | ⟨g, cap', e, _, _, _, ho⟩
  · simp at e
  · simp only [Value.slice.injEq, Option.some.injEq, Addr.mk.injEq, and_true] at e
    obtain ⟨rfl, _⟩ := e
    exact World.ownsRow.setCellOther h (ownsRow_ne h ho (by decide))
theorem RowL.rdc {w : World} {B : Nat} {ad : Option Addr} {n cap : Nat} {ls : List Lk} (h : RowL w B (.slice ad n cap) ls) : RdL w ad ls := by
  obtain ⟨ad', cap', e, hr⟩ := h.rd
  simp only [Value.slice.injEq] at e
  rw [e.1]; exact hr
theorem RowI.rdc {w : World} {B : Nat} {ad : Option Addr} {n cap : Nat} {xs : List Int} (h : RowI w B (.slice ad n cap) xs) : RdI w ad xs := by
  obtain ⟨ad', cap', e, hr⟩ := h.rdV
  simp only [Value.slice.injEq] at e
  rw [e.1]; exact hr

set_option maxHeartbeats 6400000 in
set_option maxRecDepth 100000 in
theorem paid_c (c n : Nat) (w : World) (h : Cur w c n) (hn : n ≤ 4611686018427360000) :
    Calls Try.prog 122 #[.pointer (some ⟨c, 0, none⟩)] w (PaidD c (n + 2120) w) := by
  have hcl := h.lt
  have H := Lib.hid h; clear h
  go_enter Try.func122, Try.ntmps122
  go_wp2_with fail
  refine (linked_c c n w H.out (by omega)).mono ?_
  rintro e w1 ⟨m, v, ls, u, d, rfl, ⟨hm1, hm2, hls, hdl, hsm⟩, hrowl, hrow, hcu, hch⟩
  obtain ⟨adl, capl, rfl, _⟩ := hrowl.shape
  obtain ⟨add, capd, rfl, hsh⟩ := hrow.shape
  have HSH := Lib.hid hsh; clear hsh
  have HSM := Lib.hid hsm; clear hsm
  have HU := Lib.hid hcu; clear hcu
  have HF := Lib.hid hch; clear hch
  have HR := Lib.hid hrow; clear hrow
  have HRL := Lib.hid hrowl; clear hrowl
  have hz1 := HF.out.size
  have HF1 := Lib.hid (Chg.refl c w1)
  go_wp2_with fail
  refine (vertexOf_c m c (n + 2100) w1 HU.out (by omega) hm1 hm2).mono ?_
  rintro e w2 ⟨q, rfl, hcu, hch⟩
  have HU2 := Lib.hid hcu; clear hcu
  have HF3 := Lib.hid (HF.out.trans hch)
  have HF4 := Lib.hid (HF1.out.trans hch)
  have HR5 := Lib.hid (row_chg HR.out hch (by omega))
  clear hch
  have hz6 := HF3.out.size
  have hz7 := HF4.out.size
  go_wp2_with fail
  refine (one_c 8 c (n + 2106) w2 HU2.out (by omega)).mono ?_
  rintro e w9 ⟨b8, rfl, hcu, hch⟩
  have HU10 := Lib.hid hcu; clear hcu
  have HF11 := Lib.hid (HF3.out.trans hch)
  have HF12 := Lib.hid (HF4.out.trans hch)
  have HR13 := Lib.hid (row_chg HR5.out hch (by omega))
  clear hch
  have hz14 := HF11.out.size
  have hz15 := HF12.out.size
  cases b8
  case true =>
    go_wp2_with fail
    refine bodyPost_ret (v := .tuple #[.int .i64 m, .slice adl ls.length capl, .slice add d.length capd, .int .i64 q]) (by simp [results, Try.results122, go_sem]) rfl ?_
    exact ⟨m, adl, capl, ls, _, _, q, rfl, ⟨by omega, by omega, by omega, by omega, HSM.out⟩, RowL.rdc (row_chg HRL.out HF12.out (by omega)), RowI.rdV HR13.out, HU10.out.mono (by omega), HF11.out⟩
  case false =>
    go_wp2_with fail
    have HRX := Lib.hid (RowL.rdc (row_chg HRL.out HF12.out (by omega)))
    have hask := fun w hr => rdAsked_any m adl capl ls add capd d q w (by omega) hr (by omega)
    generalize hak : askB m ls d q = ak at hask
    have HAK := Lib.hid hak; clear hak
    have HASK := Lib.hid hask; clear hask
    refine (HASK.out _ HRX.out (RowI.rdc HR13.out)).mono ?_
    rintro e w5 ⟨rfl, hb5⟩
    have HRW5 := Lib.hid (row_below (row_chg HRL.out HF12.out (by omega)) hb5)
    have HU16 := Lib.hid (HU10.out.below hb5)
    have HF17 := Lib.hid (HF11.out.trans (Chg.of_below hb5))
    have HF18 := Lib.hid (HF12.out.trans (Chg.of_below hb5))
    have HR19 := Lib.hid (row_below HR13.out hb5)
    have hz20 := HF17.out.size
    have hz21 := HF18.out.size
    cases ak
    case false =>
      have HA := Lib.hid (Chg.refl c w5)
      go_wp2_with fail
      go_loopw [53] (fun i wr => ∃ (k : Nat) (ys : List Int), k ≤ d.length ∧ i = .int .i64 k ∧ ys.length = d.length ∧ smallD ys ∧ RowI wr w.heap.size (.slice add d.length capd) ys ∧ RowL wr w.heap.size (.slice adl ls.length capl) ls ∧ Cur wr c (n + 2120) ∧ Chg c w wr) (fun i _ => d.length - (intOf i).toNat)
      case atStart => exact ⟨0, d, Nat.zero_le _, rfl, rfl, HSM.out, HR19.out, HRW5.out, HU16.out.mono (by omega), HF17.out⟩
      case round =>
        obtain ⟨k, ys, hk, rfl, hyl, hys, hrow, hrl, hcu, hch⟩ := hrel
        have HYL := Lib.hid hyl
        have HYS := Lib.hid hys
        have HRY := Lib.hid hrow; clear hrow
        have HRZ := Lib.hid hrl; clear hrl
        have HUY := Lib.hid hcu; clear hcu
        have HFY := Lib.hid hch; clear hch
        have hszy := HFY.out.size
        obtain ⟨wo, rfl⟩ : ∃ wo : World, wo = wr := ⟨_, rfl⟩
        by_cases hlt : k < d.length
        case pos =>
          obtain ⟨gd, rfl, hgd⟩ := HSH.out (by omega)
          have hyk := hys.take (k := k) (by omega)
          clear hys hyl
          by_cases hq : (k : Int) = q
          case pos =>
            have hd1 : ((k : Int) != q) = false := by simp [hq]
            have hd2 : ((k : Int) == q) = true := by simp [hq]
            clear hq
            go_wp2_with fail
            go_roundw
            case rel => exact ⟨k + 1, ys, by omega, by go_num, HYL.out, HYS.out, HRY.out, HRZ.out, HUY.out, HFY.out⟩
            case measure => simp [intOf]; omega
          case neg =>
            have hd1 : ((k : Int) != q) = true := by simpa using hq
            have hd2 : ((k : Int) == q) = false := by simpa using hq
            clear hq
            have hrow := HRY.out
            rw [show d.length = ys.length from HYL.out.symm] at hrow
            have fz := World.ownsRow.frozenAt hrow k
            have cz := World.ownsRow.cellAt hrow k (by have := HYL.out; omega)
            rw [ints_get (show k < ys.length by have := HYL.out; omega)] at cz
            have HSET := Lib.hid (fun x => RowI.set (cap := capd) hrow k x); clear hrow
            generalize ys.getD k 0 = y at cz hyk
            have hab := abs_small hyk
            have hmz := mostZ_bd hyk
            go_wp2_with fail
            refine (l1Most_any y (-100) _).mono ?_
            rintro e w' ⟨rfl, rfl⟩
            generalize hmo : mostZ y (-100) = z at hab hmz
            clear hmo
            go_wp2_with fail
            refine (l1Abs_any z _ (by omega) (by omega)).mono ?_
            rintro e w' ⟨rfl, rfl⟩
            generalize absZ z = z2 at hab
            have hset := HSET.out z2
            have HSE2 := Lib.hid hset; clear hset
            have hb := (Below.refl w.heap.size wo).setCell (p := ⟨gd, k, none⟩) hgd (.int .i64 z2)
            have hne := Lib.hid (rowL_set (k := k) (x := z2) HRZ.out HRY.out)
            go_wp2_with fail
            go_roundw
            case rel => exact ⟨k + 1, ys.set k z2, by omega, by go_num, by rw [List.length_set]; exact HYL.out, HYS.out.set hab k, by have := HSE2.out; rw [HYL.out] at this; exact this, hne.out, HUY.out.under hb (by omega), HFY.out.under hb (by omega) (by simp [World.setCell])⟩
            case measure => simp [intOf]; omega
        case neg =>
          go_wp2_with fail
          refine bodyPost_ret (v := .tuple #[.int .i64 m, .slice adl ls.length capl, .slice add d.length capd, .int .i64 q]) (by simp [results, Try.results122, go_sem]) rfl ?_
          exact ⟨m, adl, capl, ls, _, ys, q, rfl, ⟨by omega, by omega, by omega, by omega, HYS.out⟩, RowL.rdc HRZ.out, by have := HRY.out; rw [show d.length = ys.length from hyl.symm] at this ⊢; exact RowI.rdV this, HUY.out, HFY.out⟩
    case true =>
      go_wp2_with fail
      refine (one_c 2 c (n + 2108) w5 HU16.out (by omega)).mono ?_
      rintro e w23 ⟨b22, rfl, hcu, hch⟩
      have HU24 := Lib.hid hcu; clear hcu
      have HF25 := Lib.hid (HF17.out.trans hch)
      have HF26 := Lib.hid (HF18.out.trans hch)
      have HR27 := Lib.hid (row_chg HR19.out hch (by omega))
      clear hch
      have hz28 := HF25.out.size
      have hz29 := HF26.out.size
      have HRX6 := Lib.hid (RowL.rdc (row_chg HRL.out HF26.out (by omega)))
      have HRW6 := Lib.hid (row_chg HRL.out HF26.out (by omega))
      cases b22
      case false =>
        have HA := Lib.hid (Chg.refl c w23)
        go_wp2_with fail
        go_loopw [53] (fun i wr => ∃ (k : Nat) (ys : List Int), k ≤ d.length ∧ i = .int .i64 k ∧ ys.length = d.length ∧ smallD ys ∧ RowI wr w.heap.size (.slice add d.length capd) ys ∧ RowL wr w.heap.size (.slice adl ls.length capl) ls ∧ Cur wr c (n + 2120) ∧ Chg c w wr) (fun i _ => d.length - (intOf i).toNat)
        case atStart => exact ⟨0, d, Nat.zero_le _, rfl, rfl, HSM.out, HR27.out, HRW6.out, HU24.out.mono (by omega), HF25.out⟩
        case round =>
          obtain ⟨k, ys, hk, rfl, hyl, hys, hrow, hrl, hcu, hch⟩ := hrel
          have HYL := Lib.hid hyl
          have HYS := Lib.hid hys
          have HRY := Lib.hid hrow; clear hrow
          have HRZ := Lib.hid hrl; clear hrl
          have HUY := Lib.hid hcu; clear hcu
          have HFY := Lib.hid hch; clear hch
          have hszy := HFY.out.size
          obtain ⟨wo, rfl⟩ : ∃ wo : World, wo = wr := ⟨_, rfl⟩
          by_cases hlt : k < d.length
          case pos =>
            obtain ⟨gd, rfl, hgd⟩ := HSH.out (by omega)
            have hyk := hys.take (k := k) (by omega)
            clear hys hyl
            by_cases hq : (k : Int) = q
            case pos =>
              have hd1 : ((k : Int) != q) = false := by simp [hq]
              have hd2 : ((k : Int) == q) = true := by simp [hq]
              clear hq
              go_wp2_with fail
              go_roundw
              case rel => exact ⟨k + 1, ys, by omega, by go_num, HYL.out, HYS.out, HRY.out, HRZ.out, HUY.out, HFY.out⟩
              case measure => simp [intOf]; omega
            case neg =>
              have hd1 : ((k : Int) != q) = true := by simpa using hq
              have hd2 : ((k : Int) == q) = false := by simpa using hq
              clear hq
              have hrow := HRY.out
              rw [show d.length = ys.length from HYL.out.symm] at hrow
              have fz := World.ownsRow.frozenAt hrow k
              have cz := World.ownsRow.cellAt hrow k (by have := HYL.out; omega)
              rw [ints_get (show k < ys.length by have := HYL.out; omega)] at cz
              have HSET := Lib.hid (fun x => RowI.set (cap := capd) hrow k x); clear hrow
              generalize ys.getD k 0 = y at cz hyk
              have hab := abs_small hyk
              have hmz := mostZ_bd hyk
              go_wp2_with fail
              refine (l1Most_any y (-100) _).mono ?_
              rintro e w' ⟨rfl, rfl⟩
              generalize hmo : mostZ y (-100) = z at hab hmz
              clear hmo
              go_wp2_with fail
              refine (l1Abs_any z _ (by omega) (by omega)).mono ?_
              rintro e w' ⟨rfl, rfl⟩
              generalize absZ z = z2 at hab
              have hset := HSET.out z2
              have HSE2 := Lib.hid hset; clear hset
              have hb := (Below.refl w.heap.size wo).setCell (p := ⟨gd, k, none⟩) hgd (.int .i64 z2)
              have hne := Lib.hid (rowL_set (k := k) (x := z2) HRZ.out HRY.out)
              go_wp2_with fail
              go_roundw
              case rel => exact ⟨k + 1, ys.set k z2, by omega, by go_num, by rw [List.length_set]; exact HYL.out, HYS.out.set hab k, by have := HSE2.out; rw [HYL.out] at this; exact this, hne.out, HUY.out.under hb (by omega), HFY.out.under hb (by omega) (by simp [World.setCell])⟩
              case measure => simp [intOf]; omega
          case neg =>
            go_wp2_with fail
            refine bodyPost_ret (v := .tuple #[.int .i64 m, .slice adl ls.length capl, .slice add d.length capd, .int .i64 q]) (by simp [results, Try.results122, go_sem]) rfl ?_
            exact ⟨m, adl, capl, ls, _, ys, q, rfl, ⟨by omega, by omega, by omega, by omega, HYS.out⟩, RowL.rdc HRZ.out, by have := HRY.out; rw [show d.length = ys.length from hyl.symm] at this ⊢; exact RowI.rdV this, HUY.out, HFY.out⟩
      case true =>
        obtain ⟨hgm, hq0, hq1⟩ := askB_t HAK.out
        obtain ⟨hg, hc, hdN, hda⟩ := gameB_t hgm
        obtain ⟨hn1, hn2⟩ := good_n hg
        obtain ⟨N, rfl⟩ : ∃ N : Nat, m = N := ⟨m.toNat, by omega⟩
        obtain ⟨q, rfl⟩ : ∃ k : Nat, q = k := ⟨q.toNat, by omega⟩
        obtain ⟨gd, rfl, hgd⟩ := HSH.out (by omega)
        have hred := rdReduce_any N adl capl ls q ⟨gd, 0, none⟩ capd d w23 (by omega) HRX6.out hg hc (by omega) (by omega) (RowI.rdc HR27.out) (ask_bd (by omega) hda)
        have hdN2 : d.length = N := by omega
        rw [← hdN2] at hred
        have HRED := Lib.hid hred; clear hred hgm hg hc hda
        have HDN := Lib.hid hdN2; clear hdN2 hdN
        go_wp2_with fail
        rw [← HDN.out]
        refine HRED.out.mono ?_
        rintro e w9 ⟨a, b, gr, capr, gt, _, rfl, hgr, hgt, hor, hot, hb9⟩
        have HO := Lib.hid hor; clear hor hot
        have HU30 := Lib.hid (HU24.out.below hb9)
        have HF31 := Lib.hid (HF25.out.trans (Chg.of_below hb9))
        have HF32 := Lib.hid (HF26.out.trans (Chg.of_below hb9))
        have HR33 := Lib.hid (row_below HR27.out hb9)
        have hz34 := HF31.out.size
        have hz35 := HF32.out.size
        have hall := l1All_any (some ⟨gr, 0, none⟩) capr (tab d.length a) (-20) 20 w9 (by rw [tab_length]; omega) HO.out.rd
        rw [tab_length] at hall
        have hsml := Lib.hid (show allB (tab d.length a) (-20) 20 = true → smallD (tab d.length a) from fun h => fun y hy => by
          obtain ⟨j, hj, rfl⟩ := List.getElem_of_mem hy
          have := allB_t.1 h j hj
          rw [List.getD_eq_getElem?_getD, List.getElem?_eq_getElem hj, Option.getD_some] at this
          omega)
        have HRX9 := Lib.hid (HRX6.out.below hb9)
        have HRW9 := Lib.hid (row_below HRW6.out hb9)
        generalize allB (tab d.length a) (-20) 20 = al at hall hsml
        have HALL := Lib.hid hall; clear hall
        go_wp2_with fail
        refine HALL.out.mono ?_
        rintro e w' ⟨rfl, rfl⟩
        cases al
        case true =>
          go_wp2_with fail
          refine bodyPost_ret (v := .tuple #[.int .i64 d.length, .slice adl ls.length capl, .slice (some ⟨gr, 0, none⟩) d.length capr, .int .i64 q]) (by simp [results, Try.results122, go_sem]) rfl ?_
          exact ⟨_, adl, capl, ls, _, tab d.length a, q, rfl, ⟨by have := HDN.out; omega, by have := HDN.out; omega, by omega, by rw [tab_length]; omega, hsml.out trivial⟩, HRX9.out, ⟨_, capr, by rw [tab_length], HO.out.rd⟩, HU30.out.mono (by omega), HF31.out⟩
        case false =>
          have HA := Lib.hid (Chg.refl c w9)
          go_wp2_with fail
          go_loopw [53] (fun i wr => ∃ (k : Nat) (ys : List Int), k ≤ d.length ∧ i = .int .i64 k ∧ ys.length = d.length ∧ smallD ys ∧ RowI wr w.heap.size (.slice (some ⟨gd, 0, none⟩) d.length capd) ys ∧ RowL wr w.heap.size (.slice adl ls.length capl) ls ∧ Cur wr c (n + 2120) ∧ Chg c w wr) (fun i _ => d.length - (intOf i).toNat)
          case atStart => exact ⟨0, d, Nat.zero_le _, rfl, rfl, HSM.out, HR33.out, HRW9.out, HU30.out.mono (by omega), HF31.out⟩
          case round =>
            obtain ⟨k, ys, hk, rfl, hyl, hys, hrow, hrl, hcu, hch⟩ := hrel
            have HYL := Lib.hid hyl
            have HYS := Lib.hid hys
            have HRY := Lib.hid hrow; clear hrow
            have HRZ := Lib.hid hrl; clear hrl
            have HUY := Lib.hid hcu; clear hcu
            have HFY := Lib.hid hch; clear hch
            have hszy := HFY.out.size
            obtain ⟨wo, rfl⟩ : ∃ wo : World, wo = wr := ⟨_, rfl⟩
            by_cases hlt : k < d.length
            case pos =>
              have hyk := hys.take (k := k) (by omega)
              clear hys hyl
              by_cases hq : (k : Int) = q
              case pos =>
                have hd1 : ((k : Int) != q) = false := by simp [hq]
                have hd2 : ((k : Int) == q) = true := by simp [hq]
                clear hq
                go_wp2_with fail
                go_roundw
                case rel => exact ⟨k + 1, ys, by omega, by go_num, HYL.out, HYS.out, HRY.out, HRZ.out, HUY.out, HFY.out⟩
                case measure => simp [intOf]; omega
              case neg =>
                have hd1 : ((k : Int) != q) = true := by simpa using hq
                have hd2 : ((k : Int) == q) = false := by simpa using hq
                clear hq
                have hrow := HRY.out
                rw [show d.length = ys.length from HYL.out.symm] at hrow
                have fz := World.ownsRow.frozenAt hrow k
                have cz := World.ownsRow.cellAt hrow k (by have := HYL.out; omega)
                rw [ints_get (show k < ys.length by have := HYL.out; omega)] at cz
                have HSET := Lib.hid (fun x => RowI.set (cap := capd) hrow k x); clear hrow
                generalize ys.getD k 0 = y at cz hyk
                have hab := abs_small hyk
                have hmz := mostZ_bd hyk
                go_wp2_with fail
                refine (l1Most_any y (-100) _).mono ?_
                rintro e w' ⟨rfl, rfl⟩
                generalize hmo : mostZ y (-100) = z at hab hmz
                clear hmo
                go_wp2_with fail
                refine (l1Abs_any z _ (by omega) (by omega)).mono ?_
                rintro e w' ⟨rfl, rfl⟩
                generalize absZ z = z2 at hab
                have hset := HSET.out z2
                have HSE2 := Lib.hid hset; clear hset
                have hb := (Below.refl w.heap.size wo).setCell (p := ⟨gd, k, none⟩) hgd (.int .i64 z2)
                have hne := Lib.hid (rowL_set (k := k) (x := z2) HRZ.out HRY.out)
                go_wp2_with fail
                go_roundw
                case rel => exact ⟨k + 1, ys.set k z2, by omega, by go_num, by rw [List.length_set]; exact HYL.out, HYS.out.set hab k, by have := HSE2.out; rw [HYL.out] at this; exact this, hne.out, HUY.out.under hb (by omega), HFY.out.under hb (by omega) (by simp [World.setCell])⟩
                case measure => simp [intOf]; omega
            case neg =>
              go_wp2_with fail
              refine bodyPost_ret (v := .tuple #[.int .i64 d.length, .slice adl ls.length capl, .slice (some ⟨gd, 0, none⟩) d.length capd, .int .i64 q]) (by simp [results, Try.results122, go_sem]) rfl ?_
              exact ⟨d.length, adl, capl, ls, _, ys, q, rfl, ⟨by have := HDN.out; omega, by have := HDN.out; omega, by omega, by omega, HYS.out⟩, RowL.rdc HRZ.out, by have := HRY.out; rw [show d.length = ys.length from hyl.symm] at this ⊢; exact RowI.rdV this, HUY.out, HFY.out⟩

end Go.Proofs.Ytmhmdbmiimpbnaa
