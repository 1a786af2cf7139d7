/-
  The graphs, sets and chips that the cursor draws, good ones or not.
-/
import Derived.Test.YtmhmdbmiimpbnaaDrawG
namespace Go.Proofs.Ytmhmdbmiimpbnaa
open Go.RowKit

theorem RowL.shape {w : World} {B : Nat} {v : Value} {ls : List Lk} (h : RowL w B v ls) : ∃ ad cap, v = .slice ad ls.length cap ∧ (0 < ls.length → ∃ g, ad = some ⟨g, 0, none⟩ ∧ B ≤ g) := by
  rcases h.2 with ⟨e, h0⟩ | ⟨g, cap, cur, e, hg, _⟩
  · exact ⟨none, 0, by rw [e, h0], fun h => by omega⟩
  · exact ⟨_, cap, e, fun _ => ⟨g, rfl, hg⟩⟩
theorem RowI.shape {w : World} {B : Nat} {v : Value} {xs : List Int} (h : RowI w B v xs) : ∃ ad cap, v = .slice ad xs.length cap ∧ (0 < xs.length → ∃ g, ad = some ⟨g, 0, none⟩ ∧ B ≤ g) := by
  rcases h.2 with ⟨e, h0⟩ | ⟨g, cap, cur, e, hg, _⟩
  · exact ⟨none, 0, by rw [e, h0], fun h => by omega⟩
  · exact ⟨_, cap, e, fun _ => ⟨g, rfl, hg⟩⟩
theorem set_same {α : Type} {l : List α} {i : Nat} {x : α} (h : l[i]? = some x) : l.set i x = l := by
  apply List.ext_getElem?
  intro j
  rw [List.getElem?_set]
  split
  · rename_i e
    subst e
    split
    · exact h.symm
    · rename_i h2
      rw [List.getElem?_eq_none (by omega)] at h
      cases h
  · rfl
theorem RowL.set {w : World} {B g cap : Nat} {ls : List Lk} (h : RowL w B (.slice (some ⟨g, 0, none⟩) ls.length cap) ls) {k : Nat} (hk : k < ls.length) (x : Int) :
    RowL (w.setCell ⟨g, k * 3 + 2, none⟩ (.int .i64 x)) B (.slice (some ⟨g, 0, none⟩) ls.length cap) (ls.set k ⟨(ls.getD k Lk.z).a, (ls.getD k Lk.z).b, x⟩) := by
  have := (World.ownsRow.stored h (k * 3 + 2) (.int .i64 x)).1
  refine row_congr this (by simp) ?_
  have e := lks_set ls k ⟨(ls.getD k Lk.z).a, (ls.getD k Lk.z).b, x⟩ hk
  obtain ⟨c0, c1, _⟩ := lks_get hk
  rw [← e, set_same c0, set_same c1]

set_option maxHeartbeats 3200000 in
set_option maxRecDepth 100000 in
theorem anyGraph_c (c n : Nat) (w : World) (h : Cur w c n) (hn : n ≤ 4611686018427370000) :
    Calls Try.prog 66 #[.pointer (some ⟨c, 0, none⟩)] w (GraphD (fun m ls => -1 ≤ m ∧ m ≤ 9 ∧ ls.length ≤ 129) c (n + 1006) w) := by
  have hcl := h.lt
  have H := Lib.hid h; clear h
  obtain ⟨iL, hiL, hzL, hsL, hbL⟩ := info_parts Try.infoL
  go_enter Try.func66, Try.ntmps66
  go_wp2_with fail
  refine (graph_c c n w H.out (by omega)).mono ?_
  rintro e w1 ⟨m, v, ls, rfl, ⟨hm1, hm2, hls⟩, hrow, hcu, hch⟩
  have H1 := Lib.hid hcu; clear hcu H
  have HC1 := Lib.hid hch; clear hch
  have HR1 := Lib.hid hrow
  obtain ⟨adv, cv, rfl, hshape⟩ := hrow.shape
  have HSH := Lib.hid hshape; clear hshape hrow
  go_wp2_with fail
  refine (pick_c 30 c (n + 1000) w1 H1.out (by omega)).mono ?_
  rintro e w2 ⟨x, rfl, ⟨hx0, hx1⟩, hcu, hch⟩
  have H2 := Lib.hid hcu; clear hcu H1
  have HC2 := Lib.hid (HC1.out.trans hch); clear HC1
  have HR2 := Lib.hid (row_chg HR1.out hch hcl); clear hch HR1
  have hsz2 := HC2.out.size
  have hx : x = 0 ∨ x = 1 ∨ x = 2 ∨ (x ≠ 0 ∧ x ≠ 1 ∧ x ≠ 2) := by omega
  clear hx0 hx1
  rcases hx with rfl | rfl | rfl | ⟨h0, h1, h2⟩
  · go_wp2_with fail
    refine (among_c w2.heap.size 4 [0, -1, 9, m - 1] c (n + 1002) (w2.alloc (.cells #[.int .i64 0, .int .i64 (-1), .int .i64 9, .int .i64 (m - 1)] 3)) (H2.out.below ((Below.refl _ _).alloc (Nat.le_refl _) _)) (by omega) (by simp) (by simp) (by have := H2.out.lt; omega) (Own.newA w2 _ 3 rfl)).mono ?_
    rintro e w3 ⟨y, rfl, hy, hcu, hch⟩
    have hy' : -1 ≤ y ∧ y ≤ 9 := by simp at hy; omega
    have HCU := Lib.hid hcu; clear hcu
    clear hy
    go_wp2_with fail
    go_ret2
    exact ⟨y, _, ls, rfl, ⟨by omega, by omega, by omega⟩, row_chg (row_below HR2.out ((Below.refl _ _).alloc (Nat.le_refl _) _)) hch hcl, HCU.out.mono (by omega), (HC2.out.trans (Chg.alloc c _ _)).trans hch⟩
  · go_wp2_with fail
    refine (pick_c 3 c (n + 1002) w2 H2.out (by omega)).mono ?_
    rintro e w3 ⟨y, rfl, hy, hcu, hch⟩
    have H3 := Lib.hid hcu; clear hcu hy
    have HC3 := Lib.hid (HC2.out.trans hch)
    have HR3 := Lib.hid (row_chg HR2.out hch hcl); clear hch
    go_wp2_with fail
    refine (pick_c (m + 1) c (n + 1004) w3 H3.out (by omega)).mono ?_
    rintro e w4 ⟨z, rfl, hz, hcu, hch⟩
    have H4 := Lib.hid hcu; clear hcu hz
    have HC4 := Lib.hid (HC3.out.trans hch)
    have HR4 := Lib.hid (row_chg HR3.out hch hcl); clear hch
    have hsz4 := HC4.out.size
    go_wp2_with (at_builtin; refine wpList_append_lies _ rfl _ _ 24 rfl w.heap.size 41 iL _ 3 24 Try.underlying24 hiL hzL hsL hbL rfl (by omega) (.slice adv ls.length cv) ls.length (lks ls) rfl (HR4.out.alloc _) ⟨w4.heap.size, 0, none⟩ 1 1 [.int .i64 y, .int .i64 z, .int .i64 1] rfl rfl (World.news_of_block (cs := #[.int .i64 y, .int .i64 z, .int .i64 1]) (t := 41) (fr := (0, 0)) (heap_alloc_new _ _)) (by simp [Value.oneCell']) (by omega) (by unfold maxLen; omega) (by omega) (by simp; omega) (w4.heap.size + 1) (by simp) ?_; intro g5 cap5 wm hown hgrow hat hlt5; clear hat)
    have hbm := app_below (Below.refl w.heap.size w4) hsz4 HR4.out hgrow
    have hszm : w4.heap.size ≤ wm.heap.size := by have := hgrow.size; simp at this; omega
    go_ret2
    exact ⟨m, _, ls ++ [⟨y, z, 1⟩], rfl, ⟨by omega, by omega, by simp; omega⟩, row_congr hown (by simp) (lks_snoc ls ⟨y, z, 1⟩).symm, H4.out.under hbm hcl, HC4.out.under hbm (Nat.le_refl _) hszm⟩
  · by_cases h0 : 0 < ls.length
    · obtain ⟨g, rfl, hBg⟩ := HSH.out h0
      go_wp2_with fail
      refine (pick_c ls.length c (n + 1002) w2 H2.out (by omega)).mono ?_
      rintro e w3 ⟨y, rfl, ⟨hy0, hy1⟩, hcu, hch⟩
      have H3 := Lib.hid hcu; clear hcu
      have HC3 := Lib.hid (HC2.out.trans hch)
      have HR3 := Lib.hid (row_chg HR2.out hch hcl); clear hch
      obtain ⟨k, rfl⟩ : ∃ k : Nat, y = k := ⟨y.toNat, by omega⟩
      have hk : k < ls.length := by omega
      clear hy0 hy1
      go_wp2_with fail
      refine (among_c w3.heap.size 3 [0, 6, -1] c (n + 1004) (w3.alloc (.cells #[.int .i64 0, .int .i64 6, .int .i64 (-1)] 3)) (H3.out.below ((Below.refl _ _).alloc (Nat.le_refl _) _)) (by omega) (by simp) (by simp) (by have := H3.out.lt; omega) (Own.newA w3 _ 3 rfl)).mono ?_
      rintro e w4 ⟨z, rfl, hz, hcu, hch⟩
      have H4 := Lib.hid hcu; clear hcu hz
      have HC4 := Lib.hid ((HC3.out.trans (Chg.alloc c _ _)).trans hch)
      have HR4 := Lib.hid (row_chg (row_below HR3.out ((Below.refl _ _).alloc (Nat.le_refl _) _)) hch hcl); clear hch
      have fz := World.ownsRow.frozenAt HR4.out (k * 3 + 2)
      have cz := World.ownsRow.cellAt HR4.out (k * 3 + 2) (by omega)
      rw [(lks_get hk).2.2] at cz
      have hset := RowL.set HR4.out hk z
      have HSET := Lib.hid hset; clear hset
      go_wp2_with fail
      go_ret2
      have hb := (Below.refl w.heap.size w4).setCell (p := ⟨g, k * 3 + 2, none⟩) hBg (.int .i64 z)
      refine ⟨m, _, ls.set k ⟨(ls.getD k Lk.z).a, (ls.getD k Lk.z).b, z⟩, rfl, ⟨by omega, by omega, by simp; omega⟩, by simpa using HSET.out, H4.out.under hb hcl, HC4.out.under hb (Nat.le_refl _) (by simp [World.setCell])⟩
    · go_wp2_with fail
      go_ret2
      exact ⟨m, _, ls, rfl, ⟨by omega, by omega, by omega⟩, HR2.out, H2.out.mono (by omega), HC2.out⟩
  · have e0 : (x == 0) = false := by simpa using h0
    have e1 : (x == 1) = false := by simpa using h1
    have e2 : (x == 2) = false := by simpa using h2
    clear h0 h1 h2
    go_wp2_with fail
    go_ret2
    exact ⟨m, _, ls, rfl, ⟨by omega, by omega, by omega⟩, HR2.out, H2.out.mono (by omega), HC2.out⟩

end Go.Proofs.Ytmhmdbmiimpbnaa
