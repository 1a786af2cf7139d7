/-
  ChipSum, DebtsOf, LegalFirings: reference and program.
-/
import Derived.Test.YtcajnfhgpacpcaaChips
namespace Go.Proofs.Ytcajnfhgpacpcaa
open Go.RowKit

def sumR (n : Int) (ls : List Lk) (d : List Int) : Int × Bool := if bothB n ls d = true then (isum d, true) else (0, false)
def debtsR (n : Int) (ls : List Lk) (d : List Int) : List Int × Bool := if bothB n ls d = true then (selF d.length (fun v => decide (d.getD v 0 < 0)), true) else ([], false)
def legalR (n : Int) (ls : List Lk) (d : List Int) : List Int × Bool := if bothB n ls d = true then (selF d.length (fun v => decide (valF ls v ≤ d.getD v 0)), true) else ([], false)
theorem debtsR_len (n : Int) (ls : List Lk) (d : List Int) (h : d.length ≤ 1048576) : (debtsR n ls d).1.length ≤ 1048576 := by
  unfold debtsR
  split
  · exact Nat.le_trans (selF_len _ _) h
  · simp
theorem legalR_len (n : Int) (ls : List Lk) (d : List Int) (h : d.length ≤ 1048576) : (legalR n ls d).1.length ≤ 1048576 := by
  unfold legalR
  split
  · exact Nat.le_trans (selF_len _ _) h
  · simp

set_option maxHeartbeats 800000 in
set_option maxRecDepth 100000 in
theorem specSum_c (n : Int) (ad : Option Addr) (cap : Nat) (ls : List Lk) (ad' : Option Addr) (cap' : Nat) (d : List Int) (w : World) (hl : ls.length ≤ 1048576) (hr : RdL w ad ls) (hl' : d.length ≤ 1048576) (hr' : RdI w ad' d) :
    Calls Try.prog 30 #[.int .i64 n, .slice ad ls.length cap, .slice ad' d.length cap'] w (RetIB (sumR n ls d) w) := by
  by_cases hg : bothB n ls d = true
  · have hR : Hid (sumR n ls d = (isum d, true)) := if_pos hg
    obtain ⟨i0, hi0, hz0, hz1, hz2⟩ := info_parts Try.infoI
    obtain ⟨hgl, hgc⟩ := bothB_t hg
    have HGC := Lib.hid (chipsB_t hgc); clear hgc
    have HGD := Lib.hid hgl; clear hgl
    go_enter Try.func30, Try.ntmps30
    go_wp2_with fail
    refine (chBoth_any n ad cap ls ad' cap' d _ hl hr hl' hr').mono ?_
    rw [hg]
    rintro e w1 ⟨rfl, hb1⟩
    go_wp2_with fail
    refine (chSum_any ad' cap' d _ hl' (hr'.below hb1) (fun j hj => by have := HGC.out.2 j hj; omega)).mono ?_
    rintro e w' ⟨rfl, rfl⟩
    go_wp2
    go_ret2
    exact RetIB.of hR.out hb1
  · have hg' := Bool.eq_false_iff.2 hg
    have hR : Hid (sumR n ls d = (0, false)) := if_neg hg
    go_enter Try.func30, Try.ntmps30
    go_wp2_with fail
    refine (chBoth_any n ad cap ls ad' cap' d _ hl hr hl' hr').mono ?_
    rw [hg']
    rintro e w1 ⟨rfl, hb1⟩
    go_wp2
    go_ret2
    exact RetIB.of hR.out hb1

set_option maxHeartbeats 800000 in
set_option maxRecDepth 100000 in
theorem implSum_c (n : Int) (ad : Option Addr) (cap : Nat) (ls : List Lk) (ad' : Option Addr) (cap' : Nat) (d : List Int) (w : World) (hl : ls.length ≤ 1048576) (hr : RdL w ad ls) (hl' : d.length ≤ 1048576) (hr' : RdI w ad' d) :
    Calls Try.prog 32 #[.int .i64 n, .slice ad ls.length cap, .slice ad' d.length cap'] w (RetIB (sumR n ls d) w) := by
  by_cases hgl : goodL n ls = true
  · by_cases hgc : chipsB n d = true
    · have hg : bothB n ls d = true := by simp [bothB, hgl, hgc]
      have hR : Hid (sumR n ls d = (isum d, true)) := if_pos hg
      clear hg
      obtain ⟨i0, hi0, hz0, hz1, hz2⟩ := info_parts Try.infoI
      obtain ⟨hn1, hn2⟩ := good_n hgl
      have HGC := Lib.hid (chipsB_t hgc)
      have HGD := Lib.hid hgl
      go_enter Try.func32, Try.ntmps32
      go_wp2_with fail
      refine (withDiv_any n ad cap ls ad' cap' d _ hl hr hl' hr' hgl).mono ?_
      rw [hgc]
      rintro e w1 ⟨G, gb, gv, capb, rb, rfl, hG, hGB, hGV, hb1⟩
      clear hgl hgc
      have HG := Lib.hid hG; clear hG
      go_wp2_with fail
      refine (total_any ad' cap' d _ hl' (hr'.below hb1) (fun j hj => by have := HGC.out.2 j hj; omega)).mono ?_
      rintro e w' ⟨rfl, rfl⟩
      go_wp2
      go_ret2
      exact RetIB.of hR.out hb1
    · have hgc' := Bool.eq_false_iff.2 hgc
      have hR : Hid (sumR n ls d = (0, false)) := if_neg (by simp [bothB, hgc'])
      go_enter Try.func32, Try.ntmps32
      go_wp2_with fail
      refine (withDiv_any n ad cap ls ad' cap' d _ hl hr hl' hr' hgl).mono ?_
      rw [hgc']
      rintro e w1 ⟨G, gb, gv, capb, rb, rfl, hG, hGB, hGV, hb1⟩
      clear hG
      go_wp2
      go_ret2
      exact RetIB.of hR.out hb1
  · have hgl' := Bool.eq_false_iff.2 hgl
    have hR : Hid (sumR n ls d = (0, false)) := if_neg (by simp [bothB, hgl'])
    go_enter Try.func32, Try.ntmps32
    go_wp2_with fail
    refine (withDiv_no n ad cap ls ad' cap' d _ hl hr hgl').mono ?_
    rintro e w1 ⟨rfl, hb1⟩
    go_wp2
    go_ret2
    exact RetIB.of hR.out hb1

set_option maxHeartbeats 800000 in
set_option maxRecDepth 100000 in
theorem specDebts_c (n : Int) (ad : Option Addr) (cap : Nat) (ls : List Lk) (ad' : Option Addr) (cap' : Nat) (d : List Int) (w : World) (hl : ls.length ≤ 1048576) (hr : RdL w ad ls) (hl' : d.length ≤ 1048576) (hr' : RdI w ad' d) :
    Calls Try.prog 37 #[.int .i64 n, .slice ad ls.length cap, .slice ad' d.length cap'] w (RetLB (debtsR n ls d) w) := by
  by_cases hg : bothB n ls d = true
  · have hR : Hid (debtsR n ls d = (selF d.length (fun v => decide (d.getD v 0 < 0)), true)) := if_pos hg
    obtain ⟨i0, hi0, hz0, hz1, hz2⟩ := info_parts Try.infoI
    obtain ⟨hgl, hgc⟩ := bothB_t hg
    have HGC := Lib.hid (chipsB_t hgc); clear hgc
    have HGD := Lib.hid hgl; clear hgl
    go_enter Try.func37, Try.ntmps37
    go_wp2_with fail
    refine (chBoth_any n ad cap ls ad' cap' d _ hl hr hl' hr').mono ?_
    rw [hg]
    rintro e w1 ⟨rfl, hb1⟩
    have HR1 := Lib.hid (hr'.below hb1); clear hr' hr
    go_wp2_with fail
    go_loopw [8, 18] (fun v i wr => ∃ k : Nat, k ≤ d.length ∧ i = .int .i64 k ∧ wr.ownsRow w1.heap.size 3 1 v (selF k (fun v => decide (d.getD v 0 < 0))).length (ints (selF k (fun v => decide (d.getD v 0 < 0)))) ∧ Below w1.heap.size w1 wr) (fun _ i _ => d.length - (intOf i).toNat)
    case atStart => exact ⟨0, Nat.zero_le _, rfl, World.ownsRow_nil _ _ _ _, Below.refl _ _⟩
    case round =>
      obtain ⟨k, hk, rfl, hown, hbel⟩ := hrel
      have HO := Lib.hid hown; clear hown
      have hsl := selF_len k (fun v => decide (d.getD v 0 < 0))
      have hsz := hbel.size
      by_cases hlt : k < d.length
      · obtain ⟨b, off, rfl, hb, c⟩ := HR1.out.below (Below.refl _ _) k hlt
        have r2 := bcell hbel hb c
        clear c
        generalize hx : d.getD k 0 = x at r2
        have HX := Lib.hid hx; clear hx
        have hpk : (fun v => decide (d.getD v 0 < 0)) k = decide (x < 0) := by show decide _ = _; rw [HX.out]
        have HP := Lib.hid hpk; clear hpk
        by_cases ht : x < 0
        · have ht' : Hid ((fun v => decide (d.getD v 0 < 0)) k = true) := by show _ = _; rw [HP.out]; simpa using ht
          have hsh := congrArg List.length (selF_hit (k := k) (p := fun v => decide (d.getD v 0 < 0)) ht'.out)
          rw [List.length_append, List.length_singleton] at hsh
          have HSH := Lib.hid hsh; clear hsh
          go_wp2_with (at_builtin; refine wpList_append_lies _ rfl _ _ _ rfl w1.heap.size 3 i0 _ 1 8 Try.underlying33 hi0 hz0 hz1 hz2 rfl (by omega) _ _ _ rfl (HO.out.alloc _) ⟨wr.heap.size, 0, none⟩ 1 1 [.int .i64 (k : Int)] rfl rfl (World.news_of_block (cs := #[.int .i64 (k : Int)]) (t := 3) (fr := (0, 0)) (heap_alloc_new _ _)) (by simp [Value.oneCell']) (by omega) (by unfold maxLen; omega) (by omega) (by simp; omega) (wr.heap.size + 1) (by simp) ?_; intro gg gcap w9 hown1 hgrow hat hltg)
          go_roundw
          case rel =>
            refine ⟨k + 1, by omega, by go_num, row_congr hown1 HSH.out.symm ?_, app_below hbel hsz HO.out hgrow⟩
            rw [selF_hit (k := k) (p := fun v => decide (d.getD v 0 < 0)) ht'.out]
            simp [ints]
          case measure => simp [intOf]; omega
        · have ht' : Hid ((fun v => decide (d.getD v 0 < 0)) k = false) := by show _ = _; rw [HP.out]; simpa using ht
          go_wp2
          go_roundw
          case rel =>
            refine ⟨k + 1, by omega, by go_num, ?_, hbel⟩
            rw [selF_miss (k := k) (p := fun v => decide (d.getD v 0 < 0)) ht'.out]
            exact HO.out
          case measure => simp [intOf]; omega
      · have he : k = d.length := by omega
        subst he
        go_wp2
        go_ret2
        exact RetLB.of hR.out ((ResI.of_row HO.out).mono hb1.size) (bthen hb1 hbel hb1.size)
  · have hg' := Bool.eq_false_iff.2 hg
    have hR : Hid (debtsR n ls d = ([], false)) := if_neg hg
    go_enter Try.func37, Try.ntmps37
    go_wp2_with fail
    refine (chBoth_any n ad cap ls ad' cap' d _ hl hr hl' hr').mono ?_
    rw [hg']
    rintro e w1 ⟨rfl, hb1⟩
    go_wp2
    go_ret2
    exact RetLB.no hR.out hb1

set_option maxHeartbeats 800000 in
set_option maxRecDepth 100000 in
theorem implDebts_c (n : Int) (ad : Option Addr) (cap : Nat) (ls : List Lk) (ad' : Option Addr) (cap' : Nat) (d : List Int) (w : World) (hl : ls.length ≤ 1048576) (hr : RdL w ad ls) (hl' : d.length ≤ 1048576) (hr' : RdI w ad' d) :
    Calls Try.prog 38 #[.int .i64 n, .slice ad ls.length cap, .slice ad' d.length cap'] w (RetLB (debtsR n ls d) w) := by
  by_cases hgl : goodL n ls = true
  · by_cases hgc : chipsB n d = true
    · have hg : bothB n ls d = true := by simp [bothB, hgl, hgc]
      have hR : Hid (debtsR n ls d = (selF d.length (fun v => decide (d.getD v 0 < 0)), true)) := if_pos hg
      clear hg
      obtain ⟨i0, hi0, hz0, hz1, hz2⟩ := info_parts Try.infoI
      obtain ⟨hn1, hn2⟩ := good_n hgl
      have HGC := Lib.hid (chipsB_t hgc)
      have HGD := Lib.hid hgl
      go_enter Try.func38, Try.ntmps38
      go_wp2_with fail
      refine (withDiv_any n ad cap ls ad' cap' d _ hl hr hl' hr' hgl).mono ?_
      rw [hgc]
      rintro e w1 ⟨G, gb, gv, capb, rb, rfl, hG, hGB, hGV, hb1⟩
      clear hgl hgc
      have HG := Lib.hid hG; clear hG
      have HR1 := Lib.hid (hr'.below hb1); clear hr' hr
      go_wp2_with fail
      go_loopw [10, 25] (fun v i wr => ∃ k : Nat, k ≤ d.length ∧ i = .int .i64 k ∧ wr.ownsRow w1.heap.size 3 1 v (selF k (fun v => decide (d.getD v 0 < 0))).length (ints (selF k (fun v => decide (d.getD v 0 < 0)))) ∧ Below w1.heap.size w1 wr) (fun _ i _ => d.length - (intOf i).toNat)
      case atStart => exact ⟨0, Nat.zero_le _, rfl, row_empty _ _, (Below.refl _ _).alloc (Nat.le_refl _) _⟩
      case round =>
        obtain ⟨k, hk, rfl, hown, hbel⟩ := hrel
        have HO := Lib.hid hown; clear hown
        have hsl := selF_len k (fun v => decide (d.getD v 0 < 0))
        have hsz := hbel.size
        by_cases hlt : k < d.length
        · obtain ⟨b, off, rfl, hb, c⟩ := HR1.out.below (Below.refl _ _) k hlt
          have r2 := bcell hbel hb c
          clear c
          generalize hx : d.getD k 0 = x at r2
          have HX := Lib.hid hx; clear hx
          have hpk : (fun v => decide (d.getD v 0 < 0)) k = decide (x < 0) := by show decide _ = _; rw [HX.out]
          have HP := Lib.hid hpk; clear hpk
          by_cases ht : x < 0
          · have ht' : Hid ((fun v => decide (d.getD v 0 < 0)) k = true) := by show _ = _; rw [HP.out]; simpa using ht
            have hsh := congrArg List.length (selF_hit (k := k) (p := fun v => decide (d.getD v 0 < 0)) ht'.out)
            rw [List.length_append, List.length_singleton] at hsh
            have HSH := Lib.hid hsh; clear hsh
            go_wp2_with (at_builtin; refine wpList_append_lies _ rfl _ _ _ rfl w1.heap.size 3 i0 _ 1 8 Try.underlying33 hi0 hz0 hz1 hz2 rfl (by omega) _ _ _ rfl (HO.out.alloc _) ⟨wr.heap.size, 0, none⟩ 1 1 [.int .i64 (k : Int)] rfl rfl (World.news_of_block (cs := #[.int .i64 (k : Int)]) (t := 3) (fr := (0, 0)) (heap_alloc_new _ _)) (by simp [Value.oneCell']) (by omega) (by unfold maxLen; omega) (by omega) (by simp; omega) (wr.heap.size + 1) (by simp) ?_; intro gg gcap w9 hown1 hgrow hat hltg)
            go_roundw
            case rel =>
              refine ⟨k + 1, by omega, by go_num, row_congr hown1 HSH.out.symm ?_, app_below hbel hsz HO.out hgrow⟩
              rw [selF_hit (k := k) (p := fun v => decide (d.getD v 0 < 0)) ht'.out]
              simp [ints]
            case measure => simp [intOf]; omega
          · have ht' : Hid ((fun v => decide (d.getD v 0 < 0)) k = false) := by show _ = _; rw [HP.out]; simpa using ht
            go_wp2
            go_roundw
            case rel =>
              refine ⟨k + 1, by omega, by go_num, ?_, hbel⟩
              rw [selF_miss (k := k) (p := fun v => decide (d.getD v 0 < 0)) ht'.out]
              exact HO.out
            case measure => simp [intOf]; omega
        · have he : k = d.length := by omega
          subst he
          go_wp2
          go_ret2
          exact RetLB.of hR.out ((ResI.of_row HO.out).mono hb1.size) (bthen hb1 hbel hb1.size)
    · have hgc' := Bool.eq_false_iff.2 hgc
      have hR : Hid (debtsR n ls d = ([], false)) := if_neg (by simp [bothB, hgc'])
      go_enter Try.func38, Try.ntmps38
      go_wp2_with fail
      refine (withDiv_any n ad cap ls ad' cap' d _ hl hr hl' hr' hgl).mono ?_
      rw [hgc']
      rintro e w1 ⟨G, gb, gv, capb, rb, rfl, hG, hGB, hGV, hb1⟩
      clear hG
      go_wp2
      go_ret2
      exact RetLB.no hR.out hb1
  · have hgl' := Bool.eq_false_iff.2 hgl
    have hR : Hid (debtsR n ls d = ([], false)) := if_neg (by simp [bothB, hgl'])
    go_enter Try.func38, Try.ntmps38
    go_wp2_with fail
    refine (withDiv_no n ad cap ls ad' cap' d _ hl hr hgl').mono ?_
    rintro e w1 ⟨rfl, hb1⟩
    go_wp2
    go_ret2
    exact RetLB.no hR.out hb1

set_option maxHeartbeats 800000 in
set_option maxRecDepth 100000 in
theorem specLegal_c (n : Int) (ad : Option Addr) (cap : Nat) (ls : List Lk) (ad' : Option Addr) (cap' : Nat) (d : List Int) (w : World) (hl : ls.length ≤ 1048576) (hr : RdL w ad ls) (hl' : d.length ≤ 1048576) (hr' : RdI w ad' d) :
    Calls Try.prog 44 #[.int .i64 n, .slice ad ls.length cap, .slice ad' d.length cap'] w (RetLB (legalR n ls d) w) := by
  by_cases hg : bothB n ls d = true
  · have hR : Hid (legalR n ls d = (selF d.length (fun v => decide (valF ls v ≤ d.getD v 0)), true)) := if_pos hg
    obtain ⟨i0, hi0, hz0, hz1, hz2⟩ := info_parts Try.infoI
    obtain ⟨hgl, hgc⟩ := bothB_t hg
    have HGC := Lib.hid (chipsB_t hgc); clear hgc
    have HGD := Lib.hid hgl; clear hgl
    go_enter Try.func44, Try.ntmps44
    go_wp2_with fail
    refine (chBoth_any n ad cap ls ad' cap' d _ hl hr hl' hr').mono ?_
    rw [hg]
    rintro e w1 ⟨rfl, hb1⟩
    have HR1 := Lib.hid (hr'.below hb1)
    have HRL := Lib.hid (hr.below hb1); clear hr' hr
    go_wp2_with fail
    refine (chVal_any n ad cap ls _ hl HRL.out HGD.out).mono ?_
    rintro e w2 ⟨vv, rfl, hv, hb2⟩
    have bb := ball hb1 hb2
    obtain ⟨ad2, cap2, rfl, hrd⟩ := hv.rd
    rw [tab_length]
    have hN : n.toNat = d.length := by have := HGC.out.1; omega
    rw [hN] at hrd ⊢
    have HRD := Lib.hid hrd; clear hrd hv hN
    go_wp2_with fail
    go_loopw [8, 20] (fun v i wr => ∃ k : Nat, k ≤ d.length ∧ i = .int .i64 k ∧ wr.ownsRow w2.heap.size 3 1 v (selF k (fun v => decide (valF ls v ≤ d.getD v 0))).length (ints (selF k (fun v => decide (valF ls v ≤ d.getD v 0)))) ∧ Below w2.heap.size w2 wr) (fun _ i _ => d.length - (intOf i).toNat)
    case atStart => exact ⟨0, Nat.zero_le _, rfl, World.ownsRow_nil _ _ _ _, Below.refl _ _⟩
    case round =>
      obtain ⟨k, hk, rfl, hown, hbel⟩ := hrel
      have HO := Lib.hid hown; clear hown
      have hsl := selF_len k (fun v => decide (valF ls v ≤ d.getD v 0))
      have hsz := hbel.size
      by_cases hlt : k < d.length
      · obtain ⟨b, off, rfl, hb, c⟩ := HR1.out.below hb2 k hlt
        have r2 := bcell hbel hb c
        clear c
        generalize hx : d.getD k 0 = x at r2
        have HX := Lib.hid hx; clear hx
        obtain ⟨b2, off2, rfl, hbb, c2⟩ := HRD.out k (by rw [tab_length]; exact hlt)
        rw [tab_getD hlt] at c2
        have r3 := bcell hbel hbb c2
        clear c2
        generalize hy : valF ls k = y at r3
        have HY := Lib.hid hy; clear hy
        have hpk : (fun v => decide (valF ls v ≤ d.getD v 0)) k = decide (y ≤ x) := by show decide _ = _; rw [HX.out, HY.out]
        have HP := Lib.hid hpk; clear hpk
        by_cases ht : y ≤ x
        · have ht' : Hid ((fun v => decide (valF ls v ≤ d.getD v 0)) k = true) := by show _ = _; rw [HP.out]; simpa using ht
          have hsh := congrArg List.length (selF_hit (k := k) (p := fun v => decide (valF ls v ≤ d.getD v 0)) ht'.out)
          rw [List.length_append, List.length_singleton] at hsh
          have HSH := Lib.hid hsh; clear hsh
          go_wp2_with (at_builtin; refine wpList_append_lies _ rfl _ _ _ rfl w2.heap.size 3 i0 _ 1 8 Try.underlying33 hi0 hz0 hz1 hz2 rfl (by omega) _ _ _ rfl (HO.out.alloc _) ⟨wr.heap.size, 0, none⟩ 1 1 [.int .i64 (k : Int)] rfl rfl (World.news_of_block (cs := #[.int .i64 (k : Int)]) (t := 3) (fr := (0, 0)) (heap_alloc_new _ _)) (by simp [Value.oneCell']) (by omega) (by unfold maxLen; omega) (by omega) (by simp; omega) (wr.heap.size + 1) (by simp) ?_; intro gg gcap w9 hown1 hgrow hat hltg)
          go_roundw
          case rel =>
            refine ⟨k + 1, by omega, by go_num, row_congr hown1 HSH.out.symm ?_, app_below hbel hsz HO.out hgrow⟩
            rw [selF_hit (k := k) (p := fun v => decide (valF ls v ≤ d.getD v 0)) ht'.out]
            simp [ints]
          case measure => simp [intOf]; omega
        · have ht' : Hid ((fun v => decide (valF ls v ≤ d.getD v 0)) k = false) := by show _ = _; rw [HP.out]; simpa using ht
          go_wp2
          go_roundw
          case rel =>
            refine ⟨k + 1, by omega, by go_num, ?_, hbel⟩
            rw [selF_miss (k := k) (p := fun v => decide (valF ls v ≤ d.getD v 0)) ht'.out]
            exact HO.out
          case measure => simp [intOf]; omega
      · have he : k = d.length := by omega
        subst he
        go_wp2
        go_ret2
        exact RetLB.of hR.out ((ResI.of_row HO.out).mono bb.size) (bthen bb hbel bb.size)
  · have hg' := Bool.eq_false_iff.2 hg
    have hR : Hid (legalR n ls d = ([], false)) := if_neg hg
    go_enter Try.func44, Try.ntmps44
    go_wp2_with fail
    refine (chBoth_any n ad cap ls ad' cap' d _ hl hr hl' hr').mono ?_
    rw [hg']
    rintro e w1 ⟨rfl, hb1⟩
    go_wp2
    go_ret2
    exact RetLB.no hR.out hb1

set_option maxHeartbeats 800000 in
set_option maxRecDepth 100000 in
theorem implLegal_c (n : Int) (ad : Option Addr) (cap : Nat) (ls : List Lk) (ad' : Option Addr) (cap' : Nat) (d : List Int) (w : World) (hl : ls.length ≤ 1048576) (hr : RdL w ad ls) (hl' : d.length ≤ 1048576) (hr' : RdI w ad' d) :
    Calls Try.prog 45 #[.int .i64 n, .slice ad ls.length cap, .slice ad' d.length cap'] w (RetLB (legalR n ls d) w) := by
  by_cases hgl : goodL n ls = true
  · by_cases hgc : chipsB n d = true
    · have hg : bothB n ls d = true := by simp [bothB, hgl, hgc]
      have hR : Hid (legalR n ls d = (selF d.length (fun v => decide (valF ls v ≤ d.getD v 0)), true)) := if_pos hg
      clear hg
      obtain ⟨i0, hi0, hz0, hz1, hz2⟩ := info_parts Try.infoI
      obtain ⟨hn1, hn2⟩ := good_n hgl
      have HGC := Lib.hid (chipsB_t hgc)
      have HGD := Lib.hid hgl
      go_enter Try.func45, Try.ntmps45
      go_wp2_with fail
      refine (withDiv_any n ad cap ls ad' cap' d _ hl hr hl' hr' hgl).mono ?_
      rw [hgc]
      rintro e w1 ⟨G, gb, gv, capb, rb, rfl, hG, hGB, hGV, hb1⟩
      clear hgl hgc
      have HG := Lib.hid hG; clear hG
      have HR1 := Lib.hid (hr'.below hb1); clear hr' hr
      go_wp2_with fail
      go_loopw [10, 25] (fun v i wr => ∃ k : Nat, k ≤ d.length ∧ i = .int .i64 k ∧ wr.ownsRow w1.heap.size 3 1 v (selF k (fun v => decide (valF ls v ≤ d.getD v 0))).length (ints (selF k (fun v => decide (valF ls v ≤ d.getD v 0)))) ∧ Below w1.heap.size w1 wr) (fun _ i _ => d.length - (intOf i).toNat)
      case atStart => exact ⟨0, Nat.zero_le _, rfl, row_empty _ _, (Below.refl _ _).alloc (Nat.le_refl _) _⟩
      case round =>
        obtain ⟨k, hk, rfl, hown, hbel⟩ := hrel
        have HO := Lib.hid hown; clear hown
        have hsl := selF_len k (fun v => decide (valF ls v ≤ d.getD v 0))
        have hsz := hbel.size
        by_cases hlt : k < d.length
        · obtain ⟨b, off, rfl, hb, c⟩ := HR1.out.below (Below.refl _ _) k hlt
          have r2 := bcell hbel hb c
          clear c
          generalize hx : d.getD k 0 = x at r2
          have HX := Lib.hid hx; clear hx
          have hGw := HG.out.below hbel
          have r3 := hGw.cv (i := k) (by have := HGC.out.1; omega)
          have r4 := hGw.c2
          clear hGw
          generalize hy : valF ls k = y at r3
          have HY := Lib.hid hy; clear hy
          have hN : n.toNat = d.length := by have := HGC.out.1; omega
          rw [hN] at r4
          clear hN
          have hpk : (fun v => decide (valF ls v ≤ d.getD v 0)) k = decide (y ≤ x) := by show decide _ = _; rw [HX.out, HY.out]
          have HP := Lib.hid hpk; clear hpk
          by_cases ht : y ≤ x
          · have ht' : Hid ((fun v => decide (valF ls v ≤ d.getD v 0)) k = true) := by show _ = _; rw [HP.out]; simpa using ht
            have hsh := congrArg List.length (selF_hit (k := k) (p := fun v => decide (valF ls v ≤ d.getD v 0)) ht'.out)
            rw [List.length_append, List.length_singleton] at hsh
            have HSH := Lib.hid hsh; clear hsh
            go_wp2_with (at_builtin; refine wpList_append_lies _ rfl _ _ _ rfl w1.heap.size 3 i0 _ 1 8 Try.underlying33 hi0 hz0 hz1 hz2 rfl (by omega) _ _ _ rfl (HO.out.alloc _) ⟨wr.heap.size, 0, none⟩ 1 1 [.int .i64 (k : Int)] rfl rfl (World.news_of_block (cs := #[.int .i64 (k : Int)]) (t := 3) (fr := (0, 0)) (heap_alloc_new _ _)) (by simp [Value.oneCell']) (by omega) (by unfold maxLen; omega) (by omega) (by simp; omega) (wr.heap.size + 1) (by simp) ?_; intro gg gcap w9 hown1 hgrow hat hltg)
            go_roundw
            case rel =>
              refine ⟨k + 1, by omega, by go_num, row_congr hown1 HSH.out.symm ?_, app_below hbel hsz HO.out hgrow⟩
              rw [selF_hit (k := k) (p := fun v => decide (valF ls v ≤ d.getD v 0)) ht'.out]
              simp [ints]
            case measure => simp [intOf]; omega
          · have ht' : Hid ((fun v => decide (valF ls v ≤ d.getD v 0)) k = false) := by show _ = _; rw [HP.out]; simpa using ht
            go_wp2
            go_roundw
            case rel =>
              refine ⟨k + 1, by omega, by go_num, ?_, hbel⟩
              rw [selF_miss (k := k) (p := fun v => decide (valF ls v ≤ d.getD v 0)) ht'.out]
              exact HO.out
            case measure => simp [intOf]; omega
        · have he : k = d.length := by omega
          subst he
          go_wp2
          go_ret2
          exact RetLB.of hR.out ((ResI.of_row HO.out).mono hb1.size) (bthen hb1 hbel hb1.size)
    · have hgc' := Bool.eq_false_iff.2 hgc
      have hR : Hid (legalR n ls d = ([], false)) := if_neg (by simp [bothB, hgc'])
      go_enter Try.func45, Try.ntmps45
      go_wp2_with fail
      refine (withDiv_any n ad cap ls ad' cap' d _ hl hr hl' hr' hgl).mono ?_
      rw [hgc']
      rintro e w1 ⟨G, gb, gv, capb, rb, rfl, hG, hGB, hGV, hb1⟩
      clear hG
      go_wp2
      go_ret2
      exact RetLB.no hR.out hb1
  · have hgl' := Bool.eq_false_iff.2 hgl
    have hR : Hid (legalR n ls d = ([], false)) := if_neg (by simp [bothB, hgl'])
    go_enter Try.func45, Try.ntmps45
    go_wp2_with fail
    refine (withDiv_no n ad cap ls ad' cap' d _ hl hr hgl').mono ?_
    rintro e w1 ⟨rfl, hb1⟩
    go_wp2
    go_ret2
    exact RetLB.no hR.out hb1

end Go.Proofs.Ytcajnfhgpacpcaa
