/-
  Valences and canonical divisors: reference and program.
-/
import Derived.Test.YtmhmdbmiimpbnaaLap
namespace Go.Proofs.Ytmhmdbmiimpbnaa
open Go.RowKit

/-- Behind an append to a slice of the call's own. -/
theorem app_below {B : Nat} {u wr w2 : World} {E : TypeId} {size n : Nat} {v : Value} {xs : List Value} {o : Obj} (hb : Below B u wr) (hB : B ≤ wr.heap.size) (ho : wr.ownsRow B E size v n xs) (hg : (wr.alloc o).grownBy w2 v.ownBlock) : Below B u w2 :=
  (hb.alloc hB o).grown hg (by simp; omega) (fun q e => (ho.lt q e).1)
theorem row_empty (w : World) (E : TypeId) : (w.alloc (.cells #[] E)).ownsRow w.heap.size E 1 (.slice (some ⟨w.heap.size, 0, none⟩) 0 0) 0 [] :=
  World.ownsRow_made w #[] 0 (Nat.le_refl _) (by decide) rfl
theorem row_congr {w : World} {B : Nat} {E : TypeId} {size n m : Nat} {v : Value} {xs ys : List Value} (h : w.ownsRow B E size v n xs) (e : n = m) (e' : xs = ys) : w.ownsRow B E size v m ys := by subst e; subst e'; exact h

def valR (n : Int) (ls : List Lk) : List Int × Bool := if goodL n ls = true then (tab n.toNat (valF ls), true) else ([], false)
def canR (n : Int) (ls : List Lk) : List Int × Bool := if goodL n ls = true then (tab n.toNat (fun i => valF ls i - 2), true) else ([], false)
theorem valR_len (n : Int) (ls : List Lk) : (valR n ls).1.length ≤ 1048576 := by
  unfold valR
  split
  · rename_i h
    have := good_n h
    rw [tab_length]; omega
  · simp
theorem canR_len (n : Int) (ls : List Lk) : (canR n ls).1.length ≤ 1048576 := by
  unfold canR
  split
  · rename_i h
    have := good_n h
    rw [tab_length]; omega
  · simp

set_option maxHeartbeats 800000 in
set_option maxRecDepth 100000 in
theorem chVal_any (n : Int) (ad : Option Addr) (cap : Nat) (ls : List Lk) (w : World) (hl : ls.length ≤ 1048576) (hr : RdL w ad ls) (hg : goodL n ls = true) :
    Calls Try.prog 59 #[.int .i64 n, .slice ad ls.length cap] w fun e w' => ∃ v, e = .returned v ∧ ResI w' w.heap.size 3 v (tab n.toNat (valF ls)) ∧ Below w.heap.size w w' := by
  obtain ⟨hn1, hn2⟩ := good_n hg
  obtain ⟨N, rfl⟩ : ∃ N : Nat, n = N := ⟨n.toNat, by omega⟩
  rw [Int.toNat_natCast]
  have HGD := Lib.hid hg; clear hg
  obtain ⟨i0, hi0, hz0, hz1, hz2⟩ := info_parts Try.infoI
  go_enter Try.func59, Try.ntmps59
  go_wp2_with fail
  refine (chLap_any _ ad cap ls _ hl hr HGD.out).mono ?_
  rw [Int.toNat_natCast]
  rintro e w1 ⟨gb, capb, rb, rfl, hM, hgb, hrb, hb1⟩
  clear hr hrb
  have HM := Lib.hid hM; clear hM
  go_wp2_with fail
  go_loopw [5, 12] (fun v i wr => ∃ k : Nat, k ≤ N ∧ i = .int .i64 k ∧ wr.ownsRow w1.heap.size 3 1 v k (ints (tab k (valF ls))) ∧ Below w1.heap.size w1 wr) (fun _ i _ => N - (intOf i).toNat)
  case atStart => exact ⟨0, Nat.zero_le _, rfl, World.ownsRow_nil _ _ _ _, Below.refl _ _⟩
  case round =>
    obtain ⟨k, hk, rfl, hown, hbel⟩ := hrel
    have HO := Lib.hid hown; clear hown
    by_cases hlt : k < N
    · have hM := HM.out.below hbel
      have r1 := hM.row hlt
      have r2 := hM.cb hlt hlt
      have e0 : lapF ls k k = valF ls k := if_pos rfl
      rw [e0] at r2
      clear hM e0
      have hsz := hbel.size
      generalize hx : valF ls k = x at r2
      have HX := Lib.hid hx; clear hx
      go_wp2_with (at_builtin; refine wpList_append_lies _ rfl _ _ _ rfl w1.heap.size 3 i0 _ 1 8 Try.underlying30 hi0 hz0 hz1 hz2 rfl (by omega) _ k _ rfl (HO.out.alloc _) ⟨wr.heap.size, 0, none⟩ 1 1 [.int .i64 x] rfl rfl (World.news_of_block (cs := #[.int .i64 x]) (t := 3) (fr := (0, 0)) (heap_alloc_new _ _)) (by simp [Value.oneCell']) (by omega) (by unfold maxLen; omega) (by omega) (by simp; omega) (wr.heap.size + 1) (by simp) ?_; intro gg gcap w2 hown1 hgrow hat hlt2)
      go_roundw
      case rel =>
        refine ⟨k + 1, by omega, by go_num, row_congr hown1 rfl ?_, app_below hbel hsz HO.out hgrow⟩
        rw [tab_succ, ← HX.out]
        simp [ints]
      case measure => simp [intOf]; omega
    · have he : k = N := by omega
      subst he
      go_wp2
      go_ret
      refine ⟨_, rfl, (ResI.of_row HO.out).mono hb1.size, bthen hb1 hbel hb1.size⟩

set_option maxHeartbeats 400000 in
theorem specVal_c (n : Int) (ad : Option Addr) (cap : Nat) (ls : List Lk) (w : World) (hl : ls.length ≤ 1048576) (hr : RdL w ad ls) :
    Calls Try.prog 11 #[.int .i64 n, .slice ad ls.length cap] w (RetLB (valR n ls) w) := by
  by_cases hg : goodL n ls = true
  · have hR : Hid (valR n ls = (tab n.toNat (valF ls), true)) := if_pos hg
    go_enter Try.func11, Try.ntmps11
    go_wp2_with fail
    refine (chGood_any n ad cap ls _ hl hr).mono ?_
    rw [hg]
    rintro e w1 ⟨rfl, hb1⟩
    go_wp2_with fail
    refine (chVal_any n ad cap ls _ hl (hr.below hb1) hg).mono ?_
    rintro e w2 ⟨v, rfl, hv, hb2⟩
    have HV := Lib.hid hv; clear hv
    go_wp2
    go_ret2
    exact RetLB.of hR.out (HV.out.mono hb1.size) (ball hb1 hb2)
  · have hg' := Bool.eq_false_iff.2 hg
    have hR : Hid (valR n ls = ([], false)) := if_neg hg
    go_enter Try.func11, Try.ntmps11
    go_wp2_with fail
    refine (chGood_any n ad cap ls _ hl hr).mono ?_
    rw [hg']
    rintro e w1 ⟨rfl, hb1⟩
    go_wp2
    go_ret2
    exact RetLB.no hR.out hb1

set_option maxHeartbeats 400000 in
theorem implVal_c (n : Int) (ad : Option Addr) (cap : Nat) (ls : List Lk) (w : World) (hl : ls.length ≤ 1048576) (hr : RdL w ad ls) :
    Calls Try.prog 10 #[.int .i64 n, .slice ad ls.length cap] w (RetLB (valR n ls) w) := by
  by_cases hg : goodL n ls = true
  · have hR : Hid (valR n ls = (tab n.toNat (valF ls), true)) := if_pos hg
    go_enter Try.func10, Try.ntmps10
    go_wp2_with fail
    refine (graphOf_any n ad cap ls _ hl hr hg).mono ?_
    rintro e w1 ⟨G, gb, gv, capb, rb, rfl, hG, hGB, hGV, hb1⟩
    have c2 := hG.c2
    have HG := Lib.hid hG; clear hG
    go_wp2
    go_ret2
    exact RetLB.of hR.out (Or.inr ⟨gv, n.toNat, by rw [tab_length]; rfl, hGV, HG.out.hv⟩) hb1
  · have hg' := Bool.eq_false_iff.2 hg
    have hR : Hid (valR n ls = ([], false)) := if_neg hg
    go_enter Try.func10, Try.ntmps10
    go_wp2_with fail
    refine (graphOf_no n ad cap ls _ hl hr hg').mono ?_
    rintro e w1 ⟨rfl, hb1⟩
    go_wp2
    go_ret2
    exact RetLB.no hR.out hb1

set_option maxHeartbeats 800000 in
set_option maxRecDepth 100000 in
theorem specCan_c (n : Int) (ad : Option Addr) (cap : Nat) (ls : List Lk) (w : World) (hl : ls.length ≤ 1048576) (hr : RdL w ad ls) :
    Calls Try.prog 15 #[.int .i64 n, .slice ad ls.length cap] w (RetLB (canR n ls) w) := by
  by_cases hg : goodL n ls = true
  · have hR : Hid (canR n ls = (tab n.toNat (fun i => valF ls i - 2), true)) := if_pos hg
    obtain ⟨hn1, hn2⟩ := good_n hg
    obtain ⟨N, rfl⟩ : ∃ N : Nat, n = N := ⟨n.toNat, by omega⟩
    rw [Int.toNat_natCast] at hR
    obtain ⟨i0, hi0, hz0, hz1, hz2⟩ := info_parts Try.infoI
    have HGD := Lib.hid hg
    go_enter Try.func15, Try.ntmps15
    go_wp2_with fail
    refine (chGood_any _ ad cap ls _ hl hr).mono ?_
    rw [hg]
    rintro e w1 ⟨rfl, hb1⟩
    clear hg
    go_wp2_with fail
    refine (chVal_any _ ad cap ls _ hl (hr.below hb1) HGD.out).mono ?_
    rw [Int.toNat_natCast]
    rintro e w2 ⟨v, rfl, hv, hb2⟩
    have bb := ball hb1 hb2
    clear hr
    obtain ⟨ad2, cap2, rfl, hrd⟩ := hv.rd
    rw [tab_length]
    have HRD := Lib.hid hrd; clear hrd hv
    go_wp2_with fail
    go_loopw [6, 17] (fun v i wr => ∃ k : Nat, k ≤ N ∧ i = .int .i64 k ∧ wr.ownsRow w2.heap.size 3 1 v k (ints (tab k (fun i => valF ls i - 2))) ∧ Below w2.heap.size w2 wr) (fun _ i _ => N - (intOf i).toNat)
    case atStart => exact ⟨0, Nat.zero_le _, rfl, World.ownsRow_nil _ _ _ _, Below.refl _ _⟩
    case round =>
      obtain ⟨k, hk, rfl, hown, hbel⟩ := hrel
      have HO := Lib.hid hown; clear hown
      by_cases hlt : k < N
      · obtain ⟨b, off, rfl, hb, c⟩ := HRD.out k (by rw [tab_length]; exact hlt)
        rw [tab_getD hlt] at c
        have r2 := bcell hbel hb c
        clear c
        have hsz := hbel.size
        have v1 := valF_bound HGD.out hl ls.length k
        rw [List.take_length] at v1
        generalize hx : valF ls k = x at r2 v1
        have HX := Lib.hid hx; clear hx
        go_wp2_with (at_builtin; refine wpList_append_lies _ rfl _ _ _ rfl w2.heap.size 3 i0 _ 1 8 Try.underlying30 hi0 hz0 hz1 hz2 rfl (by omega) _ k _ rfl (HO.out.alloc _) ⟨wr.heap.size, 0, none⟩ 1 1 [.int .i64 (x - 2)] rfl rfl (World.news_of_block (cs := #[.int .i64 (x - 2)]) (t := 3) (fr := (0, 0)) (heap_alloc_new _ _)) (by simp [Value.oneCell']) (by omega) (by unfold maxLen; omega) (by omega) (by simp; omega) (wr.heap.size + 1) (by simp) ?_; intro gg gcap w3 hown1 hgrow hat hlt2)
        go_roundw
        case rel =>
          refine ⟨k + 1, by omega, by go_num, row_congr hown1 rfl ?_, app_below hbel hsz HO.out hgrow⟩
          rw [tab_succ, ← HX.out]
          simp [ints]
        case measure => simp [intOf]; omega
      · have he : k = N := by omega
        subst he
        go_wp2
        go_ret2
        exact RetLB.of hR.out ((ResI.of_row HO.out).mono bb.size) (bthen bb hbel bb.size)
  · have hg' := Bool.eq_false_iff.2 hg
    have hR : Hid (canR n ls = ([], false)) := if_neg hg
    go_enter Try.func15, Try.ntmps15
    go_wp2_with fail
    refine (chGood_any n ad cap ls _ hl hr).mono ?_
    rw [hg']
    rintro e w1 ⟨rfl, hb1⟩
    go_wp2
    go_ret2
    exact RetLB.no hR.out hb1

set_option maxHeartbeats 800000 in
set_option maxRecDepth 100000 in
theorem canonical_any (G gb gv capb : Nat) (rb : Nat → Nat) (N : Nat) (bet : Nat → Nat → Int) (val : Nat → Int) (ed : Int) (w : World) (hN : N ≤ 8) (hv : ∀ i, i < N → 0 ≤ val i ∧ val i ≤ 10485760) (h : GrAt w G gb gv capb rb N bet val ed) :
    Calls Try.prog 62 #[.pointer (some ⟨G, 0, none⟩)] w fun e w' => ∃ v, e = .returned v ∧ ResI w' w.heap.size 3 v (tab N (fun i => val i - 2)) ∧ Below w.heap.size w w' := by
  obtain ⟨i0, hi0, hz0, hz1, hz2⟩ := info_parts Try.infoI
  have c2 := (h.alloc (.cells #[] 3)).c2
  have HG := Lib.hid h; clear h
  have HV := Lib.hid hv; clear hv
  go_enter Try.func62, Try.ntmps62
  go_wp2_with fail
  go_loopw [3, 12] (fun v i wr => ∃ k : Nat, k ≤ N ∧ i = .int .i64 k ∧ wr.ownsRow w.heap.size 3 1 v k (ints (tab k (fun i => val i - 2))) ∧ Below w.heap.size w wr) (fun _ i _ => N - (intOf i).toNat)
  case atStart => exact ⟨0, Nat.zero_le _, rfl, row_empty _ _, (Below.refl _ _).alloc (Nat.le_refl _) _⟩
  case round =>
    obtain ⟨k, hk, rfl, hown, hbel⟩ := hrel
    have HO := Lib.hid hown; clear hown
    by_cases hlt : k < N
    · have r2 := (HG.out.below hbel).cv hlt
      have hsz := hbel.size
      have v1 := HV.out k hlt
      generalize hx : val k = x at r2 v1
      have HX := Lib.hid hx; clear hx
      go_wp2_with (at_builtin; refine wpList_append_lies _ rfl _ _ _ rfl w.heap.size 3 i0 _ 1 8 Try.underlying30 hi0 hz0 hz1 hz2 rfl (by omega) _ k _ rfl (HO.out.alloc _) ⟨wr.heap.size, 0, none⟩ 1 1 [.int .i64 (x - 2)] rfl rfl (World.news_of_block (cs := #[.int .i64 (x - 2)]) (t := 3) (fr := (0, 0)) (heap_alloc_new _ _)) (by simp [Value.oneCell']) (by omega) (by unfold maxLen; omega) (by omega) (by simp; omega) (wr.heap.size + 1) (by simp) ?_; intro gg gcap w3 hown1 hgrow hat hlt2)
      go_roundw
      case rel =>
        refine ⟨k + 1, by omega, by go_num, row_congr hown1 rfl ?_, app_below hbel hsz HO.out hgrow⟩
        rw [tab_succ, ← HX.out]
        simp [ints]
      case measure => simp [intOf]; omega
    · have he : k = N := by omega
      subst he
      go_wp2
      go_ret
      exact ⟨_, rfl, ResI.of_row HO.out, hbel⟩

set_option maxHeartbeats 400000 in
theorem implCan_c (n : Int) (ad : Option Addr) (cap : Nat) (ls : List Lk) (w : World) (hl : ls.length ≤ 1048576) (hr : RdL w ad ls) :
    Calls Try.prog 14 #[.int .i64 n, .slice ad ls.length cap] w (RetLB (canR n ls) w) := by
  by_cases hg : goodL n ls = true
  · have hR : Hid (canR n ls = (tab n.toNat (fun i => valF ls i - 2), true)) := if_pos hg
    obtain ⟨hn1, hn2⟩ := good_n hg
    go_enter Try.func14, Try.ntmps14
    go_wp2_with fail
    refine (graphOf_any n ad cap ls _ hl hr hg).mono ?_
    rintro e w1 ⟨G, gb, gv, capb, rb, rfl, hG, hGB, hGV, hb1⟩
    have HG := Lib.hid hG; clear hG
    go_wp2_with fail
    refine (canonical_any G gb gv capb rb n.toNat _ _ _ _ (by omega) (fun i _ => by have := valF_bound hg hl ls.length i; rwa [List.take_length] at this) HG.out).mono ?_
    rintro e w2 ⟨v, rfl, hv, hb2⟩
    have HV := Lib.hid hv; clear hv
    go_wp2
    go_ret2
    exact RetLB.of hR.out (HV.out.mono hb1.size) (ball hb1 hb2)
  · have hg' := Bool.eq_false_iff.2 hg
    have hR : Hid (canR n ls = ([], false)) := if_neg hg
    go_enter Try.func14, Try.ntmps14
    go_wp2_with fail
    refine (graphOf_no n ad cap ls _ hl hr hg').mono ?_
    rintro e w1 ⟨rfl, hb1⟩
    go_wp2
    go_ret2
    exact RetLB.no hR.out hb1

end Go.Proofs.Ytmhmdbmiimpbnaa
