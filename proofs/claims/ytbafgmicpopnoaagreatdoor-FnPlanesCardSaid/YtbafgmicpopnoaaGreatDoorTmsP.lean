/-
  The library's choice of a pivot: order2, median, medianAdjacent, choosePivot; reverseRange. Printed by gen_sort.py.
-/
import Derived.Test.YtbafgmicpopnoaaGreatDoorTmsI
import Derived.Deep.DeepCutAuto
namespace Go.Proofs.YtbafgmicpopnoaaGreatDoor
namespace TmsSort
open Go.RowKit
open Go.Sort (SWO swp swp_left swp_right swp_other size_swp insInner insOuter Hint)

/-- The counter of swaps. -/
def SwA (w : World) (s n : Nat) : Prop := w.cell? ⟨s, 0, none⟩ = some (.int .i64 n) ∧ w.frozen? ⟨s, 0, none⟩ = false
theorem PH.chg {w w' : World} {blk off s : Nat} {d : Array Tm} (h : PH w blk off d) (hb : Chg s w w') (hne : blk ≠ s) : PH w' blk off d := by
  by_cases h0 : 0 < d.size
  · exact h.of_block (hb.block blk (h.lt h0) hne)
  · exact fun t ht => by omega
theorem SwA.lt {w : World} {s n : Nat} (h : SwA w s n) : s < w.heap.size := by
  apply Classical.byContradiction
  intro hn
  have : w.heap[s]? = none := Array.getElem?_eq_none (by omega)
  have := h.1
  simp [World.cell?, *] at this
theorem SwA.below {w w' : World} {s n : Nat} (h : SwA w s n) (hb : Below w.heap.size w w') : SwA w' s n := by
  have hbl := hb.block s h.lt
  exact ⟨by rw [← h.1]; simp only [World.cell?, hbl], by rw [← h.2]; simp only [World.frozen?, hbl]⟩
theorem SwA.set {w : World} {s n m : Nat} (h : SwA w s n) : SwA (w.setCell ⟨s, 0, none⟩ (.int .i64 m)) s m := ⟨World.cell?_setCell_same _ _ _ h.1, by rw [World.frozen?_setCell]; exact h.2⟩

set_option maxHeartbeats 3200000 in
set_option maxRecDepth 100000 in
theorem order2_c (blk off cap s n a b : Nat) (d : Array Tm) (w : World) (hH : PH w blk off d) (hs : SwA w s n) (hn : n ≤ 100) (ha : a < d.size) (hb : b < d.size) (_hne : blk ≠ s) :
    Calls Tryz.prog 129 #[.slice (some ⟨blk, off, none⟩) d.size cap, .int .i64 a, .int .i64 b, .pointer (some ⟨s, 0, none⟩), cmpV] w fun e w' => e = .returned (.tuple #[.int .i64 (Sort.order2 ltTm d a b n).1, .int .i64 (Sort.order2 ltTm d a b n).2.1]) ∧ SwA w' s (Sort.order2 ltTm d a b n).2.2 ∧ Chg s w w' := by
  have HJ := Lib.hid hH; clear hH
  have HS := Lib.hid hs; clear hs
  obtain ⟨R, hR⟩ : ∃ R, Sort.order2 ltTm d a b n = R := ⟨_, rfl⟩
  rw [hR]
  have HRR := Lib.hid hR; clear hR
  unfold cmpV
  go_enter Tryz.func129, Tryz.ntmps129
  have x1 : (0 : Int) ≤ (b : Int) := by omega
  have x2 : (b : Int) < (d.size : Int) := by omega
  have x3 : (0 : Int) ≤ (a : Int) := by omega
  have x4 : (a : Int) < (d.size : Int) := by omega
  have hbl := HJ.out.lt (by omega)
  obtain ⟨p1, p2, p6, p3, p4, p7, p5⟩ := HJ.out b (by omega)
  obtain ⟨q1, q2, q6, q3, q4, q7, q5⟩ := HJ.out a (by omega)
  obtain ⟨pp, hpp⟩ : ∃ p, d[b]! = p := ⟨_, rfl⟩
  obtain ⟨qq, hqq⟩ : ∃ p, d[a]! = p := ⟨_, rfl⟩
  rw [hpp] at p1 p2 p6 p5
  rw [hqq] at q1 q2 q6 q5
  have HPP := Lib.hid hpp; have HQQ := Lib.hid hqq; clear hpp hqq
  have hcmp := fun w => cmpTm_c pp qq w p5 q5
  unfold tmV at hcmp
  have HCMP := Lib.hid hcmp; clear hcmp
  go_wp2_with fail
  go_region_held3 (fun w' => (w'.cell? ⟨blk, off + b * 3, none⟩ = some (.int .i64 pp.i) ∧ w'.cell? ⟨blk, off + b * 3 + 1, none⟩ = some (.int .i64 pp.j) ∧ w'.cell? ⟨blk, off + b * 3 + 2, none⟩ = some (.int .i64 pp.c)) ∧ w'.cell? ⟨blk, off + a * 3, none⟩ = some (.int .i64 qq.i) ∧ w'.cell? ⟨blk, off + a * 3 + 1, none⟩ = some (.int .i64 qq.j) ∧ w'.cell? ⟨blk, off + a * 3 + 2, none⟩ = some (.int .i64 qq.c)) (exact ⟨⟨by assumption, by assumption, by assumption⟩, by assumption, by assumption, by assumption⟩)
    (first
      | (go_at_call 57; (with_reducible refine (HCMP.out _).mono ?_); rintro e W1 ⟨⟨r, rfl, hr⟩, hw1⟩; have m1 := bcell hw1 hbl p1; have m2 := bcell hw1 hbl p2; have m3 := bcell hw1 hbl q1; have m4 := bcell hw1 hbl q2; have m5 := bcell hw1 hbl p6; have m6 := bcell hw1 hbl q6))
  clear HCMP
  have hb1 : Below w.heap.size w W1 := (Below.refl _ _).drew.trans hw1
  have hs1 := HS.out.below hb1
  have hset := Lib.hid (hs1.set (m := n + 1))
  obtain ⟨sc1, sc2⟩ := hs1
  have hR2 : R = if ltTm pp qq then (b, a, n + 1) else (a, b, n) := by rw [← HRR.out, ← HPP.out, ← HQQ.out]; rfl
  clear hw1 m1 m2 m3 m4 m5 m6 HRR
  have HR3 := Lib.hid hr; clear hr
  generalize ltTm pp qq = c at HR3 hR2 ⊢
  cases c
  case false =>
    obtain rfl : R = (a, b, n) := hR2
    go_wp2_with fail
    go_ret2
    exact ⟨rfl, ⟨sc1, sc2⟩, Chg.of_below hb1⟩
  case true =>
    obtain rfl : R = (b, a, n + 1) := hR2
    go_wp2_with fail
    go_ret2
    exact ⟨rfl, hset.out, (Chg.of_below hb1).trans (Chg.set _ _ _ _)⟩

theorem order2_bd {d : Array Tm} {a b n : Nat} : ((Sort.order2 ltTm d a b n).1 = a ∧ (Sort.order2 ltTm d a b n).2.1 = b ∨ (Sort.order2 ltTm d a b n).1 = b ∧ (Sort.order2 ltTm d a b n).2.1 = a) ∧ (Sort.order2 ltTm d a b n).2.2 ≤ n + 1 := by
  unfold Sort.order2
  split
  · exact ⟨Or.inr ⟨rfl, rfl⟩, Nat.le_refl _⟩
  · exact ⟨Or.inl ⟨rfl, rfl⟩, by simp⟩

set_option maxHeartbeats 3200000 in
set_option maxRecDepth 100000 in
theorem median_c (blk off cap s n a b c : Nat) (d : Array Tm) (w : World) (hH : PH w blk off d) (hs : SwA w s n) (hn : n ≤ 90) (ha : a < d.size) (hb : b < d.size) (hc : c < d.size) (hne : blk ≠ s) :
    Calls Tryz.prog 114 #[.slice (some ⟨blk, off, none⟩) d.size cap, .int .i64 a, .int .i64 b, .int .i64 c, .pointer (some ⟨s, 0, none⟩), cmpV] w fun e w' => e = .returned (.int .i64 (Sort.median ltTm d a b c n).1) ∧ SwA w' s (Sort.median ltTm d a b c n).2 ∧ Chg s w w' ∧ (Sort.median ltTm d a b c n).1 < d.size ∧ (Sort.median ltTm d a b c n).2 ≤ n + 3 := by
  have HJ := Lib.hid hH; clear hH
  have HS := Lib.hid hs; clear hs
  have hm : Sort.median ltTm d a b c n = (let r1 := Sort.order2 ltTm d a b n; let r2 := Sort.order2 ltTm d r1.2.1 c r1.2.2; let r3 := Sort.order2 ltTm d r1.1 r2.1 r2.2.2; (r3.2.1, r3.2.2)) := rfl
  have o1 := order2_bd (d := d) (a := a) (b := b) (n := n)
  have c1 := Lib.hid (fun w hH hs => order2_c blk off cap s n a b d w hH hs (by omega) ha hb hne)
  generalize Sort.order2 ltTm d a b n = r1 at hm o1 c1
  obtain ⟨r11, r12, r13⟩ := r1
  simp only at hm o1
  have o2 := order2_bd (d := d) (a := r12) (b := c) (n := r13)
  have c2 := Lib.hid (fun w hH hs => order2_c blk off cap s r13 r12 c d w hH hs (by omega) (by omega) hc hne)
  generalize Sort.order2 ltTm d r12 c r13 = r2 at hm o2 c2
  obtain ⟨r21, r22, r23⟩ := r2
  simp only at hm o2
  have o3 := order2_bd (d := d) (a := r11) (b := r21) (n := r23)
  have c3 := Lib.hid (fun w hH hs => order2_c blk off cap s r23 r11 r21 d w hH hs (by omega) (by omega) (by omega) hne)
  generalize Sort.order2 ltTm d r11 r21 r23 = r3 at hm o3 c3
  obtain ⟨r31, r32, r33⟩ := r3
  simp only at hm o3
  rw [hm]
  have hlast : r32 < d.size ∧ r33 ≤ n + 3 := by omega
  clear hm o1 o2 o3
  go_enter Tryz.func114, Tryz.ntmps114
  go_wp2_with fail
  refine (c1.out _ HJ.out HS.out).mono ?_
  rintro e w1 ⟨rfl, hs1, hc1⟩
  have HS1 := Lib.hid hs1; clear hs1
  have HJ1 := Lib.hid (HJ.out.chg hc1 hne)
  go_wp2_with fail
  refine (c2.out _ HJ1.out HS1.out).mono ?_
  rintro e w2 ⟨rfl, hs2, hc2⟩
  have HS2 := Lib.hid hs2; clear hs2
  have HJ2 := Lib.hid (HJ1.out.chg hc2 hne)
  go_wp2_with fail
  refine (c3.out _ HJ2.out HS2.out).mono ?_
  rintro e w3 ⟨rfl, hs3, hc3⟩
  have HS3 := Lib.hid hs3; clear hs3
  go_wp2_with fail
  go_ret
  exact ⟨rfl, HS3.out, (hc1.trans hc2).trans hc3, hlast.1, hlast.2⟩


set_option maxHeartbeats 3200000 in
set_option maxRecDepth 100000 in
theorem medianAdjacent_c (blk off cap s n a : Nat) (d : Array Tm) (w : World) (hH : PH w blk off d) (hs : SwA w s n) (hn : n ≤ 90) (ha : 1 ≤ a) (hb : a + 1 < d.size) (hsz : d.size < 2305843009213693952) (hne : blk ≠ s) :
    Calls Tryz.prog 113 #[.slice (some ⟨blk, off, none⟩) d.size cap, .int .i64 a, .pointer (some ⟨s, 0, none⟩), cmpV] w fun e w' => e = .returned (.int .i64 (Sort.medianAdjacent ltTm d a n).1) ∧ SwA w' s (Sort.medianAdjacent ltTm d a n).2 ∧ Chg s w w' ∧ (Sort.medianAdjacent ltTm d a n).1 < d.size ∧ (Sort.medianAdjacent ltTm d a n).2 ≤ n + 3 := by
  obtain ⟨k, rfl⟩ : ∃ k, a = k + 1 := ⟨a - 1, by omega⟩
  have c1 := Lib.hid (median_c blk off cap s n k (k + 1) (k + 1 + 1) d w hH hs hn (by omega) (by omega) (by omega) hne)
  have e1 : ((k + 1 + 1 : Nat) : Int) = ((k + 1 : Nat) : Int) + 1 := by omega
  rw [e1] at c1
  unfold Sort.medianAdjacent
  rw [Nat.add_sub_cancel]
  generalize Sort.median ltTm d k (k + 1) (k + 1 + 1) n = r at c1 ⊢
  obtain ⟨j, hj⟩ : ∃ j : Int, ((k + 1 : Nat) : Int) = j := ⟨_, rfl⟩
  have e2 : j - 1 = (k : Int) := by omega
  have e3 : IntKind.i64.wrap (k : Int) = (k : Int) := i64_small (by omega) (by omega)
  have e4 : IntKind.i64.wrap (j + 1) = j + 1 := i64_small (by omega) (by omega)
  rw [hj] at c1 ⊢
  clear e1 hH hs hj
  go_enter Tryz.func113, Tryz.ntmps113
  go_wp2_with fail
  refine c1.out.mono ?_
  rintro e w1 ⟨rfl, hr⟩
  go_wp2_with fail
  go_ret
  exact ⟨rfl, hr⟩



end TmsSort
end Go.Proofs.YtbafgmicpopnoaaGreatDoor
