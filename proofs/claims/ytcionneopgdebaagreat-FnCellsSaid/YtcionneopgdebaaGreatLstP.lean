/-
  Some texts of this proof in one: LstP LstQ LstH LstJ LstL LstK LstM LstN. Each part tells what it proves. By an AI agent.
-/
import Derived.Test.YtcionneopgdebaaGreatLstB
import Derived.Deep.DeepCutAuto

/-
  The library's choice of a pivot: order2, median, medianAdjacent, choosePivot; reverseRange. Printed by gen_sort.py.
-/
namespace Go.Proofs.YtcionneopgdebaaGreat
namespace LstSort
open Go.RowKit
open Go.Sort (SWO swp swp_left swp_right swp_other size_swp insInner insOuter Hint)

/-- The counter of swaps. -/
def SwA (w : World) (s n : Nat) : Prop := w.cell? ⟨s, 0, none⟩ = some (.int .i64 n) ∧ w.frozen? ⟨s, 0, none⟩ = false
theorem SwA.lt {w : World} {s n : Nat} (h : SwA w s n) : s < w.heap.size := by
  apply Classical.byContradiction
  intro hn
  have : w.heap[s]? = none := Array.getElem?_eq_none (by omega)
  have := h.1
  simp [World.cell?, *] at this
theorem SwA.below {w w' : World} {s n : Nat} (h : SwA w s n) (hb : Below w.heap.size w w') : SwA w' s n := by
  have hbl := hb.block s h.lt
  exact ⟨by rw [← h.1]; simp only [World.cell?, hbl], by rw [← h.2]; simp only [World.frozen?, hbl]⟩
theorem SwA.set {w : World} {s n m : Nat} (h : SwA w s n) : SwA (w.setCell ⟨s, 0, none⟩ (.int .i64 m)) s m := ⟨World.cell?_setCell_same _ _ _ h.1, by rw [World.frozen?_setCell]; exact h.2⟩

set_option maxHeartbeats 3200000 in
set_option maxRecDepth 100000 in
theorem order2_c (blk off cap s n a b : Nat) (d : Array Ls) (w : World) (hH : PH w blk off d) (hs : SwA w s n) (hn : n ≤ 100) (ha : a < d.size) (hb : b < d.size) (_hne : Apt blk s d) :
    Calls Tryz.prog 128 #[.slice (some ⟨blk, off, none⟩) d.size cap, .int .i64 a, .int .i64 b, .pointer (some ⟨s, 0, none⟩), cmpV] w fun e w' => e = .returned (.tuple #[.int .i64 (Sort.order2 ltP d a b n).1, .int .i64 (Sort.order2 ltP d a b n).2.1]) ∧ SwA w' s (Sort.order2 ltP d a b n).2.2 ∧ Chg s w w' := by
  have HJ := Lib.hid hH; clear hH
  have HS := Lib.hid hs; clear hs
  obtain ⟨R, hR⟩ : ∃ R, Sort.order2 ltP d a b n = R := ⟨_, rfl⟩
  rw [hR]
  have HRR := Lib.hid hR; clear hR
  unfold cmpV
  go_enter Tryz.func128, Tryz.ntmps128
  have x1 : (0 : Int) ≤ (b : Int) := by omega
  have x2 : (b : Int) < (d.size : Int) := by omega
  have x3 : (0 : Int) ≤ (a : Int) := by omega
  have x4 : (a : Int) < (d.size : Int) := by omega
  have hbl := HJ.out.lt (by omega)
  obtain ⟨p1, p3, p5⟩ := HJ.out b (by omega)
  obtain ⟨q1, q3, q5⟩ := HJ.out a (by omega)
  obtain ⟨pp, hpp⟩ : ∃ p, d[b]! = p := ⟨_, rfl⟩
  obtain ⟨qq, hqq⟩ : ∃ p, d[a]! = p := ⟨_, rfl⟩
  rw [hpp] at p1 p5
  rw [hqq] at q1 q5
  have HPP := Lib.hid hpp; have HQQ := Lib.hid hqq; clear hpp hqq
  have hcmp := fun w hk => compareL_c pp qq w (Rd.below p5 hk) (Rd.below q5 hk)
  unfold lsV at hcmp
  have HCMP := Lib.hid hcmp; clear hcmp
  go_wp2_with fail
  go_region_held3 (fun w' => (w'.cell? ⟨blk, off + b, none⟩ = some (.slice pp.adr pp.xs.length pp.cap)) ∧ w'.cell? ⟨blk, off + a, none⟩ = some (.slice qq.adr qq.xs.length qq.cap)) (exact ⟨by assumption, by assumption⟩)
    (first
      | (go_at_call 75; (with_reducible refine (HCMP.out _ (by with_reducible repeat' (first | exact Below.refl _ _ | apply Below.drew))).mono ?_); rintro e W1 ⟨⟨r, rfl, hr⟩, hw1⟩; have m1 := bcell hw1 hbl p1; have m3 := bcell hw1 hbl q1))
  clear HCMP
  have hb1 : Below w.heap.size w W1 := (Below.refl _ _).drew.trans hw1
  have hs1 := HS.out.below hb1
  have hset := Lib.hid (hs1.set (m := n + 1))
  obtain ⟨sc1, sc2⟩ := hs1
  have hR2 : R = if ltP pp qq then (b, a, n + 1) else (a, b, n) := by rw [← HRR.out, ← HPP.out, ← HQQ.out]; rfl
  clear hw1 m1 m3 HRR
  have HR3 := Lib.hid hr; clear hr
  generalize ltP pp qq = c at HR3 hR2 ⊢
  cases c
  case false =>
    obtain rfl : R = (a, b, n) := hR2
    go_wp2_with fail
    go_ret2
    exact ⟨rfl, ⟨sc1, sc2⟩, Chg.of_below hb1⟩
  case true =>
    obtain rfl : R = (b, a, n + 1) := hR2
    go_wp2_with fail
    go_ret2
    exact ⟨rfl, hset.out, (Chg.of_below hb1).trans (Chg.set _ _ _ _)⟩

theorem order2_bd {d : Array Ls} {a b n : Nat} : ((Sort.order2 ltP d a b n).1 = a ∧ (Sort.order2 ltP d a b n).2.1 = b ∨ (Sort.order2 ltP d a b n).1 = b ∧ (Sort.order2 ltP d a b n).2.1 = a) ∧ (Sort.order2 ltP d a b n).2.2 ≤ n + 1 := by
  unfold Sort.order2
  split
  · exact ⟨Or.inr ⟨rfl, rfl⟩, Nat.le_refl _⟩
  · exact ⟨Or.inl ⟨rfl, rfl⟩, by simp⟩

set_option maxHeartbeats 3200000 in
set_option maxRecDepth 100000 in
theorem median_c (blk off cap s n a b c : Nat) (d : Array Ls) (w : World) (hH : PH w blk off d) (hs : SwA w s n) (hn : n ≤ 90) (ha : a < d.size) (hb : b < d.size) (hc : c < d.size) (hne : Apt blk s d) :
    Calls Tryz.prog 126 #[.slice (some ⟨blk, off, none⟩) d.size cap, .int .i64 a, .int .i64 b, .int .i64 c, .pointer (some ⟨s, 0, none⟩), cmpV] w fun e w' => e = .returned (.int .i64 (Sort.median ltP d a b c n).1) ∧ SwA w' s (Sort.median ltP d a b c n).2 ∧ Chg s w w' ∧ (Sort.median ltP d a b c n).1 < d.size ∧ (Sort.median ltP d a b c n).2 ≤ n + 3 := by
  have HJ := Lib.hid hH; clear hH
  have HS := Lib.hid hs; clear hs
  have hm : Sort.median ltP d a b c n = (let r1 := Sort.order2 ltP d a b n; let r2 := Sort.order2 ltP d r1.2.1 c r1.2.2; let r3 := Sort.order2 ltP d r1.1 r2.1 r2.2.2; (r3.2.1, r3.2.2)) := rfl
  have o1 := order2_bd (d := d) (a := a) (b := b) (n := n)
  have c1 := Lib.hid (fun w hH hs => order2_c blk off cap s n a b d w hH hs (by omega) ha hb hne)
  generalize Sort.order2 ltP d a b n = r1 at hm o1 c1
  obtain ⟨r11, r12, r13⟩ := r1
  simp only at hm o1
  have o2 := order2_bd (d := d) (a := r12) (b := c) (n := r13)
  have c2 := Lib.hid (fun w hH hs => order2_c blk off cap s r13 r12 c d w hH hs (by omega) (by omega) hc hne)
  generalize Sort.order2 ltP d r12 c r13 = r2 at hm o2 c2
  obtain ⟨r21, r22, r23⟩ := r2
  simp only at hm o2
  have o3 := order2_bd (d := d) (a := r11) (b := r21) (n := r23)
  have c3 := Lib.hid (fun w hH hs => order2_c blk off cap s r23 r11 r21 d w hH hs (by omega) (by omega) (by omega) hne)
  generalize Sort.order2 ltP d r11 r21 r23 = r3 at hm o3 c3
  obtain ⟨r31, r32, r33⟩ := r3
  simp only at hm o3
  rw [hm]
  have hlast : r32 < d.size ∧ r33 ≤ n + 3 := by omega
  clear hm o1 o2 o3
  go_enter Tryz.func126, Tryz.ntmps126
  go_wp2_with fail
  refine (c1.out _ HJ.out HS.out).mono ?_
  rintro e w1 ⟨rfl, hs1, hc1⟩
  have HS1 := Lib.hid hs1; clear hs1
  have HJ1 := Lib.hid (HJ.out.chg hc1 hne)
  go_wp2_with fail
  refine (c2.out _ HJ1.out HS1.out).mono ?_
  rintro e w2 ⟨rfl, hs2, hc2⟩
  have HS2 := Lib.hid hs2; clear hs2
  have HJ2 := Lib.hid (HJ1.out.chg hc2 hne)
  go_wp2_with fail
  refine (c3.out _ HJ2.out HS2.out).mono ?_
  rintro e w3 ⟨rfl, hs3, hc3⟩
  have HS3 := Lib.hid hs3; clear hs3
  go_wp2_with fail
  go_ret
  exact ⟨rfl, HS3.out, (hc1.trans hc2).trans hc3, hlast.1, hlast.2⟩


set_option maxHeartbeats 3200000 in
set_option maxRecDepth 100000 in
theorem medianAdjacent_c (blk off cap s n a : Nat) (d : Array Ls) (w : World) (hH : PH w blk off d) (hs : SwA w s n) (hn : n ≤ 90) (ha : 1 ≤ a) (hb : a + 1 < d.size) (hsz : d.size < 2305843009213693952) (hne : Apt blk s d) :
    Calls Tryz.prog 125 #[.slice (some ⟨blk, off, none⟩) d.size cap, .int .i64 a, .pointer (some ⟨s, 0, none⟩), cmpV] w fun e w' => e = .returned (.int .i64 (Sort.medianAdjacent ltP d a n).1) ∧ SwA w' s (Sort.medianAdjacent ltP d a n).2 ∧ Chg s w w' ∧ (Sort.medianAdjacent ltP d a n).1 < d.size ∧ (Sort.medianAdjacent ltP d a n).2 ≤ n + 3 := by
  obtain ⟨k, rfl⟩ : ∃ k, a = k + 1 := ⟨a - 1, by omega⟩
  have c1 := Lib.hid (median_c blk off cap s n k (k + 1) (k + 1 + 1) d w hH hs hn (by omega) (by omega) (by omega) hne)
  have e1 : ((k + 1 + 1 : Nat) : Int) = ((k + 1 : Nat) : Int) + 1 := by omega
  rw [e1] at c1
  unfold Sort.medianAdjacent
  rw [Nat.add_sub_cancel]
  generalize Sort.median ltP d k (k + 1) (k + 1 + 1) n = r at c1 ⊢
  obtain ⟨j, hj⟩ : ∃ j : Int, ((k + 1 : Nat) : Int) = j := ⟨_, rfl⟩
  have e2 : j - 1 = (k : Int) := by omega
  have e3 : IntKind.i64.wrap (k : Int) = (k : Int) := i64_small (by omega) (by omega)
  have e4 : IntKind.i64.wrap (j + 1) = j + 1 := i64_small (by omega) (by omega)
  rw [hj] at c1 ⊢
  clear e1 hH hs hj
  go_enter Tryz.func125, Tryz.ntmps125
  go_wp2_with fail
  refine c1.out.mono ?_
  rintro e w1 ⟨rfl, hr⟩
  go_wp2_with fail
  go_ret
  exact ⟨rfl, hr⟩



end LstSort
end Go.Proofs.YtcionneopgdebaaGreat

/-
  The library's choice of a pivot, the reversal of a range. Printed by gen_sort.py.
-/
namespace Go.Proofs.YtcionneopgdebaaGreat
namespace LstSort
open Go.RowKit
open Go.Sort (SWO swp swp_left swp_right swp_other size_swp insInner insOuter Hint)

theorem median_bd {d : Array Ls} {a b c n : Nat} : ((Sort.median ltP d a b c n).1 = a ∨ (Sort.median ltP d a b c n).1 = b ∨ (Sort.median ltP d a b c n).1 = c) ∧ (Sort.median ltP d a b c n).2 ≤ n + 3 := by
  have hm : Sort.median ltP d a b c n = (let r1 := Sort.order2 ltP d a b n; let r2 := Sort.order2 ltP d r1.2.1 c r1.2.2; let r3 := Sort.order2 ltP d r1.1 r2.1 r2.2.2; (r3.2.1, r3.2.2)) := rfl
  have o1 := order2_bd (d := d) (a := a) (b := b) (n := n)
  generalize Sort.order2 ltP d a b n = r1 at hm o1
  obtain ⟨r11, r12, r13⟩ := r1
  simp only at hm o1
  have o2 := order2_bd (d := d) (a := r12) (b := c) (n := r13)
  generalize Sort.order2 ltP d r12 c r13 = r2 at hm o2
  obtain ⟨r21, r22, r23⟩ := r2
  simp only at hm o2
  have o3 := order2_bd (d := d) (a := r11) (b := r21) (n := r23)
  generalize Sort.order2 ltP d r11 r21 r23 = r3 at hm o3
  obtain ⟨r31, r32, r33⟩ := r3
  simp only at hm o3
  rw [hm]
  show (r32 = a ∨ r32 = b ∨ r32 = c) ∧ r33 ≤ n + 3
  omega
theorem medianAdjacent_bd {d : Array Ls} {a n : Nat} (h1 : 1 ≤ a) (h2 : a + 1 < d.size) : (Sort.medianAdjacent ltP d a n).1 < d.size ∧ (Sort.medianAdjacent ltP d a n).2 ≤ n + 3 := by
  have := median_bd (d := d) (a := a - 1) (b := a) (c := a + 1) (n := n)
  unfold Sort.medianAdjacent
  omega

def hintZ : Hint → Int
  | .unknown => 0
  | .increasing => 1
  | .decreasing => 2
theorem chg_fresh {w w' : World} {o : Obj} (h : Chg w.heap.size (w.alloc o) w') : Below w.heap.size w w' :=
  ((Below.refl w.heap.size w).alloc (Nat.le_refl _) o).trans (h.below (Nat.le_refl _) (by simp))
def hintOf (n : Nat) : Hint := if n = 0 then .increasing else if n = 12 then .decreasing else .unknown
theorem choosePivot_eq (d : Array Ls) (a b L Q : Nat) (hL : b - a = L) (hQ : L / 4 = Q) : Sort.choosePivot ltP d a b =
    (let r : Nat × Nat := if L ≥ 8 then (if L ≥ 50 then (let ri := Sort.medianAdjacent ltP d (a + Q) 0; let rj := Sort.medianAdjacent ltP d (a + Q * 2) ri.2; let rk := Sort.medianAdjacent ltP d (a + Q * 3) rj.2; Sort.median ltP d ri.1 rj.1 rk.1 rk.2) else Sort.median ltP d (a + Q) (a + Q * 2) (a + Q * 3) 0) else (a + Q * 2, 0)
     (r.1, hintOf r.2)) := by
  subst hL; subst hQ
  unfold Sort.choosePivot hintOf
  simp only [Nat.mul_one]

set_option maxHeartbeats 3200000 in
set_option maxRecDepth 100000 in
theorem choosePivot_c (blk off cap a b : Nat) (d : Array Ls) (w : World) (hH : PH w blk off d) (hab : a < b) (hb : b ≤ d.size) (hsz : d.size < 2305843009213693952) :
    Calls Tryz.prog 112 #[.slice (some ⟨blk, off, none⟩) d.size cap, .int .i64 a, .int .i64 b, cmpV] w fun e w' => e = .returned (.tuple #[.int .i64 (Sort.choosePivot ltP d a b).1, .int .i64 (hintZ (Sort.choosePivot ltP d a b).2)]) ∧ Below w.heap.size w w' := by
  have hbl := hH.lt (by omega)
  have hne : Apt blk w.heap.size d := Apt.new hH (by omega)
  obtain ⟨L, hL⟩ : ∃ L, b - a = L := ⟨_, rfl⟩
  obtain ⟨Q, hQ⟩ : ∃ Q, L / 4 = Q := ⟨_, rfl⟩
  obtain ⟨R, hR⟩ : ∃ R, Sort.choosePivot ltP d a b = R := ⟨_, rfl⟩
  rw [hR]
  rw [choosePivot_eq d a b L Q hL hQ] at hR
  have e0 : (b : Int) - (a : Int) = (L : Int) := by omega
  have e1 : IntKind.i64.wrap (L : Int) = (L : Int) := i64_small (by omega) (by omega)
  have e2 : (L : Int).tdiv 4 = (Q : Int) := by rw [Int.tdiv_eq_ediv_of_nonneg (by omega)]; omega
  have hq4 : Q * 4 ≤ L := by omega
  have HL := Lib.hid hL; have HQ := Lib.hid hQ; have HR := Lib.hid hR; clear hL hQ hR
  have HJ := Lib.hid hH; clear hH
  have hs : SwA (w.alloc (.cells #[.int .i64 0] 3)) w.heap.size 0 := ⟨World.cell?_alloc_at _ _ _ _ rfl, World.frozen?_alloc_at _ _ _ _ rfl⟩
  have HS := Lib.hid hs; clear hs
  obtain ⟨I, hI⟩ : ∃ I, a + Q = I := ⟨_, rfl⟩
  obtain ⟨J, hJ⟩ : ∃ J, a + Q * 2 = J := ⟨_, rfl⟩
  obtain ⟨K, hK⟩ : ∃ K, a + Q * 3 = K := ⟨_, rfl⟩
  rw [hI, hJ, hK] at HR
  have f1 : (a : Int) + (Q : Int) = (I : Int) := by omega
  have f2 : (a : Int) + (Q : Int) * 2 = (J : Int) := by omega
  have f3 : (a : Int) + (Q : Int) * 3 = (K : Int) := by omega
  have bI : I < d.size ∧ J < d.size ∧ K < d.size ∧ (8 ≤ L → 1 ≤ I ∧ 1 ≤ J ∧ 1 ≤ K ∧ I + 1 < d.size ∧ J + 1 < d.size ∧ K + 1 < d.size) := by have := HL.out; have := HQ.out; omega
  have HBI := Lib.hid bI; clear bI hI hJ hK
  unfold cmpV
  by_cases h8 : L < 8
  case pos =>
    have hR2 : R = (J, Hint.increasing) := by rw [← HR.out, if_neg (by omega)]; rfl
    obtain rfl := hR2
    have g8 : (L : Int) < 8 := by omega
    go_enter Tryz.func112, Tryz.ntmps112
    go_wp2_with fail
    go_ret2
    exact ⟨rfl, (Below.refl _ _).alloc (Nat.le_refl _) _⟩
  case neg =>
    rw [if_pos (by omega)] at HR
    have g8 : (8 : Int) ≤ L := by omega
    have HJ1 := Lib.hid (HJ.out.below ((Below.refl _ _).alloc (Nat.le_refl _) (.cells #[.int .i64 0] 3)))
    by_cases h50 : L < 50
    case pos =>
      rw [if_neg (by omega)] at HR
      have g50 : (L : Int) < 50 := by omega
      have cm := Lib.hid (fun w hH hs => median_c blk off cap _ 0 I J K d w hH hs (by omega) (by have := HBI.out; omega) (by have := HBI.out; omega) (by have := HBI.out; omega) hne)
      generalize Sort.median ltP d I J K 0 = r at cm HR
      obtain ⟨m, n⟩ := r
      simp only at HR
      go_enter Tryz.func112, Tryz.ntmps112
      go_wp2_with fail
      refine (cm.out _ HJ1.out HS.out).mono ?_
      rintro e w1 ⟨rfl, hs1, hc1, hm1, hn1⟩
      have HS1 := Lib.hid hs1; clear hs1
      obtain ⟨sc1, sc2⟩ := HS1.out
      have hfin := Lib.hid (chg_fresh (hc1))
      by_cases h0 : n = 0
      case pos =>
        have hR2 : R = (m, Hint.increasing) := by rw [← HR.out]; unfold hintOf; rw [if_pos h0]
        obtain rfl := hR2
        subst h0
        go_wp2_with fail
        go_ret2
        exact ⟨rfl, hfin.out⟩
      case neg =>
        by_cases h12 : n = 12
        case pos =>
          have hR2 : R = (m, Hint.decreasing) := by rw [← HR.out]; unfold hintOf; rw [if_neg h0, if_pos h12]
          obtain rfl := hR2
          subst h12
          go_wp2_with fail
          go_ret2
          exact ⟨rfl, hfin.out⟩
        case neg =>
          have hR2 : R = (m, Hint.unknown) := by rw [← HR.out]; unfold hintOf; rw [if_neg h0, if_neg h12]
          obtain rfl := hR2
          have z1 : ((n : Int) == 0) = false := by simp; omega
          have z2 : ((n : Int) == 12) = false := by simp; omega
          go_wp2_with fail
          go_ret2
          exact ⟨rfl, hfin.out⟩
    case neg =>
      rw [if_pos (by omega)] at HR
      have g50 : (50 : Int) ≤ L := by omega
      have bi := medianAdjacent_bd (d := d) (a := I) (n := 0) (by have := HBI.out; omega) (by have := HBI.out; omega)
      have cI := Lib.hid (fun w hH hs => medianAdjacent_c blk off cap _ 0 I d w hH hs (by omega) (by have := HBI.out; omega) (by have := HBI.out; omega) hsz hne)
      generalize Sort.medianAdjacent ltP d I 0 = ri at bi cI HR
      obtain ⟨mi, ni⟩ := ri
      simp only at bi HR
      have bj := medianAdjacent_bd (d := d) (a := J) (n := ni) (by have := HBI.out; omega) (by have := HBI.out; omega)
      have cJ := Lib.hid (fun w hH hs => medianAdjacent_c blk off cap _ ni J d w hH hs (by omega) (by have := HBI.out; omega) (by have := HBI.out; omega) hsz hne)
      generalize Sort.medianAdjacent ltP d J ni = rj at bj cJ HR
      obtain ⟨mj, nj⟩ := rj
      simp only at bj HR
      have bk := medianAdjacent_bd (d := d) (a := K) (n := nj) (by have := HBI.out; omega) (by have := HBI.out; omega)
      have cK := Lib.hid (fun w hH hs => medianAdjacent_c blk off cap _ nj K d w hH hs (by omega) (by have := HBI.out; omega) (by have := HBI.out; omega) hsz hne)
      generalize Sort.medianAdjacent ltP d K nj = rk at bk cK HR
      obtain ⟨mk, nk⟩ := rk
      simp only at bk HR
      have cm := Lib.hid (fun w hH hs => median_c blk off cap _ nk mi mj mk d w hH hs (by omega) (by omega) (by omega) (by omega) hne)
      generalize Sort.median ltP d mi mj mk nk = r at cm HR
      obtain ⟨m, n⟩ := r
      simp only at HR
      clear bi bj bk
      go_enter Tryz.func112, Tryz.ntmps112
      go_wp2_with fail
      refine (cI.out _ HJ1.out HS.out).mono ?_
      rintro e w1 ⟨rfl, hs1, hc1, _, _⟩
      have HS1 := Lib.hid hs1; clear hs1
      have HJ2 := Lib.hid (HJ1.out.chg hc1 hne)
      go_wp2_with fail
      refine (cJ.out _ HJ2.out HS1.out).mono ?_
      rintro e w2 ⟨rfl, hs2, hc2, _, _⟩
      have HS2 := Lib.hid hs2; clear hs2
      have HJ3 := Lib.hid (HJ2.out.chg hc2 hne)
      go_wp2_with fail
      refine (cK.out _ HJ3.out HS2.out).mono ?_
      rintro e w3 ⟨rfl, hs3, hc3, _, _⟩
      have HS3 := Lib.hid hs3; clear hs3
      have HJ4 := Lib.hid (HJ3.out.chg hc3 hne)
      go_wp2_with fail
      refine (cm.out _ HJ4.out HS3.out).mono ?_
      rintro e w4 ⟨rfl, hs4, hc4, _, _⟩
      have HS4 := Lib.hid hs4; clear hs4
      obtain ⟨sc1, sc2⟩ := HS4.out
      have hfin := Lib.hid (chg_fresh (((hc1.trans hc2).trans hc3).trans hc4))
      by_cases h0 : n = 0
      case pos =>
        have hR2 : R = (m, Hint.increasing) := by rw [← HR.out]; unfold hintOf; rw [if_pos h0]
        obtain rfl := hR2
        subst h0
        go_wp2_with fail
        go_ret2
        exact ⟨rfl, hfin.out⟩
      case neg =>
        by_cases h12 : n = 12
        case pos =>
          have hR2 : R = (m, Hint.decreasing) := by rw [← HR.out]; unfold hintOf; rw [if_neg h0, if_pos h12]
          obtain rfl := hR2
          subst h12
          go_wp2_with fail
          go_ret2
          exact ⟨rfl, hfin.out⟩
        case neg =>
          have hR2 : R = (m, Hint.unknown) := by rw [← HR.out]; unfold hintOf; rw [if_neg h0, if_neg h12]
          obtain rfl := hR2
          have z1 : ((n : Int) == 0) = false := by simp; omega
          have z2 : ((n : Int) == 12) = false := by simp; omega
          go_wp2_with fail
          go_ret2
          exact ⟨rfl, hfin.out⟩

theorem reverseLoop_go {i j : Nat} {d : Array Ls} (h : i < j) : Sort.reverseLoop i j d = Sort.reverseLoop (i + 1) (j - 1) (swp d i j) := by rw [Sort.reverseLoop, if_pos h]
theorem reverseLoop_stop {i j : Nat} {d : Array Ls} (h : ¬ i < j) : Sort.reverseLoop i j d = d := by rw [Sort.reverseLoop, if_neg h]

set_option maxHeartbeats 3200000 in
set_option maxRecDepth 100000 in
theorem reverseRange_c (blk off cap a b : Nat) (d : Array Ls) (w : World) (hH : PH w blk off d) (hab : a < b) (hb : b ≤ d.size) (hsz : d.size < 2305843009213693952) :
    Calls Tryz.prog 113 #[.slice (some ⟨blk, off, none⟩) d.size cap, .int .i64 a, .int .i64 b, cmpV] w (SortsTo w blk off d.size (Sort.reverseRange d a b)) := by
  have HP := Lib.hid hH; clear hH
  unfold cmpV
  obtain ⟨b1, hb1⟩ : ∃ b1, b = b1 + 1 := ⟨b - 1, by omega⟩
  have e0 : (b : Int) - 1 = (b1 : Int) := by omega
  have HB1 := Lib.hid hb1; clear hb1
  go_enter Tryz.func113, Tryz.ntmps113
  go_wp2_with fail
  go_loopw [8, 9] (fun vi vj wr => ∃ (i j : Nat) (dk : Array Ls), vi = .int .i64 i ∧ vj = .int .i64 j ∧ a ≤ i ∧ i ≤ b ∧ j < b ∧ dk.size = d.size ∧ PH wr blk off dk ∧ Chg blk w wr ∧ Sort.reverseLoop i j dk = Sort.reverseLoop a (b - 1) d) (fun _ vj _ => (intOf vj).toNat)
  case atStart => exact ⟨a, b1, d, by first | rfl | go_num, rfl, by omega, by omega, by have := HB1.out; omega, rfl, HP.out, Chg.refl _ _, by rw [show b - 1 = b1 by have := HB1.out; omega]⟩
  case round =>
    obtain ⟨i, j, dk, rfl, rfl, hai, hib, hjb, hsk, hph, hchg, hO⟩ := hrel
    have HO := Lib.hid hO; clear hO
    have HK := Lib.hid hph; clear hph
    have HSK := Lib.hid hsk; clear hsk
    by_cases hlt : i < j
    case neg =>
      go_wp2_with fail
      go_end0
      refine ⟨rfl, ?_, hchg, ?_⟩
      all_goals unfold Sort.reverseRange
      all_goals rw [← HO.out, reverseLoop_stop hlt]
      · exact HK.out
      · exact HSK.out
    case pos =>
      obtain ⟨k, hk⟩ : ∃ k, j = k + 1 := ⟨j - 1, by omega⟩
      have e1 : (j : Int) - 1 = (k : Int) := by omega
      have x1 : (0 : Int) ≤ (i : Int) := by omega
      have x2 : (i : Int) < (d.size : Int) := by omega
      have x3 : (0 : Int) ≤ (j : Int) := by omega
      have x4 : (j : Int) < (d.size : Int) := by omega
      have HK1 := Lib.hid hk; clear hk
      obtain ⟨p1, p3, p5⟩ := HK.out i (by have := HSK.out; omega)
      obtain ⟨q1, q3, q5⟩ := HK.out j (by have := HSK.out; omega)
      obtain ⟨pp, hpp⟩ : ∃ p, dk[i]! = p := ⟨_, rfl⟩
      obtain ⟨qq, hqq⟩ : ∃ p, dk[j]! = p := ⟨_, rfl⟩
      rw [hpp] at p1 p5
      rw [hqq] at q1 q5
      have HPP := Lib.hid hpp; have HQQ := Lib.hid hqq; clear hpp hqq
      have hSW := HK.out.swap (i := i) (j := j) (by have := HSK.out; omega) (by have := HSK.out; omega)
      have hSC := swapW_chg wr blk off dk[i]! dk[j]! i j
      rw [HPP.out, HQQ.out] at hSW hSC
      unfold swapW at hSW hSC
      have HSW := Lib.hid hSW; have HSC := Lib.hid hSC; clear hSW hSC
      go_wp2_with fail
      go_region
      go_wp2_with fail
      go_roundw
      case rel => exact ⟨i + 1, k, swp dk i j, by go_num, rfl, by omega, by omega, by have := HK1.out; omega, by rw [size_swp]; exact HSK.out, HSW.out.drew, (hchg.trans HSC.out).trans (Chg.drew _ _), by rw [← HO.out, reverseLoop_go hlt, show j - 1 = k by have := HK1.out; omega]⟩
      case measure => simp [intOf]; have := HK1.out; omega


end LstSort
end Go.Proofs.YtcionneopgdebaaGreat

/-
  The library's heap sort over lists of numbers. Printed by gen_sort.py.
-/
namespace Go.Proofs.YtcionneopgdebaaGreat
namespace LstSort
open Go.RowKit
open Go.Sort (SWO swp swp_left swp_right swp_other size_swp insInner insOuter Hint)

theorem sift_stop {hi first root : Nat} {d : Array Ls} (h : hi ≤ 2 * root + 1) : Sort.siftDown ltP hi first root d = d := by rw [Sort.siftDown, dif_pos h]
theorem sift_left {hi first root C FR FC : Nat} {d : Array Ls} (hC : 2 * root + 1 = C) (hch : C < hi) (hFR : first + root = FR) (hFC : first + C = FC) (h : ¬ C + 1 < hi ∨ ltP d[FC]! d[FC + 1]! = false) :
    Sort.siftDown ltP hi first root d = if ltP d[FR]! d[FC]! then Sort.siftDown ltP hi first C (swp d FR FC) else d := by
  subst hC; subst hFR; subst hFC
  rw [Sort.siftDown, dif_neg (by omega)]
  have e : (decide (2 * root + 1 + 1 < hi) && ltP d[first + (2 * root + 1)]! d[first + (2 * root + 1) + 1]!) = false := by
    rcases h with h | h
    · simp; omega
    · rw [h, Bool.and_false]
  rw [e]
  simp only [Bool.false_eq_true, if_false]
  cases ltP d[first + root]! d[first + (2 * root + 1)]! <;> simp
theorem sift_right {hi first root C FR FD : Nat} {d : Array Ls} (hC : 2 * root + 1 = C) (hch : C + 1 < hi) (hFR : first + root = FR) (hFD : first + C + 1 = FD) (h : ltP d[first + C]! d[FD]! = true) :
    Sort.siftDown ltP hi first root d = if ltP d[FR]! d[FD]! then Sort.siftDown ltP hi first (C + 1) (swp d FR FD) else d := by
  subst hC; subst hFR; subst hFD
  rw [Sort.siftDown, dif_neg (by omega)]
  have e : (decide (2 * root + 1 + 1 < hi) && ltP d[first + (2 * root + 1)]! d[first + (2 * root + 1) + 1]!) = true := by rw [h]; simp; omega
  rw [e]
  simp only [if_true]
  rw [show first + (2 * root + 2) = first + (2 * root + 1) + 1 by omega, show 2 * root + 2 = 2 * root + 1 + 1 by omega, dif_pos hch]
  cases ltP d[first + root]! d[first + (2 * root + 1) + 1]! <;> simp

set_option maxHeartbeats 3200000 in
set_option maxRecDepth 100000 in
theorem siftDown_c (blk off cap lo hi first : Nat) (d : Array Ls) (w : World) (hH : PH w blk off d) (hlo : lo ≤ d.size) (hb : first + hi ≤ d.size) (hsz : d.size < 2305843009213693952) :
    Calls Tryz.prog 124 #[.slice (some ⟨blk, off, none⟩) d.size cap, .int .i64 lo, .int .i64 hi, .int .i64 first, cmpV] w (SortsTo w blk off d.size (Sort.siftDown ltP hi first lo d)) := by
  have HP := Lib.hid hH; clear hH
  unfold cmpV
  go_enter Tryz.func124, Tryz.ntmps124
  go_wp2_with fail
  go_loopw [10] (fun v wr => ∃ (root : Nat) (dk : Array Ls), v = .int .i64 root ∧ root ≤ d.size ∧ dk.size = d.size ∧ PH wr blk off dk ∧ Chg blk w wr ∧ Sort.siftDown ltP hi first root dk = Sort.siftDown ltP hi first lo d) (fun v _ => hi - (intOf v).toNat)
  case atStart => exact ⟨lo, d, rfl, hlo, rfl, HP.out, Chg.refl _ _, rfl⟩
  case round =>
    obtain ⟨root, dk, rfl, hrb, hsk, hph, hchg, hO⟩ := hrel
    have HO := Lib.hid hO; clear hO
    have HK := Lib.hid hph; clear hph
    have HSK := Lib.hid hsk; clear hsk
    obtain ⟨C, hC⟩ : ∃ C, 2 * root + 1 = C := ⟨_, rfl⟩
    have eC : 2 * (root : Int) + 1 = (C : Int) := by omega
    by_cases hch : C < hi
    case neg =>
      have hst := sift_stop (hi := hi) (first := first) (root := root) (d := dk) (by omega)
      have HST := Lib.hid hst; clear hst hC
      go_wp2_with fail
      go_end0
      refine ⟨rfl, ?_, hchg, ?_⟩
      all_goals rw [← HO.out, HST.out]
      · exact HK.out
      · exact HSK.out
    case pos =>
      obtain ⟨FR, hFR⟩ : ∃ FR, first + root = FR := ⟨_, rfl⟩
      obtain ⟨FC, hFC⟩ : ∃ FC, first + C = FC := ⟨_, rfl⟩
      have eFR : (first : Int) + (root : Int) = (FR : Int) := by omega
      have eFC : (first : Int) + (C : Int) = (FC : Int) := by omega
      have x1 : (0 : Int) ≤ (FR : Int) := by omega
      have x2 : (FR : Int) < (d.size : Int) := by omega
      have x3 : (0 : Int) ≤ (FC : Int) := by omega
      have x4 : (FC : Int) < (d.size : Int) := by omega
      obtain ⟨D, hD⟩ : ∃ D, C + 1 = D := ⟨_, rfl⟩
      have eD : (C : Int) + 1 = (D : Int) := by omega
      have w1' : IntKind.i64.wrap (D : Int) = (D : Int) := i64_small (by omega) (by omega)
      have w2' : IntKind.i64.wrap (FR : Int) = (FR : Int) := i64_small (by omega) (by omega)
      have w3' : IntKind.i64.wrap (FC : Int) = (FC : Int) := i64_small (by omega) (by omega)
      have w4' : IntKind.i64.wrap (C : Int) = (C : Int) := i64_small (by omega) (by omega)
      have HC := Lib.hid hC; have HFR := Lib.hid hFR; have HFC := Lib.hid hFC; have HD := Lib.hid hD; clear hC hFR hFC hD
      by_cases h2 : D < hi
      case neg =>
        go_wp2_with fail
        go_quiet (fail)
        have HK2 := Lib.hid (HK.out.below (bdrewN (Below.refl _ _) nq))
        have hc2 := hchg.trans (Chg.drewN _ _ nq)
        have H2 := Lib.hid (show ¬ C + 1 < hi by have := HD.out; omega)
        generalize wr.drewN nq = W0 at HK2 hc2 ⊢
        obtain ⟨p1, p3, p5⟩ := HK2.out FR (by have := HSK.out; omega)
        obtain ⟨q1, q3, q5⟩ := HK2.out FC (by have := HSK.out; omega)
        have hbl := HK2.out.lt (by have := HSK.out; omega)
        obtain ⟨pp, hpp⟩ : ∃ p, dk[FR]! = p := ⟨_, rfl⟩
        obtain ⟨qq, hqq⟩ : ∃ p, dk[FC]! = p := ⟨_, rfl⟩
        rw [hpp] at p1 p5
        rw [hqq] at q1 q5
        have HPP := Lib.hid hpp; have HQQ := Lib.hid hqq; clear hpp hqq
        have hcmp := fun w hk => compareL_c pp qq w (Rd.below p5 hk) (Rd.below q5 hk)
        unfold lsV at hcmp
        have HCMP := Lib.hid hcmp; clear hcmp
        go_wp2_with fail
        go_region_held3 (fun w' => (w'.cell? ⟨blk, off + FR, none⟩ = some (.slice pp.adr pp.xs.length pp.cap)) ∧ w'.cell? ⟨blk, off + FC, none⟩ = some (.slice qq.adr qq.xs.length qq.cap)) (exact ⟨by assumption, by assumption⟩)
          (first
            | (go_at_call 75; (with_reducible refine (HCMP.out _ (by with_reducible repeat' (first | exact Below.refl _ _ | apply Below.drew))).mono ?_); rintro e W2 ⟨⟨r, rfl, hr⟩, hw1⟩; have m1 := bcell hw1 hbl p1; have m3 := bcell hw1 hbl q1))
        clear HCMP
        have hb2 : Below (World.heap W0).size W0 W2 := (Below.refl _ _).drew.trans hw1
        have HK3 := Lib.hid (HK2.out.below hb2)
        have hc3 := hc2.trans (Chg.of_below hb2)
        clear hw1 m1 m3 p1 p3 q1 q3 hb2
        obtain ⟨p1, p3, _⟩ := HK3.out FR (by have := HSK.out; omega)
        obtain ⟨q1, q3, _⟩ := HK3.out FC (by have := HSK.out; omega)
        rw [HPP.out] at p1
        rw [HQQ.out] at q1
        have HR3 := Lib.hid hr; clear hr
        generalize hcd : ltP pp qq = c2 at HR3 ⊢
        have HCD := Lib.hid hcd; clear hcd
        have HE := Lib.hid (show Sort.siftDown ltP hi first root dk = if c2 then Sort.siftDown ltP hi first C (swp dk FR FC) else dk from by rw [sift_left HC.out hch HFR.out HFC.out (Or.inl H2.out), HPP.out, HQQ.out, HCD.out])
        cases c2
        case false =>
          go_wp2_with fail
          go_end0
          refine ⟨rfl, ?_, hc3, ?_⟩
          all_goals rw [← HO.out, HE.out]
          · exact HK3.out
          · exact HSK.out
        case true =>
          have hSW := HK3.out.swap (i := FR) (j := FC) (by have := HSK.out; omega) (by have := HSK.out; omega)
          have hSC := swapW_chg W2 blk off dk[FR]! dk[FC]! FR FC
          rw [HPP.out, HQQ.out] at hSW hSC
          unfold swapW at hSW hSC
          have HSW := Lib.hid hSW; have HSC := Lib.hid hSC; clear hSW hSC
          go_wp2_with fail
          go_region
          go_wp2_with fail
          go_roundw
          case rel => exact ⟨C, swp dk FR FC, by first | rfl | go_num, by omega, by rw [size_swp]; exact HSK.out, HSW.out.drew, (hc3.trans HSC.out).trans (Chg.drew _ _), by rw [← HO.out, HE.out]; rfl⟩
          case measure => simp [intOf]; have := HC.out; omega
      case pos =>
        obtain ⟨FD, hFD⟩ : ∃ FD, FC + 1 = FD := ⟨_, rfl⟩
        have eFD : (FC : Int) + 1 = (FD : Int) := by omega
        have eFD2 : (first : Int) + (D : Int) = (FD : Int) := by have := HFC.out; have := HD.out; omega
        have x5 : (0 : Int) ≤ (FD : Int) := by omega
        have x6 : (FD : Int) < (d.size : Int) := by have := HFC.out; have := HD.out; omega
        have w5' : IntKind.i64.wrap (FD : Int) = (FD : Int) := i64_small (by omega) (by omega)
        have HFD := Lib.hid hFD; clear hFD
        obtain ⟨p1, p3, p5⟩ := HK.out FC (by have := HSK.out; omega)
        obtain ⟨q1, q3, q5⟩ := HK.out FD (by have := HSK.out; omega)
        have hbl := HK.out.lt (by have := HSK.out; omega)
        obtain ⟨pp, hpp⟩ : ∃ p, dk[FC]! = p := ⟨_, rfl⟩
        obtain ⟨qq, hqq⟩ : ∃ p, dk[FD]! = p := ⟨_, rfl⟩
        rw [hpp] at p1 p5
        rw [hqq] at q1 q5
        have HPP := Lib.hid hpp; have HQQ := Lib.hid hqq; clear hpp hqq
        have hcmp := fun w hk => compareL_c pp qq w (Rd.below p5 hk) (Rd.below q5 hk)
        unfold lsV at hcmp
        have HCMP := Lib.hid hcmp; clear hcmp
        go_wp2_with fail
        go_region_held3 (fun w' => (w'.cell? ⟨blk, off + FC, none⟩ = some (.slice pp.adr pp.xs.length pp.cap)) ∧ w'.cell? ⟨blk, off + FD, none⟩ = some (.slice qq.adr qq.xs.length qq.cap)) (exact ⟨by assumption, by assumption⟩)
          (first
            | (go_at_call 75; (with_reducible refine (HCMP.out _ (by with_reducible repeat' (first | exact Below.refl _ _ | apply Below.drew))).mono ?_); rintro e W1 ⟨⟨r, rfl, hr⟩, hw1⟩; have m1 := bcell hw1 hbl p1; have m3 := bcell hw1 hbl q1))
        clear HCMP
        have hb1 : Below wr.heap.size wr W1 := (Below.refl _ _).drew.trans hw1
        have HK2 := Lib.hid (HK.out.below hb1)
        have hc2 := hchg.trans (Chg.of_below hb1)
        clear hw1 m1 m3 p1 p3 q1 q3 p5 q5 hb1
        have HR2 := Lib.hid hr; clear hr
        generalize hcc : ltP pp qq = c at HR2 ⊢
        have HCC := Lib.hid (show ltP dk[FC]! dk[FD]! = c by rw [HPP.out, HQQ.out, hcc]); clear hcc HPP HQQ
        cases c
        case false =>
          obtain ⟨p1, p3, p5⟩ := HK2.out FR (by have := HSK.out; omega)
          obtain ⟨q1, q3, q5⟩ := HK2.out FC (by have := HSK.out; omega)
          have hbl := HK2.out.lt (by have := HSK.out; omega)
          obtain ⟨pp, hpp⟩ : ∃ p, dk[FR]! = p := ⟨_, rfl⟩
          obtain ⟨qq, hqq⟩ : ∃ p, dk[FC]! = p := ⟨_, rfl⟩
          rw [hpp] at p1 p5
          rw [hqq] at q1 q5
          have HPP := Lib.hid hpp; have HQQ := Lib.hid hqq; clear hpp hqq
          have hcmp := fun w hk => compareL_c pp qq w (Rd.below p5 hk) (Rd.below q5 hk)
          unfold lsV at hcmp
          have HCMP := Lib.hid hcmp; clear hcmp
          go_wp2_with fail
          go_region_held3 (fun w' => (w'.cell? ⟨blk, off + FR, none⟩ = some (.slice pp.adr pp.xs.length pp.cap)) ∧ w'.cell? ⟨blk, off + FC, none⟩ = some (.slice qq.adr qq.xs.length qq.cap)) (exact ⟨by assumption, by assumption⟩)
            (first
              | (go_at_call 75; (with_reducible refine (HCMP.out _ (by with_reducible repeat' (first | exact Below.refl _ _ | apply Below.drew))).mono ?_); rintro e W2 ⟨⟨r, rfl, hr⟩, hw1⟩; have m1 := bcell hw1 hbl p1; have m3 := bcell hw1 hbl q1))
          clear HCMP
          have hb2 : Below (World.heap W1).size W1 W2 := (Below.refl _ _).drew.trans hw1
          have HK3 := Lib.hid (HK2.out.below hb2)
          have hc3 := hc2.trans (Chg.of_below hb2)
          clear hw1 m1 m3 p1 p3 q1 q3 hb2
          obtain ⟨p1, p3, _⟩ := HK3.out FR (by have := HSK.out; omega)
          obtain ⟨q1, q3, _⟩ := HK3.out FC (by have := HSK.out; omega)
          rw [HPP.out] at p1
          rw [HQQ.out] at q1
          have HR3 := Lib.hid hr; clear hr
          generalize hcd : ltP pp qq = c2 at HR3 ⊢
          have HCD := Lib.hid hcd; clear hcd
          have HE := Lib.hid (show Sort.siftDown ltP hi first root dk = if c2 then Sort.siftDown ltP hi first C (swp dk FR FC) else dk from by rw [sift_left HC.out hch HFR.out HFC.out (Or.inr (by rw [HFD.out]; exact HCC.out)), HPP.out, HQQ.out, HCD.out])
          cases c2
          case false =>
            go_wp2_with fail
            go_end0
            refine ⟨rfl, ?_, hc3, ?_⟩
            all_goals rw [← HO.out, HE.out]
            · exact HK3.out
            · exact HSK.out
          case true =>
            have hSW := HK3.out.swap (i := FR) (j := FC) (by have := HSK.out; omega) (by have := HSK.out; omega)
            have hSC := swapW_chg W2 blk off dk[FR]! dk[FC]! FR FC
            rw [HPP.out, HQQ.out] at hSW hSC
            unfold swapW at hSW hSC
            have HSW := Lib.hid hSW; have HSC := Lib.hid hSC; clear hSW hSC
            go_wp2_with fail
            go_region
            go_wp2_with fail
            go_roundw
            case rel => exact ⟨C, swp dk FR FC, by first | rfl | go_num, by omega, by rw [size_swp]; exact HSK.out, HSW.out.drew, (hc3.trans HSC.out).trans (Chg.drew _ _), by rw [← HO.out, HE.out]; rfl⟩
            case measure => simp [intOf]; have := HC.out; omega
        case true =>
          obtain ⟨p1, p3, p5⟩ := HK2.out FR (by have := HSK.out; omega)
          obtain ⟨q1, q3, q5⟩ := HK2.out FD (by have := HSK.out; omega)
          have hbl := HK2.out.lt (by have := HSK.out; omega)
          obtain ⟨pp, hpp⟩ : ∃ p, dk[FR]! = p := ⟨_, rfl⟩
          obtain ⟨qq, hqq⟩ : ∃ p, dk[FD]! = p := ⟨_, rfl⟩
          rw [hpp] at p1 p5
          rw [hqq] at q1 q5
          have HPP := Lib.hid hpp; have HQQ := Lib.hid hqq; clear hpp hqq
          have hcmp := fun w hk => compareL_c pp qq w (Rd.below p5 hk) (Rd.below q5 hk)
          unfold lsV at hcmp
          have HCMP := Lib.hid hcmp; clear hcmp
          go_wp2_with fail
          go_region_held3 (fun w' => (w'.cell? ⟨blk, off + FR, none⟩ = some (.slice pp.adr pp.xs.length pp.cap)) ∧ w'.cell? ⟨blk, off + FD, none⟩ = some (.slice qq.adr qq.xs.length qq.cap)) (exact ⟨by assumption, by assumption⟩)
            (first
              | (go_at_call 75; (with_reducible refine (HCMP.out _ (by with_reducible repeat' (first | exact Below.refl _ _ | apply Below.drew))).mono ?_); rintro e W2 ⟨⟨r, rfl, hr⟩, hw1⟩; have m1 := bcell hw1 hbl p1; have m3 := bcell hw1 hbl q1))
          clear HCMP
          have hb2 : Below (World.heap W1).size W1 W2 := (Below.refl _ _).drew.trans hw1
          have HK3 := Lib.hid (HK2.out.below hb2)
          have hc3 := hc2.trans (Chg.of_below hb2)
          clear hw1 m1 m3 p1 p3 q1 q3 hb2
          obtain ⟨p1, p3, _⟩ := HK3.out FR (by have := HSK.out; omega)
          obtain ⟨q1, q3, _⟩ := HK3.out FD (by have := HSK.out; omega)
          rw [HPP.out] at p1
          rw [HQQ.out] at q1
          have HR3 := Lib.hid hr; clear hr
          generalize hcd : ltP pp qq = c2 at HR3 ⊢
          have HCD := Lib.hid hcd; clear hcd
          have HE := Lib.hid (show Sort.siftDown ltP hi first root dk = if c2 then Sort.siftDown ltP hi first D (swp dk FR FD) else dk from by rw [← HD.out, sift_right HC.out (by rw [HD.out]; exact h2) HFR.out (FD := FD) (by rw [HFC.out]; exact HFD.out) (by rw [HFC.out]; exact HCC.out), HPP.out, HQQ.out, HCD.out])
          cases c2
          case false =>
            go_wp2_with fail
            go_end0
            refine ⟨rfl, ?_, hc3, ?_⟩
            all_goals rw [← HO.out, HE.out]
            · exact HK3.out
            · exact HSK.out
          case true =>
            have hSW := HK3.out.swap (i := FR) (j := FD) (by have := HSK.out; omega) (by have := HSK.out; omega)
            have hSC := swapW_chg W2 blk off dk[FR]! dk[FD]! FR FD
            rw [HPP.out, HQQ.out] at hSW hSC
            unfold swapW at hSW hSC
            have HSW := Lib.hid hSW; have HSC := Lib.hid hSC; clear hSW hSC
            go_wp2_with fail
            go_region
            go_wp2_with fail
            go_roundw
            case rel => exact ⟨D, swp dk FR FD, by first | rfl | go_num, by omega, by rw [size_swp]; exact HSK.out, HSW.out.drew, (hc3.trans HSC.out).trans (Chg.drew _ _), by rw [← HO.out, HE.out]; rfl⟩
            case measure => simp [intOf]; have := HC.out; omega



end LstSort
end Go.Proofs.YtcionneopgdebaaGreat

/-
  The library's heap sort over lists of numbers: the two loops. Printed by gen_sort.py.
-/
namespace Go.Proofs.YtcionneopgdebaaGreat
namespace LstSort
open Go.RowKit
open Go.Sort (SWO swp swp_left swp_right swp_other size_swp insInner insOuter Hint)

theorem heapPop_go {first k : Nat} {d : Array Ls} : Sort.heapPop ltP first (k + 1) d = Sort.heapPop ltP first k (Sort.siftDown ltP k first 0 (swp d first (first + k))) := rfl

set_option maxHeartbeats 3200000 in
set_option maxRecDepth 100000 in
theorem heapSort_c (blk off cap a b : Nat) (d : Array Ls) (w : World) (hH : PH w blk off d) (hab : a ≤ b) (hb : b ≤ d.size) (hsz : d.size < 2305843009213693952) :
    Calls Tryz.prog 110 #[.slice (some ⟨blk, off, none⟩) d.size cap, .int .i64 a, .int .i64 b, cmpV] w (SortsTo w blk off d.size (Sort.heapSort ltP d a b)) := by
  have HP := Lib.hid hH; clear hH
  unfold cmpV
  obtain ⟨L, hL⟩ : ∃ L, b - a = L := ⟨_, rfl⟩
  obtain ⟨M, hM⟩ : ∃ M, (L - 1) / 2 = M := ⟨_, rfl⟩
  have hS : Sort.heapSort ltP d a b = Sort.heapPop ltP a L (Sort.heapBuild ltP L a (M + 1) d) := by subst hL; subst hM; rfl
  rw [hS]
  obtain ⟨D1, hD1⟩ : ∃ D1, Sort.heapBuild ltP L a (M + 1) d = D1 := ⟨_, rfl⟩
  rw [hD1]
  have e0 : (b : Int) - (a : Int) = (L : Int) := by omega
  have e1 : IntKind.i64.wrap (L : Int) = (L : Int) := i64_small (by omega) (by omega)
  have e2 : ((L : Int) - 1).tdiv 2 = (M : Int) := by
    by_cases h : L = 0
    · subst h; subst hM; rfl
    · rw [Int.tdiv_eq_ediv_of_nonneg (by omega)]; omega
  have hML : M ≤ d.size := by omega
  have hLb : a + L ≤ d.size := by omega
  have HM := Lib.hid hM; have HL := Lib.hid hL; have HD1 := Lib.hid hD1; clear hM hL hS hD1
  go_enter Tryz.func110, Tryz.ntmps110
  go_wp2_with fail
  go_loopw [11] (fun v wr => ∃ (k : Nat) (dk : Array Ls), v = .int .i64 ((k : Int) - 1) ∧ k ≤ M + 1 ∧ dk.size = d.size ∧ PH wr blk off dk ∧ Chg blk w wr ∧ Sort.heapBuild ltP L a k dk = D1) (fun v _ => (intOf v + 1).toNat)
  case atStart => exact ⟨M + 1, d, by congr 1; omega, by omega, rfl, HP.out, Chg.refl _ _, HD1.out⟩
  case round =>
    obtain ⟨k, dk, rfl, hkM, hsk, hph, hchg, hO⟩ := hrel
    have HO := Lib.hid hO; clear hO
    have HK := Lib.hid hph; clear hph
    have HSK := Lib.hid hsk; clear hsk
    by_cases hk0 : k = 0
    case neg =>
      obtain ⟨m, hm⟩ : ∃ m, k = m + 1 := ⟨k - 1, by omega⟩
      have e3 : (k : Int) - 1 = (m : Int) := by omega
      have e4 : IntKind.i64.wrap (m : Int) = (m : Int) := i64_small (by omega) (by omega)
      have c := siftDown_c blk off cap m L a dk wr HK.out (by have := HSK.out; omega) (by have := HSK.out; omega) (by have := HSK.out; omega)
      rw [HSK.out] at c
      have CC := Lib.hid c; clear c
      have HM1 := Lib.hid hm; clear hm
      unfold cmpV at CC
      go_wp2_with fail
      refine CC.out.mono ?_
      rintro e w1 ⟨rfl, hp1, hc1, hs1⟩
      have HP1 := Lib.hid hp1; have HS1 := Lib.hid hs1; clear hp1 hs1
      go_wp2_with fail
      go_roundw
      case rel => exact ⟨m, _, by first | rfl | go_num, by have := HM1.out; omega, HS1.out, HP1.out, hchg.trans hc1, by rw [← HO.out, HM1.out]; rfl⟩
      case measure => simp [intOf]; have := HM1.out; omega
    case pos =>
      subst hk0
      obtain rfl : dk = D1 := HO.out
      clear HO
      go_wp2_with fail
      go_loopw [12] (fun v wq => ∃ (k : Nat) (dq : Array Ls), v = .int .i64 ((k : Int) - 1) ∧ k ≤ L ∧ dq.size = d.size ∧ PH wq blk off dq ∧ Chg blk w wq ∧ Sort.heapPop ltP a k dq = Sort.heapPop ltP a L dk) (fun v _ => (intOf v + 1).toNat)
      case atStart => exact ⟨L, dk, rfl, Nat.le_refl _, HSK.out, HK.out, hchg, rfl⟩
      case round =>
        obtain ⟨k, dq, rfl, hkL, hsq, hph2, hchg2, hO⟩ := hrel
        have HO := Lib.hid hO; clear hO
        have HQ := Lib.hid hph2; clear hph2
        have HSQ := Lib.hid hsq; clear hsq
        by_cases hk0 : k = 0
        case pos =>
          subst hk0
          go_wp2_with fail
          go_end0
          refine ⟨rfl, ?_, hchg2, ?_⟩
          all_goals rw [← HO.out]
          · exact HQ.out
          · exact HSQ.out
        case neg =>
          obtain ⟨m, hm⟩ : ∃ m, k = m + 1 := ⟨k - 1, by omega⟩
          have e3 : (k : Int) - 1 = (m : Int) := by omega
          have e4 : IntKind.i64.wrap (m : Int) = (m : Int) := i64_small (by omega) (by omega)
          obtain ⟨AM, hAM⟩ : ∃ AM, a + m = AM := ⟨_, rfl⟩
          have e5 : (a : Int) + (m : Int) = (AM : Int) := by omega
          have e6 : IntKind.i64.wrap (AM : Int) = (AM : Int) := i64_small (by omega) (by omega)
          have x1 : (0 : Int) ≤ (a : Int) := by omega
          have x2 : (a : Int) < (d.size : Int) := by omega
          have x3 : (0 : Int) ≤ (AM : Int) := by omega
          have x4 : (AM : Int) < (d.size : Int) := by omega
          have HAM := Lib.hid hAM; have HM1 := Lib.hid hm; clear hAM hm
          go_upto_region 10 with fail
          go_cut [] from 36 to 36 (fun wc => PH wc blk off (swp dq a AM) ∧ Chg blk w wc)
          case first =>
            obtain ⟨p1, p3, _⟩ := HQ.out a (by have := HSQ.out; omega)
            obtain ⟨q1, q3, _⟩ := HQ.out AM (by have := HSQ.out; omega)
            obtain ⟨pp, hpp⟩ : ∃ p, dq[a]! = p := ⟨_, rfl⟩
            obtain ⟨qq, hqq⟩ : ∃ p, dq[AM]! = p := ⟨_, rfl⟩
            rw [hpp] at p1
            rw [hqq] at q1
            have HPP := Lib.hid hpp; have HQQ := Lib.hid hqq; clear hpp hqq
            have x1 : (0 : Int) ≤ (a : Int) := by omega
            have x2 : (a : Int) < (d.size : Int) := by omega
            have x3 : (0 : Int) ≤ (AM : Int) := by omega
            have x4 : (AM : Int) < (d.size : Int) := by omega
            by_cases hij : a = AM
            case pos =>
              obtain rfl : pp = qq := HPP.out.symm.trans ((congrArg (fun x => dq[x]!) hij).trans HQQ.out)
              subst hij
              clear HQQ
              have hSW := HQ.out.swap (i := a) (j := a) (by have := HSQ.out; omega) (by have := HSQ.out; omega)
              have hSC := swapW_chg wr blk off dq[a]! dq[a]! a a
              rw [HPP.out] at hSW hSC
              unfold swapW at hSW hSC
              have HSW := Lib.hid hSW; have HSC := Lib.hid hSC; clear hSW hSC
              go_wp2_with fail
              go_region
              go_wp2_with fail
              go_meet
              exact ⟨HSW.out.drew, (hchg2.trans HSC.out).trans (Chg.drew _ _)⟩
            case neg =>
              have hSW := HQ.out.swap (i := a) (j := AM) (by have := HSQ.out; omega) (by have := HSQ.out; omega)
              have hSC := swapW_chg wr blk off dq[a]! dq[AM]! a AM
              rw [HPP.out, HQQ.out] at hSW hSC
              unfold swapW at hSW hSC
              have HSW := Lib.hid hSW; have HSC := Lib.hid hSC; clear hSW hSC
              go_wp2_with fail
              go_region
              go_wp2_with fail
              go_meet
              exact ⟨HSW.out.drew, (hchg2.trans HSC.out).trans (Chg.drew _ _)⟩
          case rest =>
            obtain ⟨hph5, hchg5⟩ := hcut
            obtain ⟨w5, rfl⟩ : ∃ x : World, x = wc := ⟨_, rfl⟩
            have hs5 : (swp dq a AM).size = d.size := (size_swp _ _ _).trans HSQ.out
            obtain ⟨D5, hD2⟩ : ∃ D2, swp dq a AM = D2 := ⟨_, rfl⟩
            rw [hD2] at hph5 hs5
            have HK5 := Lib.hid hph5; have HS5 := Lib.hid hs5; have HD5 := Lib.hid hD2; clear hph5 hs5 hD2
            have c := siftDown_c blk off cap 0 m a D5 w5 HK5.out (by omega) (by have := HS5.out; have := HAM.out; omega) (by have := HS5.out; omega)
            rw [HS5.out] at c
            have z0 : ((0 : Nat) : Int) = 0 := rfl
            rw [z0] at c
            have CC := Lib.hid c; clear c
            unfold cmpV at CC
            go_wp2_with fail
            refine CC.out.mono ?_
            rintro e w1 ⟨rfl, hp1, hc1, hs1⟩
            have HP1 := Lib.hid hp1; have HS1 := Lib.hid hs1; clear hp1 hs1
            go_wp2_with fail
            go_roundw
            case rel => first | exact ⟨m, _, by first | rfl | go_num, by have := HM1.out; omega, HS1.out, HP1.out, hchg5.trans hc1, by rw [← HO.out, HM1.out, heapPop_go, HAM.out, HD5.out]⟩ | ((repeat apply Exists.intro); exact ⟨⟨m, _, by first | rfl | go_num, by have := HM1.out; omega, HS1.out, HP1.out, hchg5.trans hc1, by rw [← HO.out, HM1.out, heapPop_go, HAM.out, HD5.out]⟩, rfl⟩)
            case measure => simp [intOf]; have := HM1.out; omega



end LstSort
end Go.Proofs.YtcionneopgdebaaGreat

/-
  What the scans, the partitions and the shifts of the library's sort compute, round for round. Printed by gen_sort.py.
-/
namespace Go.Proofs.YtcionneopgdebaaGreat
namespace LstSort
open Go.RowKit
open Go.Sort (SWO swp swp_left swp_right swp_other size_swp insInner insOuter Hint)

theorem scanUp_stop {p : Ls → Bool} {d : Array Ls} {i j : Nat} (h : (decide (i ≤ j) && p d[i]!) = false) : Sort.scanUp p d j i = i := by rw [Sort.scanUp, h]; rfl
theorem scanUp_go {p : Ls → Bool} {d : Array Ls} {i j : Nat} (h : (decide (i ≤ j) && p d[i]!) = true) : Sort.scanUp p d j i = Sort.scanUp p d j (i + 1) := by rw [Sort.scanUp, h]; rfl
theorem scanDown_stop {p : Ls → Bool} {d : Array Ls} {i j : Nat} (h : (decide (i ≤ j) && p d[j]!) = false) : Sort.scanDown p d i j = j := by
  cases j with
  | zero => rw [Sort.scanDown]
  | succ k => rw [Sort.scanDown, h]; rfl
theorem scanDown_go {p : Ls → Bool} {d : Array Ls} {i j k : Nat} (hk : j = k + 1) (h : (decide (i ≤ j) && p d[j]!) = true) : Sort.scanDown p d i j = Sort.scanDown p d i k := by subst hk; rw [Sort.scanDown, h]; rfl
theorem partLoop_stop {a i j i2 j2 : Nat} {d : Array Ls} (h1 : Sort.scanUp (fun x => ltP x d[a]!) d j i = i2) (h2 : Sort.scanDown (fun x => !ltP x d[a]!) d i2 j = j2) (h : j2 < i2) : Sort.partLoop ltP a i j d = (j2, d) := by
  rw [Sort.partLoop]
  simp only [h1, h2]
  rw [if_pos h]
theorem partLoop_go {a i j i2 j2 : Nat} {d : Array Ls} (h1 : Sort.scanUp (fun x => ltP x d[a]!) d j i = i2) (h2 : Sort.scanDown (fun x => !ltP x d[a]!) d i2 j = j2) (h : ¬ j2 < i2) (hi : i ≤ i2) (hj : j2 ≤ j) : Sort.partLoop ltP a i j d = Sort.partLoop ltP a (i2 + 1) (j2 - 1) (swp d i2 j2) := by
  rw [Sort.partLoop]
  simp only [h1, h2]
  rw [if_neg h, dif_pos (by omega)]
theorem partEqLoop_stop {a i j i2 j2 : Nat} {d : Array Ls} (h1 : Sort.scanUp (fun x => !ltP d[a]! x) d j i = i2) (h2 : Sort.scanDown (fun x => ltP d[a]! x) d i2 j = j2) (h : j2 < i2) : Sort.partEqLoop ltP a i j d = (i2, d) := by
  rw [Sort.partEqLoop]
  simp only [h1, h2]
  rw [if_pos h]
theorem partEqLoop_go {a i j i2 j2 : Nat} {d : Array Ls} (h1 : Sort.scanUp (fun x => !ltP d[a]! x) d j i = i2) (h2 : Sort.scanDown (fun x => ltP d[a]! x) d i2 j = j2) (h : ¬ j2 < i2) (hi : i ≤ i2) (hj : j2 ≤ j) : Sort.partEqLoop ltP a i j d = Sort.partEqLoop ltP a (i2 + 1) (j2 - 1) (swp d i2 j2) := by
  rw [Sort.partEqLoop]
  simp only [h1, h2]
  rw [if_neg h, dif_pos (by omega)]
theorem partition_early {d d0 : Array Ls} {a b pivot i2 j2 : Nat} (h0 : swp d a pivot = d0) (h1 : Sort.scanUp (fun x => ltP x d0[a]!) d0 (b - 1) (a + 1) = i2) (h2 : Sort.scanDown (fun x => !ltP x d0[a]!) d0 i2 (b - 1) = j2) (h : j2 < i2) : Sort.partition ltP d a b pivot = (j2, true, swp d0 j2 a) := by
  unfold Sort.partition
  simp only [h0, h1, h2]
  rw [if_pos h]
theorem partition_late {d d0 : Array Ls} {a b pivot i2 j2 : Nat} {r : Nat × Array Ls} (h0 : swp d a pivot = d0) (h1 : Sort.scanUp (fun x => ltP x d0[a]!) d0 (b - 1) (a + 1) = i2) (h2 : Sort.scanDown (fun x => !ltP x d0[a]!) d0 i2 (b - 1) = j2) (h : ¬ j2 < i2) (hr : Sort.partLoop ltP a (i2 + 1) (j2 - 1) (swp d0 i2 j2) = r) : Sort.partition ltP d a b pivot = (r.1, false, swp r.2 r.1 a) := by
  unfold Sort.partition
  simp only [h0, h1, h2]
  rw [if_neg h, hr]

/-- What a partition does: the new pivot, whether all was in place, the row. -/
def PartsTo (w : World) (blk off n : Nat) (R : Nat × Bool × Array Ls) (e : Ending) (w' : World) : Prop := e = .returned (.tuple #[.int .i64 R.1, .bool R.2.1]) ∧ PH w' blk off R.2.2 ∧ Chg blk w w' ∧ R.2.2.size = n
def PartEqTo (w : World) (blk off n : Nat) (R : Nat × Array Ls) (e : Ending) (w' : World) : Prop := e = .returned (.int .i64 R.1) ∧ PH w' blk off R.2 ∧ Chg blk w w' ∧ R.2.size = n


theorem scanSorted_stop {d : Array Ls} {i b : Nat} (h : (decide (i < b) && !ltP d[i]! d[i - 1]!) = false) : Sort.scanSorted ltP d b i = i := by rw [Sort.scanSorted, h]; rfl
theorem scanSorted_go {d : Array Ls} {i b : Nat} (h : (decide (i < b) && !ltP d[i]! d[i - 1]!) = true) : Sort.scanSorted ltP d b i = Sort.scanSorted ltP d b (i + 1) := by rw [Sort.scanSorted, h]; rfl
theorem shiftDown_stop {d : Array Ls} {j k : Nat} (hk : j = k + 1) (h : ltP d[j]! d[k]! = false) : Sort.shiftDown ltP j d = d := by subst hk; rw [Sort.shiftDown, h]; rfl
theorem shiftDown_go {d : Array Ls} {j k : Nat} (hk : j = k + 1) (h : ltP d[j]! d[k]! = true) : Sort.shiftDown ltP j d = Sort.shiftDown ltP k (swp d j k) := by subst hk; rw [Sort.shiftDown, h]; rfl
theorem shiftUp_stop {d : Array Ls} {b j k : Nat} (hk : j = k + 1) (hj : j < b) (h : ltP d[j]! d[k]! = false) : Sort.shiftUp ltP b j d = d := by subst hk; rw [Sort.shiftUp, if_pos hj, Nat.add_sub_cancel, h]; rfl
theorem shiftUp_end {d : Array Ls} {b j : Nat} (hj : ¬ j < b) : Sort.shiftUp ltP b j d = d := by rw [Sort.shiftUp, if_neg hj]
theorem shiftUp_go {d : Array Ls} {b j k : Nat} (hk : j = k + 1) (hj : j < b) (h : ltP d[j]! d[k]! = true) : Sort.shiftUp ltP b j d = Sort.shiftUp ltP b (j + 1) (swp d j k) := by subst hk; rw [Sort.shiftUp, if_pos hj, Nat.add_sub_cancel, h]; rfl
theorem partialIns_done {a b s i i2 : Nat} {d : Array Ls} (h1 : Sort.scanSorted ltP d b i = i2) (h : i2 = b) : Sort.partialIns ltP a b (s + 1) i d = (d, true) := by rw [Sort.partialIns_succ, h1, if_pos h]
theorem partialIns_short {a b s i i2 : Nat} {d : Array Ls} (h1 : Sort.scanSorted ltP d b i = i2) (h : ¬ i2 = b) (h50 : b - a < 50) : Sort.partialIns ltP a b (s + 1) i d = (d, false) := by rw [Sort.partialIns_succ, h1, if_neg h, if_pos h50]
theorem partialIns_go {a b s i i2 k : Nat} {d D1 D2 D3 : Array Ls} (h1 : Sort.scanSorted ltP d b i = i2) (h : ¬ i2 = b) (h50 : ¬ b - a < 50) (hk : i2 = k + 1) (e1 : swp d i2 k = D1) (e2 : Sort.fixDown ltP a i2 D1 = D2) (e3 : Sort.fixUp ltP b i2 D2 = D3) :
    Sort.partialIns ltP a b (s + 1) i d = Sort.partialIns ltP a b s i2 D3 := by
  subst hk
  rw [Sort.partialIns_succ, h1, if_neg h, if_neg h50, Nat.add_sub_cancel, e1, e2, e3]

def ParTo (w : World) (blk off n : Nat) (R : Array Ls × Bool) (e : Ending) (w' : World) : Prop := e = .returned (.bool R.2) ∧ PH w' blk off R.1 ∧ Chg blk w w' ∧ R.1.size = n


end LstSort
end Go.Proofs.YtcionneopgdebaaGreat

/-
  The library's partition over lists of numbers. Printed by gen_sort.py.
-/
namespace Go.Proofs.YtcionneopgdebaaGreat
namespace LstSort
open Go.RowKit
open Go.Sort (SWO swp swp_left swp_right swp_other size_swp insInner insOuter Hint)

set_option maxHeartbeats 3200000 in
set_option maxRecDepth 100000 in
theorem partition_c (blk off cap a b pivot : Nat) (d : Array Ls) (w : World) (hH : PH w blk off d) (hap : a ≤ pivot) (hpb : pivot < b) (hb : b ≤ d.size) (hsz : d.size < 2305843009213693952) :
    Calls Tryz.prog 116 #[.slice (some ⟨blk, off, none⟩) d.size cap, .int .i64 a, .int .i64 b, .int .i64 pivot, cmpV] w (PartsTo w blk off d.size (Sort.partition ltP d a b pivot)) := by
  have HP := Lib.hid hH; clear hH
  unfold cmpV
  obtain ⟨b1, hb1⟩ : ∃ b1, b = b1 + 1 := ⟨b - 1, by omega⟩
  have e0 : (b : Int) - 1 = (b1 : Int) := by omega
  have hbb : b1 < b ∧ b ≤ b1 + 1 := by omega
  obtain ⟨A1, hA1⟩ : ∃ A1, a + 1 = A1 := ⟨_, rfl⟩
  have e1 : (a : Int) + 1 = (A1 : Int) := by omega
  have haa : a < A1 ∧ A1 ≤ b := by omega
  have ew1 : IntKind.i64.wrap (A1 : Int) = (A1 : Int) := i64_small (by omega) (by omega)
  have ew2 : IntKind.i64.wrap (b1 : Int) = (b1 : Int) := i64_small (by omega) (by omega)
  have HB1 := Lib.hid (show b - 1 = b1 by omega); have HA1 := Lib.hid hA1; clear hb1 hA1
  obtain ⟨R, hR⟩ : ∃ R, Sort.partition ltP d a b pivot = R := ⟨_, rfl⟩
  rw [hR]
  have HR := Lib.hid hR; clear hR
  go_enter Tryz.func116, Tryz.ntmps116
  go_wp2_with fail
  go_upto_region 1 with fail
  go_cut [] from 14 to 14 (fun wc => PH wc blk off (swp d a pivot) ∧ Chg blk w wc)
  case first =>
    obtain ⟨p1, p3, _⟩ := HP.out a (by have := (Lib.hid (Eq.refl d.size)).out; omega)
    obtain ⟨q1, q3, _⟩ := HP.out pivot (by have := (Lib.hid (Eq.refl d.size)).out; omega)
    obtain ⟨pp, hpp⟩ : ∃ p, d[a]! = p := ⟨_, rfl⟩
    obtain ⟨qq, hqq⟩ : ∃ p, d[pivot]! = p := ⟨_, rfl⟩
    rw [hpp] at p1
    rw [hqq] at q1
    have HPP := Lib.hid hpp; have HQQ := Lib.hid hqq; clear hpp hqq
    have x1 : (0 : Int) ≤ (a : Int) := by omega
    have x2 : (a : Int) < (d.size : Int) := by omega
    have x3 : (0 : Int) ≤ (pivot : Int) := by omega
    have x4 : (pivot : Int) < (d.size : Int) := by omega
    by_cases hij : a = pivot
    case pos =>
      obtain rfl : pp = qq := HPP.out.symm.trans ((congrArg (fun x => d[x]!) hij).trans HQQ.out)
      subst hij
      clear HQQ
      have hSW := HP.out.swap (i := a) (j := a) (by have := (Lib.hid (Eq.refl d.size)).out; omega) (by have := (Lib.hid (Eq.refl d.size)).out; omega)
      have hSC := swapW_chg w blk off d[a]! d[a]! a a
      rw [HPP.out] at hSW hSC
      unfold swapW at hSW hSC
      have HSW := Lib.hid hSW; have HSC := Lib.hid hSC; clear hSW hSC
      go_wp2_with fail
      go_region
      go_wp2_with fail
      go_meet
      exact ⟨HSW.out.drew, ((Chg.refl blk w).trans HSC.out).trans (Chg.drew _ _)⟩
    case neg =>
      have hSW := HP.out.swap (i := a) (j := pivot) (by have := (Lib.hid (Eq.refl d.size)).out; omega) (by have := (Lib.hid (Eq.refl d.size)).out; omega)
      have hSC := swapW_chg w blk off d[a]! d[pivot]! a pivot
      rw [HPP.out, HQQ.out] at hSW hSC
      unfold swapW at hSW hSC
      have HSW := Lib.hid hSW; have HSC := Lib.hid hSC; clear hSW hSC
      go_wp2_with fail
      go_region
      go_wp2_with fail
      go_meet
      exact ⟨HSW.out.drew, ((Chg.refl blk w).trans HSC.out).trans (Chg.drew _ _)⟩
  case rest =>
    obtain ⟨hph0, hchg0⟩ := hcut
    obtain ⟨w0, rfl⟩ : ∃ x : World, x = wc := ⟨_, rfl⟩
    have hs0 : (swp d a pivot).size = d.size := (size_swp _ _ _).trans (Lib.hid (Eq.refl d.size)).out
    obtain ⟨D0, hD2⟩ : ∃ D2, swp d a pivot = D2 := ⟨_, rfl⟩
    rw [hD2] at hph0 hs0
    have HK0 := Lib.hid hph0; have HS0 := Lib.hid hs0; have HD0 := Lib.hid hD2; clear hph0 hs0 hD2
    obtain ⟨IU, hIU⟩ : ∃ x, Sort.scanUp (fun x => ltP x D0[a]!) D0 b1 A1 = x := ⟨_, rfl⟩
    have HIU := Lib.hid hIU; clear hIU
    go_wp2_with fail
    go_loopw [12] (fun v wA => ∃ iwA : Nat, v = .int .i64 iwA ∧ A1 ≤ iwA ∧ iwA ≤ b ∧ PH wA blk off D0 ∧ Chg blk w wA ∧ Sort.scanUp (fun x => ltP x D0[a]!) D0 b1 iwA = IU) (fun v _ => b + 1 - (intOf v).toNat)
    case atStart => exact ⟨A1, by first | rfl | go_num, by omega, by omega, HK0.out, hchg0, HIU.out⟩
    case round =>
      obtain ⟨wA, rfl⟩ : ∃ x : World, x = wr := ⟨_, rfl⟩
      obtain ⟨iwA, rfl, hlowA, hhiwA, hphwA, hchgwA, hOwA⟩ := hrel
      have HOwA := Lib.hid hOwA; clear hOwA
      have HKwA := Lib.hid hphwA; clear hphwA
      obtain ⟨c, hc⟩ : ∃ c, (decide (iwA ≤ b1) && ltP D0[iwA]! D0[a]!) = c := ⟨_, rfl⟩
      have HCC := Lib.hid hc; clear hc
      go_upto_region 3 with fail
      go_cut [47] from 32 to 47 (fun s wc => s = .bool c ∧ Below (World.heap wA).size wA wc)
      case first =>
        by_cases hle : iwA ≤ b1
        case neg =>
          go_wp2_with fail
          go_quiet (fail)
          go_wp2_with fail
          go_meet
          exact ⟨by rw [← HCC.out, decide_eq_false hle, Bool.false_and], bdrewN (Below.refl _ _) nq⟩
        case pos =>
          have x1 : (0 : Int) ≤ (iwA : Int) := by omega
          have x2 : (iwA : Int) < (d.size : Int) := by omega
          have x3 : (0 : Int) ≤ (a : Int) := by omega
          have x4 : (a : Int) < (d.size : Int) := by omega
          have hbl := HKwA.out.lt (by have := HS0.out; omega)
          obtain ⟨p1, p3, p5⟩ := HKwA.out iwA (by have := HS0.out; omega)
          obtain ⟨q1, q3, q5⟩ := HKwA.out a (by have := HS0.out; omega)
          obtain ⟨pp, hpp⟩ : ∃ p, D0[iwA]! = p := ⟨_, rfl⟩
          obtain ⟨qq, hqq⟩ : ∃ p, D0[a]! = p := ⟨_, rfl⟩
          rw [hpp] at p1 p5
          rw [hqq] at q1 q5
          have HPP := Lib.hid hpp; have HQQ := Lib.hid hqq; clear hpp hqq
          have hcmp := fun w hk => compareL_c pp qq w (Rd.below p5 hk) (Rd.below q5 hk)
          unfold lsV at hcmp
          have HCMP := Lib.hid hcmp; clear hcmp
          go_wp2_with fail
          go_region_held3 (fun w' => (w'.cell? ⟨blk, off + iwA, none⟩ = some (.slice pp.adr pp.xs.length pp.cap)) ∧ w'.cell? ⟨blk, off + a, none⟩ = some (.slice qq.adr qq.xs.length qq.cap)) (exact ⟨by assumption, by assumption⟩)
            (first
              | (go_at_call 75; (with_reducible refine (HCMP.out _ (by with_reducible repeat' (first | exact Below.refl _ _ | apply Below.drew))).mono ?_); rintro e W1 ⟨⟨r, rfl, hr⟩, hw1⟩; have m1 := bcell hw1 hbl p1; have m3 := bcell hw1 hbl q1))
          clear HCMP
          go_wp2_with fail
          go_meet
          exact ⟨by rw [← HCC.out, decide_eq_true hle, Bool.true_and, HPP.out, HQQ.out], (Below.refl _ _).drew.trans hw1⟩
      case rest =>
        obtain ⟨rfl, hbc⟩ := hcut
        obtain ⟨wB, rfl⟩ : ∃ x : World, x = wc := ⟨_, rfl⟩
        have HKwB := Lib.hid (HKwA.out.below hbc)
        have hchgwB := hchgwA.trans (Chg.of_below hbc)
        clear hbc
        cases c
        case true =>
          have hle : iwA ≤ b1 := by have := (Bool.and_eq_true_iff.1 HCC.out).1; simpa using this
          go_wp2_with fail
          go_roundw
          case rel => first | exact ⟨iwA + 1, by go_num, by omega, by omega, HKwB.out, hchgwB, by rw [← scanUp_go HCC.out]; exact HOwA.out⟩ | ((repeat apply Exists.intro); exact ⟨⟨iwA + 1, by go_num, by omega, by omega, HKwB.out, hchgwB, by rw [← scanUp_go HCC.out]; exact HOwA.out⟩, rfl⟩)
          case measure => simp [intOf]; omega
        case false =>
          have hX : iwA = IU := by rw [← HOwA.out, scanUp_stop HCC.out]
          clear HCC
          subst hX
          go_wp2_with fail
          obtain ⟨JD, hJD⟩ : ∃ x, Sort.scanDown (fun x => !ltP x D0[a]!) D0 iwA b1 = x := ⟨_, rfl⟩
          have HJD := Lib.hid hJD; clear hJD
          go_loopw [13] (fun v wC => ∃ jwC : Nat, v = .int .i64 jwC ∧ a ≤ jwC ∧ jwC ≤ b1 ∧ PH wC blk off D0 ∧ Chg blk w wC ∧ Sort.scanDown (fun x => !ltP x D0[a]!) D0 iwA jwC = JD) (fun v _ => (intOf v).toNat)
          case atStart => exact ⟨b1, by first | rfl | go_num, by omega, by omega, HKwB.out, hchgwB, HJD.out⟩
          case round =>
            obtain ⟨wC, rfl⟩ : ∃ x : World, x = wr := ⟨_, rfl⟩
            obtain ⟨jwC, rfl, hlowC, hhiwC, hphwC, hchgwC, hOwC⟩ := hrel
            have HOwC := Lib.hid hOwC; clear hOwC
            have HKwC := Lib.hid hphwC; clear hphwC
            obtain ⟨c, hc⟩ : ∃ c, (decide (iwA ≤ jwC) && !ltP D0[jwC]! D0[a]!) = c := ⟨_, rfl⟩
            have HCC := Lib.hid hc; clear hc
            go_upto_region 5 with fail
            go_cut [66] from 50 to 66 (fun s wc => s = .bool c ∧ Below (World.heap wC).size wC wc)
            case first =>
              by_cases hle : iwA ≤ jwC
              case neg =>
                go_wp2_with fail
                go_quiet (fail)
                go_wp2_with fail
                go_meet
                exact ⟨by rw [← HCC.out, decide_eq_false hle, Bool.false_and], bdrewN (Below.refl _ _) nq⟩
              case pos =>
                have x1 : (0 : Int) ≤ (jwC : Int) := by omega
                have x2 : (jwC : Int) < (d.size : Int) := by omega
                have x3 : (0 : Int) ≤ (a : Int) := by omega
                have x4 : (a : Int) < (d.size : Int) := by omega
                have hbl := HKwC.out.lt (by have := HS0.out; omega)
                obtain ⟨p1, p3, p5⟩ := HKwC.out jwC (by have := HS0.out; omega)
                obtain ⟨q1, q3, q5⟩ := HKwC.out a (by have := HS0.out; omega)
                obtain ⟨pp, hpp⟩ : ∃ p, D0[jwC]! = p := ⟨_, rfl⟩
                obtain ⟨qq, hqq⟩ : ∃ p, D0[a]! = p := ⟨_, rfl⟩
                rw [hpp] at p1 p5
                rw [hqq] at q1 q5
                have HPP := Lib.hid hpp; have HQQ := Lib.hid hqq; clear hpp hqq
                have hcmp := fun w hk => compareL_c pp qq w (Rd.below p5 hk) (Rd.below q5 hk)
                unfold lsV at hcmp
                have HCMP := Lib.hid hcmp; clear hcmp
                go_wp2_with fail
                go_region_held3 (fun w' => (w'.cell? ⟨blk, off + jwC, none⟩ = some (.slice pp.adr pp.xs.length pp.cap)) ∧ w'.cell? ⟨blk, off + a, none⟩ = some (.slice qq.adr qq.xs.length qq.cap)) (exact ⟨by assumption, by assumption⟩)
                  (first
                    | (go_at_call 75; (with_reducible refine (HCMP.out _ (by with_reducible repeat' (first | exact Below.refl _ _ | apply Below.drew))).mono ?_); rintro e W1 ⟨⟨r, rfl, hr⟩, hw1⟩; have m1 := bcell hw1 hbl p1; have m3 := bcell hw1 hbl q1))
                clear HCMP
                go_wp2_with fail
                go_meet
                exact ⟨by rw [← HCC.out, decide_eq_true hle, Bool.true_and, HPP.out, HQQ.out], (Below.refl _ _).drew.trans hw1⟩
            case rest =>
              obtain ⟨rfl, hbc⟩ := hcut
              obtain ⟨wD, rfl⟩ : ∃ x : World, x = wc := ⟨_, rfl⟩
              have HKwD := Lib.hid (HKwC.out.below hbc)
              have hchgwD := hchgwC.trans (Chg.of_below hbc)
              clear hbc
              cases c
              case true =>
                have hle : iwA ≤ jwC := by have := (Bool.and_eq_true_iff.1 HCC.out).1; simpa using this
                obtain ⟨kk, hkk⟩ : ∃ kk, jwC = kk + 1 := ⟨jwC - 1, by omega⟩
                have e9 : (jwC : Int) - 1 = (kk : Int) := by omega
                have HKK := Lib.hid hkk; clear hkk
                go_wp2_with fail
                go_roundw
                case rel => first | exact ⟨kk, by first | rfl | go_num, by have := HKK.out; omega, by have := HKK.out; omega, HKwD.out, hchgwD, by rw [← scanDown_go HKK.out HCC.out]; exact HOwC.out⟩ | ((repeat apply Exists.intro); exact ⟨⟨kk, by first | rfl | go_num, by have := HKK.out; omega, by have := HKK.out; omega, HKwD.out, hchgwD, by rw [← scanDown_go HKK.out HCC.out]; exact HOwC.out⟩, rfl⟩)
                case measure => simp [intOf]; have := HKK.out; omega
              case false =>
                have hX : jwC = JD := by rw [← HOwC.out, scanDown_stop HCC.out]
                clear HCC
                subst hX
                by_cases hgt : jwC < iwA
                case pos =>
                  go_upto_region 8 with fail
                  go_cut [] from 72 to 72 (fun wc => PH wc blk off (swp D0 jwC a) ∧ Chg blk w wc)
                  case first =>
                    obtain ⟨p1, p3, _⟩ := HKwD.out jwC (by have := HS0.out; omega)
                    obtain ⟨q1, q3, _⟩ := HKwD.out a (by have := HS0.out; omega)
                    obtain ⟨pp, hpp⟩ : ∃ p, D0[jwC]! = p := ⟨_, rfl⟩
                    obtain ⟨qq, hqq⟩ : ∃ p, D0[a]! = p := ⟨_, rfl⟩
                    rw [hpp] at p1
                    rw [hqq] at q1
                    have HPP := Lib.hid hpp; have HQQ := Lib.hid hqq; clear hpp hqq
                    have x1 : (0 : Int) ≤ (jwC : Int) := by omega
                    have x2 : (jwC : Int) < (d.size : Int) := by omega
                    have x3 : (0 : Int) ≤ (a : Int) := by omega
                    have x4 : (a : Int) < (d.size : Int) := by omega
                    by_cases hij : jwC = a
                    case pos =>
                      obtain rfl : pp = qq := HPP.out.symm.trans ((congrArg (fun x => D0[x]!) hij).trans HQQ.out)
                      subst hij
                      clear HQQ
                      have hSW := HKwD.out.swap (i := jwC) (j := jwC) (by have := HS0.out; omega) (by have := HS0.out; omega)
                      have hSC := swapW_chg wD blk off D0[jwC]! D0[jwC]! jwC jwC
                      rw [HPP.out] at hSW hSC
                      unfold swapW at hSW hSC
                      have HSW := Lib.hid hSW; have HSC := Lib.hid hSC; clear hSW hSC
                      go_wp2_with fail
                      go_region
                      go_wp2_with fail
                      go_meet
                      exact ⟨HSW.out.drew, (hchgwD.trans HSC.out).trans (Chg.drew _ _)⟩
                    case neg =>
                      have hSW := HKwD.out.swap (i := jwC) (j := a) (by have := HS0.out; omega) (by have := HS0.out; omega)
                      have hSC := swapW_chg wD blk off D0[jwC]! D0[a]! jwC a
                      rw [HPP.out, HQQ.out] at hSW hSC
                      unfold swapW at hSW hSC
                      have HSW := Lib.hid hSW; have HSC := Lib.hid hSC; clear hSW hSC
                      go_wp2_with fail
                      go_region
                      go_wp2_with fail
                      go_meet
                      exact ⟨HSW.out.drew, (hchgwD.trans HSC.out).trans (Chg.drew _ _)⟩
                  case rest =>
                    obtain ⟨hph6, hchg6⟩ := hcut
                    obtain ⟨w6, rfl⟩ : ∃ x : World, x = wc := ⟨_, rfl⟩
                    have hs6 : (swp D0 jwC a).size = d.size := (size_swp _ _ _).trans HS0.out
                    obtain ⟨D6, hD2⟩ : ∃ D2, swp D0 jwC a = D2 := ⟨_, rfl⟩
                    rw [hD2] at hph6 hs6
                    have HK6 := Lib.hid hph6; have HS6 := Lib.hid hs6; have HD6 := Lib.hid hD2; clear hph6 hs6 hD2
                    have hR2 : R = (jwC, true, D6) := by rw [← HR.out]; exact (partition_early HD0.out (by rw [HB1.out, HA1.out]; exact HIU.out) (by rw [HB1.out]; exact HJD.out) hgt).trans (by rw [HD6.out])
                    obtain rfl := hR2
                    go_wp2_with fail
                    go_ret2
                    exact ⟨rfl, HK6.out, hchg6, HS6.out⟩
                case neg =>
                  go_upto_region 10 with fail
                  go_cut [] from 87 to 87 (fun wc => PH wc blk off (swp D0 iwA jwC) ∧ Chg blk w wc)
                  case first =>
                    obtain ⟨p1, p3, _⟩ := HKwD.out iwA (by have := HS0.out; omega)
                    obtain ⟨q1, q3, _⟩ := HKwD.out jwC (by have := HS0.out; omega)
                    obtain ⟨pp, hpp⟩ : ∃ p, D0[iwA]! = p := ⟨_, rfl⟩
                    obtain ⟨qq, hqq⟩ : ∃ p, D0[jwC]! = p := ⟨_, rfl⟩
                    rw [hpp] at p1
                    rw [hqq] at q1
                    have HPP := Lib.hid hpp; have HQQ := Lib.hid hqq; clear hpp hqq
                    have x1 : (0 : Int) ≤ (iwA : Int) := by omega
                    have x2 : (iwA : Int) < (d.size : Int) := by omega
                    have x3 : (0 : Int) ≤ (jwC : Int) := by omega
                    have x4 : (jwC : Int) < (d.size : Int) := by omega
                    by_cases hij : iwA = jwC
                    case pos =>
                      obtain rfl : pp = qq := HPP.out.symm.trans ((congrArg (fun x => D0[x]!) hij).trans HQQ.out)
                      subst hij
                      clear HQQ
                      have hSW := HKwD.out.swap (i := iwA) (j := iwA) (by have := HS0.out; omega) (by have := HS0.out; omega)
                      have hSC := swapW_chg wD blk off D0[iwA]! D0[iwA]! iwA iwA
                      rw [HPP.out] at hSW hSC
                      unfold swapW at hSW hSC
                      have HSW := Lib.hid hSW; have HSC := Lib.hid hSC; clear hSW hSC
                      go_wp2_with fail
                      go_region
                      go_wp2_with fail
                      go_meet
                      exact ⟨HSW.out.drew, (hchgwD.trans HSC.out).trans (Chg.drew _ _)⟩
                    case neg =>
                      have hSW := HKwD.out.swap (i := iwA) (j := jwC) (by have := HS0.out; omega) (by have := HS0.out; omega)
                      have hSC := swapW_chg wD blk off D0[iwA]! D0[jwC]! iwA jwC
                      rw [HPP.out, HQQ.out] at hSW hSC
                      unfold swapW at hSW hSC
                      have HSW := Lib.hid hSW; have HSC := Lib.hid hSC; clear hSW hSC
                      go_wp2_with fail
                      go_region
                      go_wp2_with fail
                      go_meet
                      exact ⟨HSW.out.drew, (hchgwD.trans HSC.out).trans (Chg.drew _ _)⟩
                  case rest =>
                    obtain ⟨hph6, hchg6⟩ := hcut
                    obtain ⟨w6, rfl⟩ : ∃ x : World, x = wc := ⟨_, rfl⟩
                    have hs6 : (swp D0 iwA jwC).size = d.size := (size_swp _ _ _).trans HS0.out
                    obtain ⟨D6, hD2⟩ : ∃ D2, swp D0 iwA jwC = D2 := ⟨_, rfl⟩
                    rw [hD2] at hph6 hs6
                    have HK6 := Lib.hid hph6; have HS6 := Lib.hid hs6; have HD6 := Lib.hid hD2; clear hph6 hs6 hD2
                    obtain ⟨jk, hjk⟩ : ∃ jk, jwC = jk + 1 := ⟨jwC - 1, by omega⟩
                    have e7 : (jwC : Int) - 1 = (jk : Int) := by omega
                    have hjj : jk < jwC ∧ jwC ≤ jk + 1 := by omega
                    have HJK := Lib.hid (show jwC - 1 = jk by omega); clear hjk
                    obtain ⟨RR, hRR⟩ : ∃ x, Sort.partLoop ltP a (iwA + 1) jk D6 = x := ⟨_, rfl⟩
                    have HRR := Lib.hid hRR; clear hRR
                    go_wp2_with fail
                    go_loopw [12, 13] (fun vi vj wr => ∃ (i j : Nat) (dk : Array Ls), vi = .int .i64 i ∧ vj = .int .i64 j ∧ a < i ∧ i ≤ b ∧ a ≤ j ∧ j < b ∧ dk.size = d.size ∧ PH wr blk off dk ∧ Chg blk w wr ∧ Sort.partLoop ltP a i j dk = RR) (fun vi vj _ => (intOf vj + 1 - intOf vi).toNat)
                    case atStart => exact ⟨(iwA + 1), jk, D6, by first | rfl | go_num, by first | rfl | go_num, by omega, by omega, by omega, by omega, HS6.out, HK6.out, hchg6, HRR.out⟩
                    case round =>
                      obtain ⟨wE, rfl⟩ : ∃ x : World, x = wr := ⟨_, rfl⟩
                      obtain ⟨i, j, dk, rfl, rfl, hai, hib, haj, hjb, hsk, hph, hchgE, hPL⟩ := hrel
                      have HPL := Lib.hid hPL; clear hPL
                      have HKE := Lib.hid hph; clear hph
                      have HSE := Lib.hid hsk; clear hsk
                      obtain ⟨IU2, hIU2⟩ : ∃ x, Sort.scanUp (fun x => ltP x dk[a]!) dk j i = x := ⟨_, rfl⟩
                      have HIU2 := Lib.hid hIU2; clear hIU2
                      go_wp2_with fail
                      go_loopw [12] (fun v wF => ∃ iwF : Nat, v = .int .i64 iwF ∧ i ≤ iwF ∧ iwF ≤ b ∧ PH wF blk off dk ∧ Chg blk w wF ∧ Sort.scanUp (fun x => ltP x dk[a]!) dk j iwF = IU2) (fun v _ => b + 1 - (intOf v).toNat)
                      case atStart => exact ⟨i, by first | rfl | go_num, by omega, by omega, HKE.out, hchgE, HIU2.out⟩
                      case round =>
                        obtain ⟨wF, rfl⟩ : ∃ x : World, x = wr := ⟨_, rfl⟩
                        obtain ⟨iwF, rfl, hlowF, hhiwF, hphwF, hchgwF, hOwF⟩ := hrel
                        have HOwF := Lib.hid hOwF; clear hOwF
                        have HKwF := Lib.hid hphwF; clear hphwF
                        obtain ⟨c, hc⟩ : ∃ c, (decide (iwF ≤ j) && ltP dk[iwF]! dk[a]!) = c := ⟨_, rfl⟩
                        have HCC := Lib.hid hc; clear hc
                        go_upto_region 13 with fail
                        go_cut [120] from 105 to 120 (fun s wc => s = .bool c ∧ Below (World.heap wF).size wF wc)
                        case first =>
                          by_cases hle : iwF ≤ j
                          case neg =>
                            go_wp2_with fail
                            go_quiet (fail)
                            go_wp2_with fail
                            go_meet
                            exact ⟨by rw [← HCC.out, decide_eq_false hle, Bool.false_and], bdrewN (Below.refl _ _) nq⟩
                          case pos =>
                            have x1 : (0 : Int) ≤ (iwF : Int) := by omega
                            have x2 : (iwF : Int) < (d.size : Int) := by omega
                            have x3 : (0 : Int) ≤ (a : Int) := by omega
                            have x4 : (a : Int) < (d.size : Int) := by omega
                            have hbl := HKwF.out.lt (by have := HSE.out; omega)
                            obtain ⟨p1, p3, p5⟩ := HKwF.out iwF (by have := HSE.out; omega)
                            obtain ⟨q1, q3, q5⟩ := HKwF.out a (by have := HSE.out; omega)
                            obtain ⟨pp, hpp⟩ : ∃ p, dk[iwF]! = p := ⟨_, rfl⟩
                            obtain ⟨qq, hqq⟩ : ∃ p, dk[a]! = p := ⟨_, rfl⟩
                            rw [hpp] at p1 p5
                            rw [hqq] at q1 q5
                            have HPP := Lib.hid hpp; have HQQ := Lib.hid hqq; clear hpp hqq
                            have hcmp := fun w hk => compareL_c pp qq w (Rd.below p5 hk) (Rd.below q5 hk)
                            unfold lsV at hcmp
                            have HCMP := Lib.hid hcmp; clear hcmp
                            go_wp2_with fail
                            go_region_held3 (fun w' => (w'.cell? ⟨blk, off + iwF, none⟩ = some (.slice pp.adr pp.xs.length pp.cap)) ∧ w'.cell? ⟨blk, off + a, none⟩ = some (.slice qq.adr qq.xs.length qq.cap)) (exact ⟨by assumption, by assumption⟩)
                              (first
                                | (go_at_call 75; (with_reducible refine (HCMP.out _ (by with_reducible repeat' (first | exact Below.refl _ _ | apply Below.drew))).mono ?_); rintro e W1 ⟨⟨r, rfl, hr⟩, hw1⟩; have m1 := bcell hw1 hbl p1; have m3 := bcell hw1 hbl q1))
                            clear HCMP
                            go_wp2_with fail
                            go_meet
                            exact ⟨by rw [← HCC.out, decide_eq_true hle, Bool.true_and, HPP.out, HQQ.out], (Below.refl _ _).drew.trans hw1⟩
                        case rest =>
                          obtain ⟨rfl, hbc⟩ := hcut
                          obtain ⟨wG, rfl⟩ : ∃ x : World, x = wc := ⟨_, rfl⟩
                          have HKwG := Lib.hid (HKwF.out.below hbc)
                          have hchgwG := hchgwF.trans (Chg.of_below hbc)
                          clear hbc
                          cases c
                          case true =>
                            have hle : iwF ≤ j := by have := (Bool.and_eq_true_iff.1 HCC.out).1; simpa using this
                            go_wp2_with fail
                            go_roundw
                            case rel => first | exact ⟨iwF + 1, by go_num, by omega, by omega, HKwG.out, hchgwG, by rw [← scanUp_go HCC.out]; exact HOwF.out⟩ | ((repeat apply Exists.intro); exact ⟨⟨iwF + 1, by go_num, by omega, by omega, HKwG.out, hchgwG, by rw [← scanUp_go HCC.out]; exact HOwF.out⟩, rfl⟩)
                            case measure => simp [intOf]; omega
                          case false =>
                            have hX : iwF = IU2 := by rw [← HOwF.out, scanUp_stop HCC.out]
                            clear HCC
                            subst hX
                            go_wp2_with fail
                            obtain ⟨JD2, hJD2⟩ : ∃ x, Sort.scanDown (fun x => !ltP x dk[a]!) dk iwF j = x := ⟨_, rfl⟩
                            have HJD2 := Lib.hid hJD2; clear hJD2
                            have hlowA : i ≤ iwF := by omega
                            go_loopw [13] (fun v wH => ∃ jwH : Nat, v = .int .i64 jwH ∧ a ≤ jwH ∧ jwH ≤ j ∧ PH wH blk off dk ∧ Chg blk w wH ∧ Sort.scanDown (fun x => !ltP x dk[a]!) dk iwF jwH = JD2) (fun v _ => (intOf v).toNat)
                            case atStart => exact ⟨j, by first | rfl | go_num, by omega, by omega, HKwG.out, hchgwG, HJD2.out⟩
                            case round =>
                              obtain ⟨wH, rfl⟩ : ∃ x : World, x = wr := ⟨_, rfl⟩
                              obtain ⟨jwH, rfl, hlowH, hhiwH, hphwH, hchgwH, hOwH⟩ := hrel
                              have HOwH := Lib.hid hOwH; clear hOwH
                              have HKwH := Lib.hid hphwH; clear hphwH
                              obtain ⟨c, hc⟩ : ∃ c, (decide (iwF ≤ jwH) && !ltP dk[jwH]! dk[a]!) = c := ⟨_, rfl⟩
                              have HCC := Lib.hid hc; clear hc
                              go_upto_region 15 with fail
                              go_cut [139] from 123 to 139 (fun s wc => s = .bool c ∧ Below (World.heap wH).size wH wc)
                              case first =>
                                by_cases hle : iwF ≤ jwH
                                case neg =>
                                  go_wp2_with fail
                                  go_quiet (fail)
                                  go_wp2_with fail
                                  go_meet
                                  exact ⟨by rw [← HCC.out, decide_eq_false hle, Bool.false_and], bdrewN (Below.refl _ _) nq⟩
                                case pos =>
                                  have x1 : (0 : Int) ≤ (jwH : Int) := by omega
                                  have x2 : (jwH : Int) < (d.size : Int) := by omega
                                  have x3 : (0 : Int) ≤ (a : Int) := by omega
                                  have x4 : (a : Int) < (d.size : Int) := by omega
                                  have hbl := HKwH.out.lt (by have := HSE.out; omega)
                                  obtain ⟨p1, p3, p5⟩ := HKwH.out jwH (by have := HSE.out; omega)
                                  obtain ⟨q1, q3, q5⟩ := HKwH.out a (by have := HSE.out; omega)
                                  obtain ⟨pp, hpp⟩ : ∃ p, dk[jwH]! = p := ⟨_, rfl⟩
                                  obtain ⟨qq, hqq⟩ : ∃ p, dk[a]! = p := ⟨_, rfl⟩
                                  rw [hpp] at p1 p5
                                  rw [hqq] at q1 q5
                                  have HPP := Lib.hid hpp; have HQQ := Lib.hid hqq; clear hpp hqq
                                  have hcmp := fun w hk => compareL_c pp qq w (Rd.below p5 hk) (Rd.below q5 hk)
                                  unfold lsV at hcmp
                                  have HCMP := Lib.hid hcmp; clear hcmp
                                  go_wp2_with fail
                                  go_region_held3 (fun w' => (w'.cell? ⟨blk, off + jwH, none⟩ = some (.slice pp.adr pp.xs.length pp.cap)) ∧ w'.cell? ⟨blk, off + a, none⟩ = some (.slice qq.adr qq.xs.length qq.cap)) (exact ⟨by assumption, by assumption⟩)
                                    (first
                                      | (go_at_call 75; (with_reducible refine (HCMP.out _ (by with_reducible repeat' (first | exact Below.refl _ _ | apply Below.drew))).mono ?_); rintro e W1 ⟨⟨r, rfl, hr⟩, hw1⟩; have m1 := bcell hw1 hbl p1; have m3 := bcell hw1 hbl q1))
                                  clear HCMP
                                  go_wp2_with fail
                                  go_meet
                                  exact ⟨by rw [← HCC.out, decide_eq_true hle, Bool.true_and, HPP.out, HQQ.out], (Below.refl _ _).drew.trans hw1⟩
                              case rest =>
                                obtain ⟨rfl, hbc⟩ := hcut
                                obtain ⟨wI, rfl⟩ : ∃ x : World, x = wc := ⟨_, rfl⟩
                                have HKwI := Lib.hid (HKwH.out.below hbc)
                                have hchgwI := hchgwH.trans (Chg.of_below hbc)
                                clear hbc
                                cases c
                                case true =>
                                  have hle : iwF ≤ jwH := by have := (Bool.and_eq_true_iff.1 HCC.out).1; simpa using this
                                  obtain ⟨kk, hkk⟩ : ∃ kk, jwH = kk + 1 := ⟨jwH - 1, by omega⟩
                                  have e9 : (jwH : Int) - 1 = (kk : Int) := by omega
                                  have HKK := Lib.hid hkk; clear hkk
                                  go_wp2_with fail
                                  go_roundw
                                  case rel => first | exact ⟨kk, by first | rfl | go_num, by have := HKK.out; omega, by have := HKK.out; omega, HKwI.out, hchgwI, by rw [← scanDown_go HKK.out HCC.out]; exact HOwH.out⟩ | ((repeat apply Exists.intro); exact ⟨⟨kk, by first | rfl | go_num, by have := HKK.out; omega, by have := HKK.out; omega, HKwI.out, hchgwI, by rw [← scanDown_go HKK.out HCC.out]; exact HOwH.out⟩, rfl⟩)
                                  case measure => simp [intOf]; have := HKK.out; omega
                                case false =>
                                  have hX : jwH = JD2 := by rw [← HOwH.out, scanDown_stop HCC.out]
                                  clear HCC
                                  subst hX
                                  have hhiA : jwH ≤ j := by omega
                                  by_cases hgt2 : jwH < iwF
                                  case pos =>
                                    have hRR : RR = (jwH, dk) := by rw [← HPL.out]; exact partLoop_stop HIU2.out HJD2.out hgt2
                                    obtain rfl := hRR
                                    go_upto_region 21 with fail
                                    go_cut [] from 163 to 163 (fun wc => PH wc blk off (swp dk jwH a) ∧ Chg blk w wc)
                                    case first =>
                                      obtain ⟨p1, p3, _⟩ := HKwI.out jwH (by have := HSE.out; omega)
                                      obtain ⟨q1, q3, _⟩ := HKwI.out a (by have := HSE.out; omega)
                                      obtain ⟨pp, hpp⟩ : ∃ p, dk[jwH]! = p := ⟨_, rfl⟩
                                      obtain ⟨qq, hqq⟩ : ∃ p, dk[a]! = p := ⟨_, rfl⟩
                                      rw [hpp] at p1
                                      rw [hqq] at q1
                                      have HPP := Lib.hid hpp; have HQQ := Lib.hid hqq; clear hpp hqq
                                      have x1 : (0 : Int) ≤ (jwH : Int) := by omega
                                      have x2 : (jwH : Int) < (d.size : Int) := by omega
                                      have x3 : (0 : Int) ≤ (a : Int) := by omega
                                      have x4 : (a : Int) < (d.size : Int) := by omega
                                      by_cases hij : jwH = a
                                      case pos =>
                                        obtain rfl : pp = qq := HPP.out.symm.trans ((congrArg (fun x => dk[x]!) hij).trans HQQ.out)
                                        subst hij
                                        clear HQQ
                                        have hSW := HKwI.out.swap (i := jwH) (j := jwH) (by have := HSE.out; omega) (by have := HSE.out; omega)
                                        have hSC := swapW_chg wI blk off dk[jwH]! dk[jwH]! jwH jwH
                                        rw [HPP.out] at hSW hSC
                                        unfold swapW at hSW hSC
                                        have HSW := Lib.hid hSW; have HSC := Lib.hid hSC; clear hSW hSC
                                        go_wp2_with fail
                                        go_region
                                        go_wp2_with fail
                                        go_meet
                                        exact ⟨HSW.out.drew, (hchgwI.trans HSC.out).trans (Chg.drew _ _)⟩
                                      case neg =>
                                        have hSW := HKwI.out.swap (i := jwH) (j := a) (by have := HSE.out; omega) (by have := HSE.out; omega)
                                        have hSC := swapW_chg wI blk off dk[jwH]! dk[a]! jwH a
                                        rw [HPP.out, HQQ.out] at hSW hSC
                                        unfold swapW at hSW hSC
                                        have HSW := Lib.hid hSW; have HSC := Lib.hid hSC; clear hSW hSC
                                        go_wp2_with fail
                                        go_region
                                        go_wp2_with fail
                                        go_meet
                                        exact ⟨HSW.out.drew, (hchgwI.trans HSC.out).trans (Chg.drew _ _)⟩
                                    case rest =>
                                      obtain ⟨hph7, hchg7⟩ := hcut
                                      obtain ⟨w7, rfl⟩ : ∃ x : World, x = wc := ⟨_, rfl⟩
                                      have hs7 : (swp dk jwH a).size = d.size := (size_swp _ _ _).trans HSE.out
                                      obtain ⟨D7, hD2⟩ : ∃ D2, swp dk jwH a = D2 := ⟨_, rfl⟩
                                      rw [hD2] at hph7 hs7
                                      have HK7 := Lib.hid hph7; have HS7 := Lib.hid hs7; have HD7 := Lib.hid hD2; clear hph7 hs7 hD2
                                      have hR2 : R = (jwH, false, D7) := by rw [← HR.out]; exact (partition_late (r := (jwH, dk)) HD0.out (by rw [HB1.out, HA1.out]; exact HIU.out) (by rw [HB1.out]; exact HJD.out) hgt (by rw [HJK.out, HD6.out]; exact HRR.out)).trans (by show (jwH, false, swp dk jwH a) = _; rw [HD7.out])
                                      obtain rfl := hR2
                                      go_wp2_with fail
                                      go_ret2
                                      exact ⟨rfl, HK7.out, hchg7, HS7.out⟩
                                  case neg =>
                                    go_upto_region 18 with fail
                                    go_cut [] from 145 to 145 (fun wc => PH wc blk off (swp dk iwF jwH) ∧ Chg blk w wc)
                                    case first =>
                                      obtain ⟨p1, p3, _⟩ := HKwI.out iwF (by have := HSE.out; omega)
                                      obtain ⟨q1, q3, _⟩ := HKwI.out jwH (by have := HSE.out; omega)
                                      obtain ⟨pp, hpp⟩ : ∃ p, dk[iwF]! = p := ⟨_, rfl⟩
                                      obtain ⟨qq, hqq⟩ : ∃ p, dk[jwH]! = p := ⟨_, rfl⟩
                                      rw [hpp] at p1
                                      rw [hqq] at q1
                                      have HPP := Lib.hid hpp; have HQQ := Lib.hid hqq; clear hpp hqq
                                      have x1 : (0 : Int) ≤ (iwF : Int) := by omega
                                      have x2 : (iwF : Int) < (d.size : Int) := by omega
                                      have x3 : (0 : Int) ≤ (jwH : Int) := by omega
                                      have x4 : (jwH : Int) < (d.size : Int) := by omega
                                      by_cases hij : iwF = jwH
                                      case pos =>
                                        obtain rfl : pp = qq := HPP.out.symm.trans ((congrArg (fun x => dk[x]!) hij).trans HQQ.out)
                                        subst hij
                                        clear HQQ
                                        have hSW := HKwI.out.swap (i := iwF) (j := iwF) (by have := HSE.out; omega) (by have := HSE.out; omega)
                                        have hSC := swapW_chg wI blk off dk[iwF]! dk[iwF]! iwF iwF
                                        rw [HPP.out] at hSW hSC
                                        unfold swapW at hSW hSC
                                        have HSW := Lib.hid hSW; have HSC := Lib.hid hSC; clear hSW hSC
                                        go_wp2_with fail
                                        go_region
                                        go_wp2_with fail
                                        go_meet
                                        exact ⟨HSW.out.drew, (hchgwI.trans HSC.out).trans (Chg.drew _ _)⟩
                                      case neg =>
                                        have hSW := HKwI.out.swap (i := iwF) (j := jwH) (by have := HSE.out; omega) (by have := HSE.out; omega)
                                        have hSC := swapW_chg wI blk off dk[iwF]! dk[jwH]! iwF jwH
                                        rw [HPP.out, HQQ.out] at hSW hSC
                                        unfold swapW at hSW hSC
                                        have HSW := Lib.hid hSW; have HSC := Lib.hid hSC; clear hSW hSC
                                        go_wp2_with fail
                                        go_region
                                        go_wp2_with fail
                                        go_meet
                                        exact ⟨HSW.out.drew, (hchgwI.trans HSC.out).trans (Chg.drew _ _)⟩
                                    case rest =>
                                      obtain ⟨hph7, hchg7⟩ := hcut
                                      obtain ⟨w7, rfl⟩ : ∃ x : World, x = wc := ⟨_, rfl⟩
                                      have hs7 : (swp dk iwF jwH).size = d.size := (size_swp _ _ _).trans HSE.out
                                      obtain ⟨D7, hD2⟩ : ∃ D2, swp dk iwF jwH = D2 := ⟨_, rfl⟩
                                      rw [hD2] at hph7 hs7
                                      have HK7 := Lib.hid hph7; have HS7 := Lib.hid hs7; have HD7 := Lib.hid hD2; clear hph7 hs7 hD2
                                      obtain ⟨k2, hk2⟩ : ∃ k2, jwH = k2 + 1 := ⟨jwH - 1, by omega⟩
                                      have e8 : (jwH : Int) - 1 = (k2 : Int) := by omega
                                      have HK2 := Lib.hid hk2; clear hk2
                                      go_wp2_with fail
                                      go_roundw
                                      case rel => first | exact ⟨iwF + 1, k2, D7, by go_num, by first | rfl | go_num, by omega, by omega, by have := HK2.out; omega, by have := HK2.out; omega, HS7.out, HK7.out, hchg7, by rw [← HPL.out, partLoop_go HIU2.out HJD2.out hgt2 hlowA hhiA, HD7.out, show jwH - 1 = k2 by have := HK2.out; omega]⟩ | ((repeat apply Exists.intro); exact ⟨⟨iwF + 1, k2, D7, by go_num, by first | rfl | go_num, by omega, by omega, by have := HK2.out; omega, by have := HK2.out; omega, HS7.out, HK7.out, hchg7, by rw [← HPL.out, partLoop_go HIU2.out HJD2.out hgt2 hlowA hhiA, HD7.out, show jwH - 1 = k2 by have := HK2.out; omega]⟩, rfl⟩)
                                      case measure => simp [intOf]; have := HK2.out; omega


end LstSort
end Go.Proofs.YtcionneopgdebaaGreat

/-
  The library's partitionEqual over lists of numbers. Printed by gen_sort.py.
-/
namespace Go.Proofs.YtcionneopgdebaaGreat
namespace LstSort
open Go.RowKit
open Go.Sort (SWO swp swp_left swp_right swp_other size_swp insInner insOuter Hint)

set_option maxHeartbeats 3200000 in
set_option maxRecDepth 100000 in
theorem partitionEqual_c (blk off cap a b pivot : Nat) (d : Array Ls) (w : World) (hH : PH w blk off d) (hap : a ≤ pivot) (hpb : pivot < b) (hb : b ≤ d.size) (hsz : d.size < 2305843009213693952) :
    Calls Tryz.prog 115 #[.slice (some ⟨blk, off, none⟩) d.size cap, .int .i64 a, .int .i64 b, .int .i64 pivot, cmpV] w (PartEqTo w blk off d.size (Sort.partitionEqual ltP d a b pivot)) := by
  have HP := Lib.hid hH; clear hH
  unfold cmpV
  obtain ⟨b1, hb1⟩ : ∃ b1, b = b1 + 1 := ⟨b - 1, by omega⟩
  have e0 : (b : Int) - 1 = (b1 : Int) := by omega
  have hbb : b1 < b ∧ b ≤ b1 + 1 := by omega
  obtain ⟨A1, hA1⟩ : ∃ A1, a + 1 = A1 := ⟨_, rfl⟩
  have e1 : (a : Int) + 1 = (A1 : Int) := by omega
  have haa : a < A1 ∧ A1 ≤ b := by omega
  have ew1 : IntKind.i64.wrap (A1 : Int) = (A1 : Int) := i64_small (by omega) (by omega)
  have ew2 : IntKind.i64.wrap (b1 : Int) = (b1 : Int) := i64_small (by omega) (by omega)
  have HB1 := Lib.hid (show b - 1 = b1 by omega); have HA1 := Lib.hid hA1; clear hb1 hA1
  obtain ⟨R, hR⟩ : ∃ R, Sort.partitionEqual ltP d a b pivot = R := ⟨_, rfl⟩
  rw [hR]
  have HR := Lib.hid hR; clear hR
  go_enter Tryz.func115, Tryz.ntmps115
  go_wp2_with fail
  go_upto_region 1 with fail
  go_cut [] from 13 to 13 (fun wc => PH wc blk off (swp d a pivot) ∧ Chg blk w wc)
  case first =>
    obtain ⟨p1, p3, _⟩ := HP.out a (by have := (Lib.hid (Eq.refl d.size)).out; omega)
    obtain ⟨q1, q3, _⟩ := HP.out pivot (by have := (Lib.hid (Eq.refl d.size)).out; omega)
    obtain ⟨pp, hpp⟩ : ∃ p, d[a]! = p := ⟨_, rfl⟩
    obtain ⟨qq, hqq⟩ : ∃ p, d[pivot]! = p := ⟨_, rfl⟩
    rw [hpp] at p1
    rw [hqq] at q1
    have HPP := Lib.hid hpp; have HQQ := Lib.hid hqq; clear hpp hqq
    have x1 : (0 : Int) ≤ (a : Int) := by omega
    have x2 : (a : Int) < (d.size : Int) := by omega
    have x3 : (0 : Int) ≤ (pivot : Int) := by omega
    have x4 : (pivot : Int) < (d.size : Int) := by omega
    by_cases hij : a = pivot
    case pos =>
      obtain rfl : pp = qq := HPP.out.symm.trans ((congrArg (fun x => d[x]!) hij).trans HQQ.out)
      subst hij
      clear HQQ
      have hSW := HP.out.swap (i := a) (j := a) (by have := (Lib.hid (Eq.refl d.size)).out; omega) (by have := (Lib.hid (Eq.refl d.size)).out; omega)
      have hSC := swapW_chg w blk off d[a]! d[a]! a a
      rw [HPP.out] at hSW hSC
      unfold swapW at hSW hSC
      have HSW := Lib.hid hSW; have HSC := Lib.hid hSC; clear hSW hSC
      go_wp2_with fail
      go_region
      go_wp2_with fail
      go_meet
      exact ⟨HSW.out.drew, ((Chg.refl blk w).trans HSC.out).trans (Chg.drew _ _)⟩
    case neg =>
      have hSW := HP.out.swap (i := a) (j := pivot) (by have := (Lib.hid (Eq.refl d.size)).out; omega) (by have := (Lib.hid (Eq.refl d.size)).out; omega)
      have hSC := swapW_chg w blk off d[a]! d[pivot]! a pivot
      rw [HPP.out, HQQ.out] at hSW hSC
      unfold swapW at hSW hSC
      have HSW := Lib.hid hSW; have HSC := Lib.hid hSC; clear hSW hSC
      go_wp2_with fail
      go_region
      go_wp2_with fail
      go_meet
      exact ⟨HSW.out.drew, ((Chg.refl blk w).trans HSC.out).trans (Chg.drew _ _)⟩
  case rest =>
    obtain ⟨hph0, hchg0⟩ := hcut
    obtain ⟨w0, rfl⟩ : ∃ x : World, x = wc := ⟨_, rfl⟩
    have hs0 : (swp d a pivot).size = d.size := (size_swp _ _ _).trans (Lib.hid (Eq.refl d.size)).out
    obtain ⟨D0, hD2⟩ : ∃ D2, swp d a pivot = D2 := ⟨_, rfl⟩
    rw [hD2] at hph0 hs0
    have HK0 := Lib.hid hph0; have HS0 := Lib.hid hs0; have HD0 := Lib.hid hD2; clear hph0 hs0 hD2
    obtain ⟨RR, hRR⟩ : ∃ x, Sort.partEqLoop ltP a A1 b1 D0 = x := ⟨_, rfl⟩
    have HRR := Lib.hid hRR; clear hRR
    go_wp2_with fail
    go_loopw [11, 12] (fun vi vj wr => ∃ (i j : Nat) (dk : Array Ls), vi = .int .i64 i ∧ vj = .int .i64 j ∧ a < i ∧ i ≤ b ∧ a ≤ j ∧ j < b ∧ dk.size = d.size ∧ PH wr blk off dk ∧ Chg blk w wr ∧ Sort.partEqLoop ltP a i j dk = RR) (fun vi vj _ => (intOf vj + 1 - intOf vi).toNat)
    case atStart => exact ⟨A1, b1, D0, by first | rfl | go_num, by first | rfl | go_num, by omega, by omega, by omega, by omega, HS0.out, HK0.out, hchg0, HRR.out⟩
    case round =>
      obtain ⟨wE, rfl⟩ : ∃ x : World, x = wr := ⟨_, rfl⟩
      obtain ⟨i, j, dk, rfl, rfl, hai, hib, haj, hjb, hsk, hph, hchgE, hPL⟩ := hrel
      have HPL := Lib.hid hPL; clear hPL
      have HKE := Lib.hid hph; clear hph
      have HSE := Lib.hid hsk; clear hsk
      obtain ⟨IU2, hIU2⟩ : ∃ x, Sort.scanUp (fun x => !ltP dk[a]! x) dk j i = x := ⟨_, rfl⟩
      have HIU2 := Lib.hid hIU2; clear hIU2
      go_wp2_with fail
      go_loopw [11] (fun v wF => ∃ iwF : Nat, v = .int .i64 iwF ∧ i ≤ iwF ∧ iwF ≤ b ∧ PH wF blk off dk ∧ Chg blk w wF ∧ Sort.scanUp (fun x => !ltP dk[a]! x) dk j iwF = IU2) (fun v _ => b + 1 - (intOf v).toNat)
      case atStart => exact ⟨i, by first | rfl | go_num, by omega, by omega, HKE.out, hchgE, HIU2.out⟩
      case round =>
        obtain ⟨wF, rfl⟩ : ∃ x : World, x = wr := ⟨_, rfl⟩
        obtain ⟨iwF, rfl, hlowF, hhiwF, hphwF, hchgwF, hOwF⟩ := hrel
        have HOwF := Lib.hid hOwF; clear hOwF
        have HKwF := Lib.hid hphwF; clear hphwF
        obtain ⟨c, hc⟩ : ∃ c, (decide (iwF ≤ j) && !ltP dk[a]! dk[iwF]!) = c := ⟨_, rfl⟩
        have HCC := Lib.hid hc; clear hc
        go_upto_region 3 with fail
        go_cut [47] from 31 to 47 (fun s wc => s = .bool c ∧ Below (World.heap wF).size wF wc)
        case first =>
          by_cases hle : iwF ≤ j
          case neg =>
            go_wp2_with fail
            go_quiet (fail)
            go_wp2_with fail
            go_meet
            exact ⟨by rw [← HCC.out, decide_eq_false hle, Bool.false_and], bdrewN (Below.refl _ _) nq⟩
          case pos =>
            have x1 : (0 : Int) ≤ (a : Int) := by omega
            have x2 : (a : Int) < (d.size : Int) := by omega
            have x3 : (0 : Int) ≤ (iwF : Int) := by omega
            have x4 : (iwF : Int) < (d.size : Int) := by omega
            have hbl := HKwF.out.lt (by have := HSE.out; omega)
            obtain ⟨p1, p3, p5⟩ := HKwF.out a (by have := HSE.out; omega)
            obtain ⟨q1, q3, q5⟩ := HKwF.out iwF (by have := HSE.out; omega)
            obtain ⟨pp, hpp⟩ : ∃ p, dk[a]! = p := ⟨_, rfl⟩
            obtain ⟨qq, hqq⟩ : ∃ p, dk[iwF]! = p := ⟨_, rfl⟩
            rw [hpp] at p1 p5
            rw [hqq] at q1 q5
            have HPP := Lib.hid hpp; have HQQ := Lib.hid hqq; clear hpp hqq
            have hcmp := fun w hk => compareL_c pp qq w (Rd.below p5 hk) (Rd.below q5 hk)
            unfold lsV at hcmp
            have HCMP := Lib.hid hcmp; clear hcmp
            go_wp2_with fail
            go_region_held3 (fun w' => (w'.cell? ⟨blk, off + a, none⟩ = some (.slice pp.adr pp.xs.length pp.cap)) ∧ w'.cell? ⟨blk, off + iwF, none⟩ = some (.slice qq.adr qq.xs.length qq.cap)) (exact ⟨by assumption, by assumption⟩)
              (first
                | (go_at_call 75; (with_reducible refine (HCMP.out _ (by with_reducible repeat' (first | exact Below.refl _ _ | apply Below.drew))).mono ?_); rintro e W1 ⟨⟨r, rfl, hr⟩, hw1⟩; have m1 := bcell hw1 hbl p1; have m3 := bcell hw1 hbl q1))
            clear HCMP
            go_wp2_with fail
            go_meet
            exact ⟨by rw [← HCC.out, decide_eq_true hle, Bool.true_and, HPP.out, HQQ.out], (Below.refl _ _).drew.trans hw1⟩
        case rest =>
          obtain ⟨rfl, hbc⟩ := hcut
          obtain ⟨wG, rfl⟩ : ∃ x : World, x = wc := ⟨_, rfl⟩
          have HKwG := Lib.hid (HKwF.out.below hbc)
          have hchgwG := hchgwF.trans (Chg.of_below hbc)
          clear hbc
          cases c
          case true =>
            have hle : iwF ≤ j := by have := (Bool.and_eq_true_iff.1 HCC.out).1; simpa using this
            go_wp2_with fail
            go_roundw
            case rel => first | exact ⟨iwF + 1, by go_num, by omega, by omega, HKwG.out, hchgwG, by rw [← scanUp_go HCC.out]; exact HOwF.out⟩ | ((repeat apply Exists.intro); exact ⟨⟨iwF + 1, by go_num, by omega, by omega, HKwG.out, hchgwG, by rw [← scanUp_go HCC.out]; exact HOwF.out⟩, rfl⟩)
            case measure => simp [intOf]; omega
          case false =>
            have hX : iwF = IU2 := by rw [← HOwF.out, scanUp_stop HCC.out]
            clear HCC
            subst hX
            go_wp2_with fail
            obtain ⟨JD2, hJD2⟩ : ∃ x, Sort.scanDown (fun x => ltP dk[a]! x) dk iwF j = x := ⟨_, rfl⟩
            have HJD2 := Lib.hid hJD2; clear hJD2
            have hlowA : i ≤ iwF := by omega
            go_loopw [12] (fun v wH => ∃ jwH : Nat, v = .int .i64 jwH ∧ a ≤ jwH ∧ jwH ≤ j ∧ PH wH blk off dk ∧ Chg blk w wH ∧ Sort.scanDown (fun x => ltP dk[a]! x) dk iwF jwH = JD2) (fun v _ => (intOf v).toNat)
            case atStart => exact ⟨j, by first | rfl | go_num, by omega, by omega, HKwG.out, hchgwG, HJD2.out⟩
            case round =>
              obtain ⟨wH, rfl⟩ : ∃ x : World, x = wr := ⟨_, rfl⟩
              obtain ⟨jwH, rfl, hlowH, hhiwH, hphwH, hchgwH, hOwH⟩ := hrel
              have HOwH := Lib.hid hOwH; clear hOwH
              have HKwH := Lib.hid hphwH; clear hphwH
              obtain ⟨c, hc⟩ : ∃ c, (decide (iwF ≤ jwH) && ltP dk[a]! dk[jwH]!) = c := ⟨_, rfl⟩
              have HCC := Lib.hid hc; clear hc
              go_upto_region 5 with fail
              go_cut [65] from 50 to 65 (fun s wc => s = .bool c ∧ Below (World.heap wH).size wH wc)
              case first =>
                by_cases hle : iwF ≤ jwH
                case neg =>
                  go_wp2_with fail
                  go_quiet (fail)
                  go_wp2_with fail
                  go_meet
                  exact ⟨by rw [← HCC.out, decide_eq_false hle, Bool.false_and], bdrewN (Below.refl _ _) nq⟩
                case pos =>
                  have x1 : (0 : Int) ≤ (a : Int) := by omega
                  have x2 : (a : Int) < (d.size : Int) := by omega
                  have x3 : (0 : Int) ≤ (jwH : Int) := by omega
                  have x4 : (jwH : Int) < (d.size : Int) := by omega
                  have hbl := HKwH.out.lt (by have := HSE.out; omega)
                  obtain ⟨p1, p3, p5⟩ := HKwH.out a (by have := HSE.out; omega)
                  obtain ⟨q1, q3, q5⟩ := HKwH.out jwH (by have := HSE.out; omega)
                  obtain ⟨pp, hpp⟩ : ∃ p, dk[a]! = p := ⟨_, rfl⟩
                  obtain ⟨qq, hqq⟩ : ∃ p, dk[jwH]! = p := ⟨_, rfl⟩
                  rw [hpp] at p1 p5
                  rw [hqq] at q1 q5
                  have HPP := Lib.hid hpp; have HQQ := Lib.hid hqq; clear hpp hqq
                  have hcmp := fun w hk => compareL_c pp qq w (Rd.below p5 hk) (Rd.below q5 hk)
                  unfold lsV at hcmp
                  have HCMP := Lib.hid hcmp; clear hcmp
                  go_wp2_with fail
                  go_region_held3 (fun w' => (w'.cell? ⟨blk, off + a, none⟩ = some (.slice pp.adr pp.xs.length pp.cap)) ∧ w'.cell? ⟨blk, off + jwH, none⟩ = some (.slice qq.adr qq.xs.length qq.cap)) (exact ⟨by assumption, by assumption⟩)
                    (first
                      | (go_at_call 75; (with_reducible refine (HCMP.out _ (by with_reducible repeat' (first | exact Below.refl _ _ | apply Below.drew))).mono ?_); rintro e W1 ⟨⟨r, rfl, hr⟩, hw1⟩; have m1 := bcell hw1 hbl p1; have m3 := bcell hw1 hbl q1))
                  clear HCMP
                  go_wp2_with fail
                  go_meet
                  exact ⟨by rw [← HCC.out, decide_eq_true hle, Bool.true_and, HPP.out, HQQ.out], (Below.refl _ _).drew.trans hw1⟩
              case rest =>
                obtain ⟨rfl, hbc⟩ := hcut
                obtain ⟨wI, rfl⟩ : ∃ x : World, x = wc := ⟨_, rfl⟩
                have HKwI := Lib.hid (HKwH.out.below hbc)
                have hchgwI := hchgwH.trans (Chg.of_below hbc)
                clear hbc
                cases c
                case true =>
                  have hle : iwF ≤ jwH := by have := (Bool.and_eq_true_iff.1 HCC.out).1; simpa using this
                  obtain ⟨kk, hkk⟩ : ∃ kk, jwH = kk + 1 := ⟨jwH - 1, by omega⟩
                  have e9 : (jwH : Int) - 1 = (kk : Int) := by omega
                  have HKK := Lib.hid hkk; clear hkk
                  go_wp2_with fail
                  go_roundw
                  case rel => first | exact ⟨kk, by first | rfl | go_num, by have := HKK.out; omega, by have := HKK.out; omega, HKwI.out, hchgwI, by rw [← scanDown_go HKK.out HCC.out]; exact HOwH.out⟩ | ((repeat apply Exists.intro); exact ⟨⟨kk, by first | rfl | go_num, by have := HKK.out; omega, by have := HKK.out; omega, HKwI.out, hchgwI, by rw [← scanDown_go HKK.out HCC.out]; exact HOwH.out⟩, rfl⟩)
                  case measure => simp [intOf]; have := HKK.out; omega
                case false =>
                  have hX : jwH = JD2 := by rw [← HOwH.out, scanDown_stop HCC.out]
                  clear HCC
                  subst hX
                  have hhiA : jwH ≤ j := by omega
                  by_cases hgt2 : jwH < iwF
                  case pos =>
                    have hRR : RR = (iwF, dk) := by rw [← HPL.out]; exact partEqLoop_stop HIU2.out HJD2.out hgt2
                    obtain rfl := hRR
                    have hR2 : R = (iwF, dk) := by rw [← HR.out]; unfold Sort.partitionEqual; rw [HD0.out, HB1.out, HA1.out]; exact HRR.out
                    obtain rfl := hR2
                    go_wp2_with fail
                    go_ret
                    exact ⟨rfl, HKwI.out, hchgwI, HSE.out⟩
                  case neg =>
                    go_upto_region 8 with fail
                    go_cut [] from 71 to 71 (fun wc => PH wc blk off (swp dk iwF jwH) ∧ Chg blk w wc)
                    case first =>
                      obtain ⟨p1, p3, _⟩ := HKwI.out iwF (by have := HSE.out; omega)
                      obtain ⟨q1, q3, _⟩ := HKwI.out jwH (by have := HSE.out; omega)
                      obtain ⟨pp, hpp⟩ : ∃ p, dk[iwF]! = p := ⟨_, rfl⟩
                      obtain ⟨qq, hqq⟩ : ∃ p, dk[jwH]! = p := ⟨_, rfl⟩
                      rw [hpp] at p1
                      rw [hqq] at q1
                      have HPP := Lib.hid hpp; have HQQ := Lib.hid hqq; clear hpp hqq
                      have x1 : (0 : Int) ≤ (iwF : Int) := by omega
                      have x2 : (iwF : Int) < (d.size : Int) := by omega
                      have x3 : (0 : Int) ≤ (jwH : Int) := by omega
                      have x4 : (jwH : Int) < (d.size : Int) := by omega
                      by_cases hij : iwF = jwH
                      case pos =>
                        obtain rfl : pp = qq := HPP.out.symm.trans ((congrArg (fun x => dk[x]!) hij).trans HQQ.out)
                        subst hij
                        clear HQQ
                        have hSW := HKwI.out.swap (i := iwF) (j := iwF) (by have := HSE.out; omega) (by have := HSE.out; omega)
                        have hSC := swapW_chg wI blk off dk[iwF]! dk[iwF]! iwF iwF
                        rw [HPP.out] at hSW hSC
                        unfold swapW at hSW hSC
                        have HSW := Lib.hid hSW; have HSC := Lib.hid hSC; clear hSW hSC
                        go_wp2_with fail
                        go_region
                        go_wp2_with fail
                        go_meet
                        exact ⟨HSW.out.drew, (hchgwI.trans HSC.out).trans (Chg.drew _ _)⟩
                      case neg =>
                        have hSW := HKwI.out.swap (i := iwF) (j := jwH) (by have := HSE.out; omega) (by have := HSE.out; omega)
                        have hSC := swapW_chg wI blk off dk[iwF]! dk[jwH]! iwF jwH
                        rw [HPP.out, HQQ.out] at hSW hSC
                        unfold swapW at hSW hSC
                        have HSW := Lib.hid hSW; have HSC := Lib.hid hSC; clear hSW hSC
                        go_wp2_with fail
                        go_region
                        go_wp2_with fail
                        go_meet
                        exact ⟨HSW.out.drew, (hchgwI.trans HSC.out).trans (Chg.drew _ _)⟩
                    case rest =>
                      obtain ⟨hph7, hchg7⟩ := hcut
                      obtain ⟨w7, rfl⟩ : ∃ x : World, x = wc := ⟨_, rfl⟩
                      have hs7 : (swp dk iwF jwH).size = d.size := (size_swp _ _ _).trans HSE.out
                      obtain ⟨D7, hD2⟩ : ∃ D2, swp dk iwF jwH = D2 := ⟨_, rfl⟩
                      rw [hD2] at hph7 hs7
                      have HK7 := Lib.hid hph7; have HS7 := Lib.hid hs7; have HD7 := Lib.hid hD2; clear hph7 hs7 hD2
                      obtain ⟨k2, hk2⟩ : ∃ k2, jwH = k2 + 1 := ⟨jwH - 1, by omega⟩
                      have e8 : (jwH : Int) - 1 = (k2 : Int) := by omega
                      have HK2 := Lib.hid hk2; clear hk2
                      go_wp2_with fail
                      go_roundw
                      case rel => first | exact ⟨iwF + 1, k2, D7, by go_num, by first | rfl | go_num, by omega, by omega, by have := HK2.out; omega, by have := HK2.out; omega, HS7.out, HK7.out, hchg7, by rw [← HPL.out, partEqLoop_go HIU2.out HJD2.out hgt2 hlowA hhiA, HD7.out, show jwH - 1 = k2 by have := HK2.out; omega]⟩ | ((repeat apply Exists.intro); exact ⟨⟨iwF + 1, k2, D7, by go_num, by first | rfl | go_num, by omega, by omega, by have := HK2.out; omega, by have := HK2.out; omega, HS7.out, HK7.out, hchg7, by rw [← HPL.out, partEqLoop_go HIU2.out HJD2.out hgt2 hlowA hhiA, HD7.out, show jwH - 1 = k2 by have := HK2.out; omega]⟩, rfl⟩)
                      case measure => simp [intOf]; have := HK2.out; omega


end LstSort
end Go.Proofs.YtcionneopgdebaaGreat

/-
  The library's partialInsertionSort over lists of numbers. Printed by gen_sort.py.
-/
namespace Go.Proofs.YtcionneopgdebaaGreat
namespace LstSort
open Go.RowKit
open Go.Sort (SWO swp swp_left swp_right swp_other size_swp insInner insOuter Hint)

set_option maxHeartbeats 3200000 in
set_option maxRecDepth 100000 in
theorem partialInsertionSort_c (blk off cap a b : Nat) (d : Array Ls) (w : World) (hH : PH w blk off d) (hab : a < b) (hb : b ≤ d.size) (hsz : d.size < 2305843009213693952) :
    Calls Tryz.prog 114 #[.slice (some ⟨blk, off, none⟩) d.size cap, .int .i64 a, .int .i64 b, cmpV] w (ParTo w blk off d.size (Sort.partialInsertionSort ltP d a b)) := by
  have HP := Lib.hid hH; clear hH
  unfold cmpV Sort.partialInsertionSort
  obtain ⟨R, hR⟩ : ∃ R, Sort.partialIns ltP a b 5 (a + 1) d = R := ⟨_, rfl⟩
  rw [hR]
  have HR := Lib.hid hR; clear hR
  go_enter Tryz.func114, Tryz.ntmps114
  go_wp2_with fail
  go_loopw [9, 10] (fun vi vs wr => ∃ (i s : Nat) (dk : Array Ls), vi = .int .i64 i ∧ vs = .int .i64 s ∧ a < i ∧ i ≤ b ∧ s ≤ 5 ∧ dk.size = d.size ∧ PH wr blk off dk ∧ Chg blk w wr ∧ Sort.partialIns ltP a b (5 - s) i dk = R) (fun _ vs _ => 6 - (intOf vs).toNat)
  case atStart => exact ⟨a + 1, 0, d, by first | rfl | go_num, rfl, by omega, by omega, by omega, rfl, HP.out, Chg.refl _ _, HR.out⟩
  case round =>
    obtain ⟨wE, rfl⟩ : ∃ x : World, x = wr := ⟨_, rfl⟩
    obtain ⟨i, s, dk, rfl, rfl, hai, hib, hs5, hsk, hph, hchgE, hPL⟩ := hrel
    have HPL := Lib.hid hPL; have HKE := Lib.hid hph; have HSE := Lib.hid hsk; clear hPL hph hsk
    by_cases hs : s < 5
    case neg =>
      obtain rfl : s = 5 := by omega
      have hR2 : R = (dk, false) := HPL.out.symm
      obtain rfl := hR2
      go_wp2_with fail
      go_ret
      exact ⟨rfl, HKE.out, hchgE, HSE.out⟩
    case pos =>
      have es : (s : Int) < 5 := by omega
      obtain ⟨IS, hIS⟩ : ∃ x, Sort.scanSorted ltP dk b i = x := ⟨_, rfl⟩
      have HIS := Lib.hid hIS; clear hIS
      go_wp2_with fail
      go_loopw [9] (fun v wr => ∃ i2 : Nat, v = .int .i64 i2 ∧ i ≤ i2 ∧ i2 ≤ b ∧ PH wr blk off dk ∧ Chg blk w wr ∧ Sort.scanSorted ltP dk b i2 = IS) (fun v _ => b + 1 - (intOf v).toNat)
      case atStart => exact ⟨i, rfl, Nat.le_refl _, hib, HKE.out, hchgE, HIS.out⟩
      case round =>
        obtain ⟨wF, rfl⟩ : ∃ x : World, x = wr := ⟨_, rfl⟩
        obtain ⟨i2, rfl, hii, hi2b, hph, hchgF, hO⟩ := hrel
        have HO2 := Lib.hid hO; clear hO
        have HKF := Lib.hid hph; clear hph
        obtain ⟨k, hk⟩ : ∃ x, i2 = x + 1 := ⟨i2 - 1, by omega⟩
        have ek : (i2 : Int) - 1 = (k : Int) := by omega
        have wk : IntKind.i64.wrap (k : Int) = (k : Int) := i64_small (by omega) (by omega)
        have bk : k < i2 ∧ i2 ≤ k + 1 := by omega
        have Hk := Lib.hid hk; clear hk
        obtain ⟨c, hc⟩ : ∃ c, (decide (i2 < b) && !ltP dk[i2]! dk[k]!) = c := ⟨_, rfl⟩
        have HCC := Lib.hid hc; clear hc
        go_upto_region 5 with fail
        go_cut [36] from 19 to 36 (fun s wc => s = .bool c ∧ Below (World.heap wF).size wF wc)
        case first =>
          by_cases hle : i2 < b
          case neg =>
            go_wp2_with fail
            go_quiet (fail)
            go_wp2_with fail
            go_meet
            exact ⟨by rw [← HCC.out, decide_eq_false hle, Bool.false_and], bdrewN (Below.refl _ _) nq⟩
          case pos =>
            have x1 : (0 : Int) ≤ (i2 : Int) := by omega
            have x2 : (i2 : Int) < (d.size : Int) := by omega
            have x3 : (0 : Int) ≤ (k : Int) := by omega
            have x4 : (k : Int) < (d.size : Int) := by omega
            have hbl := HKF.out.lt (by have := HSE.out; omega)
            obtain ⟨p1, p3, p5⟩ := HKF.out i2 (by have := HSE.out; omega)
            obtain ⟨q1, q3, q5⟩ := HKF.out k (by have := HSE.out; omega)
            obtain ⟨pp, hpp⟩ : ∃ p, dk[i2]! = p := ⟨_, rfl⟩
            obtain ⟨qq, hqq⟩ : ∃ p, dk[k]! = p := ⟨_, rfl⟩
            rw [hpp] at p1 p5
            rw [hqq] at q1 q5
            have HPP := Lib.hid hpp; have HQQ := Lib.hid hqq; clear hpp hqq
            have hcmp := fun w hk => compareL_c pp qq w (Rd.below p5 hk) (Rd.below q5 hk)
            unfold lsV at hcmp
            have HCMP := Lib.hid hcmp; clear hcmp
            go_wp2_with fail
            go_region_held3 (fun w' => (w'.cell? ⟨blk, off + i2, none⟩ = some (.slice pp.adr pp.xs.length pp.cap)) ∧ w'.cell? ⟨blk, off + k, none⟩ = some (.slice qq.adr qq.xs.length qq.cap)) (exact ⟨by assumption, by assumption⟩)
              (first
                | (go_at_call 75; (with_reducible refine (HCMP.out _ (by with_reducible repeat' (first | exact Below.refl _ _ | apply Below.drew))).mono ?_); rintro e W1 ⟨⟨r, rfl, hr⟩, hw1⟩; have m1 := bcell hw1 hbl p1; have m3 := bcell hw1 hbl q1))
            clear HCMP
            go_wp2_with fail
            go_meet
            exact ⟨by rw [← HCC.out, decide_eq_true hle, Bool.true_and, HPP.out, HQQ.out], (Below.refl _ _).drew.trans hw1⟩
        case rest =>
          obtain ⟨rfl, hbc⟩ := hcut
          obtain ⟨wG, rfl⟩ : ∃ x : World, x = wc := ⟨_, rfl⟩
          have HKG := Lib.hid (HKF.out.below hbc)
          have hchgG := hchgF.trans (Chg.of_below hbc)
          clear hbc
          cases c
          case true =>
            have hle : i2 < b := by have := (Bool.and_eq_true_iff.1 HCC.out).1; simpa using this
            go_wp2_with fail
            go_roundw
            case rel => exact ⟨i2 + 1, by go_num, by omega, by omega, HKG.out, hchgG, by rw [← scanSorted_go (i := i2) (by rw [show i2 - 1 = k by omega]; exact HCC.out)]; exact HO2.out⟩
            case measure => simp [intOf]; omega
          case false =>
            have hX : i2 = IS := by rw [← HO2.out, scanSorted_stop (i := i2) (by rw [show i2 - 1 = k by omega]; exact HCC.out)]
            clear HCC
            subst hX
            by_cases hfin : i2 = b
            case pos =>
              have hR2 : R = (dk, true) := by rw [← HPL.out, show 5 - s = (5 - s - 1) + 1 by omega]; exact partialIns_done HIS.out hfin
              obtain rfl := hR2
              have ef : ((i2 : Int) == (b : Int)) = true := by rw [hfin]; exact beq_self_eq_true _
              clear hfin
              go_wp2_with fail
              go_ret
              exact ⟨rfl, HKG.out, hchgG, HSE.out⟩
            case neg =>
              have ef : ((i2 : Int) == (b : Int)) = false := by simp; omega
              by_cases h50 : b - a < 50
              case pos =>
                have hR2 : R = (dk, false) := by rw [← HPL.out, show 5 - s = (5 - s - 1) + 1 by omega]; exact partialIns_short HIS.out hfin h50
                obtain rfl := hR2
                have eL : (b : Int) - (a : Int) < 50 := by omega
                go_wp2_with fail
                go_ret
                exact ⟨rfl, HKG.out, hchgG, HSE.out⟩
              case neg =>
                have eL : ¬ ((b : Int) - (a : Int) < 50) := by omega
                go_upto_region 11 with fail
                go_cut [] from 46 to 46 (fun wc => PH wc blk off (swp dk i2 k) ∧ Chg blk w wc)
                case first =>
                  obtain ⟨p1, p3, _⟩ := HKG.out i2 (by have := HSE.out; omega)
                  obtain ⟨q1, q3, _⟩ := HKG.out k (by have := HSE.out; omega)
                  obtain ⟨pp, hpp⟩ : ∃ p, dk[i2]! = p := ⟨_, rfl⟩
                  obtain ⟨qq, hqq⟩ : ∃ p, dk[k]! = p := ⟨_, rfl⟩
                  rw [hpp] at p1
                  rw [hqq] at q1
                  have HPP := Lib.hid hpp; have HQQ := Lib.hid hqq; clear hpp hqq
                  have x1 : (0 : Int) ≤ (i2 : Int) := by omega
                  have x2 : (i2 : Int) < (d.size : Int) := by omega
                  have x3 : (0 : Int) ≤ (k : Int) := by omega
                  have x4 : (k : Int) < (d.size : Int) := by omega
                  by_cases hij : i2 = k
                  case pos =>
                    exact absurd hij (by omega)
                  case neg =>
                    have hSW := HKG.out.swap (i := i2) (j := k) (by have := HSE.out; omega) (by have := HSE.out; omega)
                    have hSC := swapW_chg wG blk off dk[i2]! dk[k]! i2 k
                    rw [HPP.out, HQQ.out] at hSW hSC
                    unfold swapW at hSW hSC
                    have HSW := Lib.hid hSW; have HSC := Lib.hid hSC; clear hSW hSC
                    go_wp2_with fail
                    go_region
                    go_wp2_with fail
                    go_meet
                    exact ⟨HSW.out.drew, (hchgG.trans HSC.out).trans (Chg.drew _ _)⟩
                case rest =>
                  obtain ⟨hph1, hchg1⟩ := hcut
                  obtain ⟨w1, rfl⟩ : ∃ x : World, x = wc := ⟨_, rfl⟩
                  have hs1 : (swp dk i2 k).size = d.size := (size_swp _ _ _).trans HSE.out
                  obtain ⟨D1, hD2⟩ : ∃ D2, swp dk i2 k = D2 := ⟨_, rfl⟩
                  rw [hD2] at hph1 hs1
                  have HK1 := Lib.hid hph1; have HS1 := Lib.hid hs1; have HD1 := Lib.hid hD2; clear hph1 hs1 hD2
                  obtain ⟨D2, hD2⟩ : ∃ x, Sort.fixDown ltP a i2 D1 = x := ⟨_, rfl⟩
                  have HD2 := Lib.hid hD2; clear hD2
                  go_upto_if 65 with fail
                  go_cut [] from 65 to 65 (fun wc => PH wc blk off D2 ∧ Chg blk w wc ∧ D2.size = d.size)
                  case first =>
                    by_cases h2 : i2 - a ≥ 2
                    case neg =>
                      have hv : D1 = D2 := by rw [← HD2.out]; unfold Sort.fixDown; rw [if_neg h2]
                      have e2 : ¬ ((2 : Int) ≤ (i2 : Int) - (a : Int)) := by omega
                      go_wp2_with fail
                      go_meet
                      exact ⟨hv ▸ HK1.out, hchg1, hv ▸ HS1.out⟩
                    case pos =>
                      have hv : Sort.shiftDown ltP k D1 = D2 := by rw [← HD2.out]; unfold Sort.fixDown; rw [if_pos h2, show i2 - 1 = k by omega]
                      have HV := Lib.hid hv; clear hv
                      have e2 : (2 : Int) ≤ (i2 : Int) - (a : Int) := by omega
                      go_wp2_with fail
                      go_loopw [11] (fun v wr => ∃ (j : Nat) (dj : Array Ls), v = .int .i64 j ∧ j ≤ k ∧ dj.size = d.size ∧ PH wr blk off dj ∧ Chg blk w wr ∧ Sort.shiftDown ltP j dj = D2) (fun v _ => (intOf v).toNat)
                      case atStart => exact ⟨k, D1, by first | rfl | go_num, Nat.le_refl _, HS1.out, HK1.out, hchg1, HV.out⟩
                      case round =>
                        obtain ⟨wH, rfl⟩ : ∃ x : World, x = wr := ⟨_, rfl⟩
                        obtain ⟨j, dj, rfl, hjk, hsj, hph, hchgH, hO⟩ := hrel
                        have HO3 := Lib.hid hO; have HKH := Lib.hid hph; have HSH := Lib.hid hsj; clear hO hph hsj
                        by_cases hj0 : j = 0
                        case pos =>
                          subst hj0
                          have hv : dj = D2 := HO3.out
                          go_wp2_with fail
                          go_meet
                          exact ⟨hv ▸ HKH.out, hchgH, hv ▸ HSH.out⟩
                        case neg =>
                          obtain ⟨m, hm⟩ : ∃ x, j = x + 1 := ⟨j - 1, by omega⟩
                          have em : (j : Int) - 1 = (m : Int) := by omega
                          have wm : IntKind.i64.wrap (m : Int) = (m : Int) := i64_small (by omega) (by omega)
                          have bm : m < j ∧ j ≤ m + 1 := by omega
                          have Hm := Lib.hid hm; clear hm
                          have ej1 : (1 : Int) ≤ (j : Int) := by omega
                          obtain ⟨c, hc⟩ : ∃ c, ltP dj[j]! dj[m]! = c := ⟨_, rfl⟩
                          have HCC := Lib.hid hc; clear hc
                          go_upto_region 16 with fail
                          go_cut [84] from 72 to 84 (fun s wc => s = .bool (!c) ∧ Below (World.heap wH).size wH wc)
                          case first =>
                            have x1 : (0 : Int) ≤ (j : Int) := by omega
                            have x2 : (j : Int) < (d.size : Int) := by omega
                            have x3 : (0 : Int) ≤ (m : Int) := by omega
                            have x4 : (m : Int) < (d.size : Int) := by omega
                            have hbl := HKH.out.lt (by have := HSH.out; omega)
                            obtain ⟨p1, p3, p5⟩ := HKH.out j (by have := HSH.out; omega)
                            obtain ⟨q1, q3, q5⟩ := HKH.out m (by have := HSH.out; omega)
                            obtain ⟨pp, hpp⟩ : ∃ p, dj[j]! = p := ⟨_, rfl⟩
                            obtain ⟨qq, hqq⟩ : ∃ p, dj[m]! = p := ⟨_, rfl⟩
                            rw [hpp] at p1 p5
                            rw [hqq] at q1 q5
                            have HPP := Lib.hid hpp; have HQQ := Lib.hid hqq; clear hpp hqq
                            have hcmp := fun w hk => compareL_c pp qq w (Rd.below p5 hk) (Rd.below q5 hk)
                            unfold lsV at hcmp
                            have HCMP := Lib.hid hcmp; clear hcmp
                            go_wp2_with fail
                            go_region_held3 (fun w' => (w'.cell? ⟨blk, off + j, none⟩ = some (.slice pp.adr pp.xs.length pp.cap)) ∧ w'.cell? ⟨blk, off + m, none⟩ = some (.slice qq.adr qq.xs.length qq.cap)) (exact ⟨by assumption, by assumption⟩)
                              (first
                                | (go_at_call 75; (with_reducible refine (HCMP.out _ (by with_reducible repeat' (first | exact Below.refl _ _ | apply Below.drew))).mono ?_); rintro e W1 ⟨⟨r, rfl, hr⟩, hw1⟩; have m1 := bcell hw1 hbl p1; have m3 := bcell hw1 hbl q1))
                            clear HCMP
                            go_wp2_with fail
                            go_meet
                            exact ⟨by rw [← HCC.out, HPP.out, HQQ.out], (Below.refl _ _).drew.trans hw1⟩
                          case rest =>
                            obtain ⟨rfl, hbc⟩ := hcut
                            obtain ⟨wI, rfl⟩ : ∃ x : World, x = wc := ⟨_, rfl⟩
                            have HKwI := Lib.hid (HKH.out.below hbc)
                            have hchgwI := hchgH.trans (Chg.of_below hbc)
                            clear hbc
                            cases c
                            case false =>
                              have hv : dj = D2 := by rw [← HO3.out]; exact (shiftDown_stop Hm.out HCC.out).symm
                              go_wp2_with fail
                              go_meet
                              exact ⟨hv ▸ HKwI.out, hchgwI, hv ▸ HSH.out⟩
                            case true =>
                                obtain ⟨p1, p3, _⟩ := HKwI.out j (by have := HSH.out; omega)
                                obtain ⟨q1, q3, _⟩ := HKwI.out m (by have := HSH.out; omega)
                                obtain ⟨pp, hpp⟩ : ∃ p, dj[j]! = p := ⟨_, rfl⟩
                                obtain ⟨qq, hqq⟩ : ∃ p, dj[m]! = p := ⟨_, rfl⟩
                                rw [hpp] at p1
                                rw [hqq] at q1
                                have HPP := Lib.hid hpp; have HQQ := Lib.hid hqq; clear hpp hqq
                                have x1 : (0 : Int) ≤ (j : Int) := by omega
                                have x2 : (j : Int) < (d.size : Int) := by omega
                                have x3 : (0 : Int) ≤ (m : Int) := by omega
                                have x4 : (m : Int) < (d.size : Int) := by omega
                                have hSW := HKwI.out.swap (i := j) (j := m) (by have := HSH.out; omega) (by have := HSH.out; omega)
                                have hSC := swapW_chg wI blk off dj[j]! dj[m]! j m
                                rw [HPP.out, HQQ.out] at hSW hSC
                                unfold swapW at hSW hSC
                                have HSW := Lib.hid hSW; have HSC := Lib.hid hSC; clear hSW hSC
                                go_wp2_with fail
                                go_region
                                have HK5 := Lib.hid HSW.out.drew
                                have hchg5 := (hchgwI.trans HSC.out).trans (Chg.drew _ _)
                                have HS5 := Lib.hid ((size_swp dj j m).trans HSH.out)
                                clear HSW HSC
                                go_wp2_with fail
                                go_roundw
                                case rel => first | exact ⟨m, swp dj j m, by first | rfl | go_num, by omega, HS5.out, HK5.out, hchg5, by rw [← HO3.out, shiftDown_go Hm.out HCC.out]⟩ | ((repeat apply Exists.intro); exact ⟨⟨m, swp dj j m, by first | rfl | go_num, by omega, HS5.out, HK5.out, hchg5, by rw [← HO3.out, shiftDown_go Hm.out HCC.out]⟩, rfl⟩)
                                case measure => simp [intOf]; omega
                  case rest =>
                    obtain ⟨hph2, hchg2, hs2⟩ := hcut
                    obtain ⟨w2, rfl⟩ : ∃ x : World, x = wc := ⟨_, rfl⟩
                    have HK2 := Lib.hid hph2; have HS2 := Lib.hid hs2; clear hph2 hs2
                    obtain ⟨D3, hD3⟩ : ∃ x, Sort.fixUp ltP b i2 D2 = x := ⟨_, rfl⟩
                    have HD3 := Lib.hid hD3; clear hD3
                    by_cases h2 : b - i2 ≥ 2
                    case neg =>
                      have hv : D2 = D3 := by rw [← HD3.out]; unfold Sort.fixUp; rw [if_neg h2]
                      have HV0 := Lib.hid (HD3.out.trans hv.symm); clear hv
                      have e2 : ¬ ((2 : Int) ≤ (b : Int) - (i2 : Int)) := by omega
                      have HEQ := Lib.hid (show Sort.partialIns ltP a b (5 - (s + 1)) i2 D2 = R by rw [← HPL.out, show 5 - s = (5 - (s + 1)) + 1 by omega]; exact (partialIns_go HIS.out hfin h50 (by omega) HD1.out HD2.out HV0.out).symm)
                      go_wp2_with fail
                      go_roundw
                      case rel => first | exact ⟨i2, s + 1, D2, by first | rfl | go_num, by first | rfl | go_num, by omega, by omega, by omega, HS2.out, HK2.out, hchg2, HEQ.out⟩ | ((repeat apply Exists.intro); exact ⟨⟨i2, s + 1, D2, by first | rfl | go_num, by first | rfl | go_num, by omega, by omega, by omega, HS2.out, HK2.out, hchg2, HEQ.out⟩, rfl⟩)
                      case measure => simp [intOf]; omega
                    case pos =>
                      have hv : Sort.shiftUp ltP b (i2 + 1) D2 = D3 := by rw [← HD3.out]; unfold Sort.fixUp; rw [if_pos h2]
                      have HV := Lib.hid hv; clear hv
                      have e2 : (2 : Int) ≤ (b : Int) - (i2 : Int) := by omega
                      go_wp2_with fail
                      go_loopw [12] (fun v wr => ∃ (j : Nat) (dj : Array Ls), v = .int .i64 j ∧ i2 < j ∧ j ≤ b ∧ dj.size = d.size ∧ PH wr blk off dj ∧ Chg blk w wr ∧ Sort.shiftUp ltP b j dj = D3) (fun v _ => b + 1 - (intOf v).toNat)
                      case atStart => exact ⟨i2 + 1, D2, by first | rfl | go_num, by omega, by omega, HS2.out, HK2.out, hchg2, HV.out⟩
                      case round =>
                        obtain ⟨wH, rfl⟩ : ∃ x : World, x = wr := ⟨_, rfl⟩
                        obtain ⟨j, dj, rfl, hij, hjb, hsj, hph, hchgH, hO⟩ := hrel
                        have HO3 := Lib.hid hO; have HKH := Lib.hid hph; have HSH := Lib.hid hsj; clear hO hph hsj
                        by_cases hj0 : j < b
                        case neg =>
                          have hv : dj = D3 := by rw [← HO3.out]; exact (shiftUp_end hj0).symm
                          have HV0 := Lib.hid (HD3.out.trans hv.symm); clear hv
                          have HEQ := Lib.hid (show Sort.partialIns ltP a b (5 - (s + 1)) i2 dj = R by rw [← HPL.out, show 5 - s = (5 - (s + 1)) + 1 by omega]; exact (partialIns_go HIS.out hfin h50 (by omega) HD1.out HD2.out HV0.out).symm)
                          go_wp2_with fail
                          go_roundw
                          case rel => first | exact ⟨i2, s + 1, dj, by first | rfl | go_num, by first | rfl | go_num, by omega, by omega, by omega, HSH.out, HKH.out, hchgH, HEQ.out⟩ | ((repeat apply Exists.intro); exact ⟨⟨i2, s + 1, dj, by first | rfl | go_num, by first | rfl | go_num, by omega, by omega, by omega, HSH.out, HKH.out, hchgH, HEQ.out⟩, rfl⟩)
                          case measure => simp [intOf]; omega
                        case pos =>
                          obtain ⟨m, hm⟩ : ∃ x, j = x + 1 := ⟨j - 1, by omega⟩
                          have em : (j : Int) - 1 = (m : Int) := by omega
                          have wm : IntKind.i64.wrap (m : Int) = (m : Int) := i64_small (by omega) (by omega)
                          have bm : m < j ∧ j ≤ m + 1 := by omega
                          have Hm := Lib.hid hm; clear hm
                          obtain ⟨c, hc⟩ : ∃ c, ltP dj[j]! dj[m]! = c := ⟨_, rfl⟩
                          have HCC := Lib.hid hc; clear hc
                          go_upto_region 22 with fail
                          go_cut [124] from 112 to 124 (fun s wc => s = .bool (!c) ∧ Below (World.heap wH).size wH wc)
                          case first =>
                            have x1 : (0 : Int) ≤ (j : Int) := by omega
                            have x2 : (j : Int) < (d.size : Int) := by omega
                            have x3 : (0 : Int) ≤ (m : Int) := by omega
                            have x4 : (m : Int) < (d.size : Int) := by omega
                            have hbl := HKH.out.lt (by have := HSH.out; omega)
                            obtain ⟨p1, p3, p5⟩ := HKH.out j (by have := HSH.out; omega)
                            obtain ⟨q1, q3, q5⟩ := HKH.out m (by have := HSH.out; omega)
                            obtain ⟨pp, hpp⟩ : ∃ p, dj[j]! = p := ⟨_, rfl⟩
                            obtain ⟨qq, hqq⟩ : ∃ p, dj[m]! = p := ⟨_, rfl⟩
                            rw [hpp] at p1 p5
                            rw [hqq] at q1 q5
                            have HPP := Lib.hid hpp; have HQQ := Lib.hid hqq; clear hpp hqq
                            have hcmp := fun w hk => compareL_c pp qq w (Rd.below p5 hk) (Rd.below q5 hk)
                            unfold lsV at hcmp
                            have HCMP := Lib.hid hcmp; clear hcmp
                            go_wp2_with fail
                            go_region_held3 (fun w' => (w'.cell? ⟨blk, off + j, none⟩ = some (.slice pp.adr pp.xs.length pp.cap)) ∧ w'.cell? ⟨blk, off + m, none⟩ = some (.slice qq.adr qq.xs.length qq.cap)) (exact ⟨by assumption, by assumption⟩)
                              (first
                                | (go_at_call 75; (with_reducible refine (HCMP.out _ (by with_reducible repeat' (first | exact Below.refl _ _ | apply Below.drew))).mono ?_); rintro e W1 ⟨⟨r, rfl, hr⟩, hw1⟩; have m1 := bcell hw1 hbl p1; have m3 := bcell hw1 hbl q1))
                            clear HCMP
                            go_wp2_with fail
                            go_meet
                            exact ⟨by rw [← HCC.out, HPP.out, HQQ.out], (Below.refl _ _).drew.trans hw1⟩
                          case rest =>
                            obtain ⟨rfl, hbc⟩ := hcut
                            obtain ⟨wI, rfl⟩ : ∃ x : World, x = wc := ⟨_, rfl⟩
                            have HKwI := Lib.hid (HKH.out.below hbc)
                            have hchgwI := hchgH.trans (Chg.of_below hbc)
                            clear hbc
                            cases c
                            case false =>
                              have hv : dj = D3 := by rw [← HO3.out]; exact (shiftUp_stop Hm.out hj0 HCC.out).symm
                              have HV0 := Lib.hid (HD3.out.trans hv.symm); clear hv
                              have HEQ := Lib.hid (show Sort.partialIns ltP a b (5 - (s + 1)) i2 dj = R by rw [← HPL.out, show 5 - s = (5 - (s + 1)) + 1 by omega]; exact (partialIns_go HIS.out hfin h50 (by omega) HD1.out HD2.out HV0.out).symm)
                              go_wp2_with fail
                              go_roundw
                              case rel => first | exact ⟨i2, s + 1, dj, by first | rfl | go_num, by first | rfl | go_num, by omega, by omega, by omega, HSH.out, HKwI.out, hchgwI, HEQ.out⟩ | ((repeat apply Exists.intro); exact ⟨⟨i2, s + 1, dj, by first | rfl | go_num, by first | rfl | go_num, by omega, by omega, by omega, HSH.out, HKwI.out, hchgwI, HEQ.out⟩, rfl⟩)
                              case measure => simp [intOf]; omega
                            case true =>
                              obtain ⟨p1, p3, _⟩ := HKwI.out j (by have := HSH.out; omega)
                              obtain ⟨q1, q3, _⟩ := HKwI.out m (by have := HSH.out; omega)
                              obtain ⟨pp, hpp⟩ : ∃ p, dj[j]! = p := ⟨_, rfl⟩
                              obtain ⟨qq, hqq⟩ : ∃ p, dj[m]! = p := ⟨_, rfl⟩
                              rw [hpp] at p1
                              rw [hqq] at q1
                              have HPP := Lib.hid hpp; have HQQ := Lib.hid hqq; clear hpp hqq
                              have x1 : (0 : Int) ≤ (j : Int) := by omega
                              have x2 : (j : Int) < (d.size : Int) := by omega
                              have x3 : (0 : Int) ≤ (m : Int) := by omega
                              have x4 : (m : Int) < (d.size : Int) := by omega
                              have hSW := HKwI.out.swap (i := j) (j := m) (by have := HSH.out; omega) (by have := HSH.out; omega)
                              have hSC := swapW_chg wI blk off dj[j]! dj[m]! j m
                              rw [HPP.out, HQQ.out] at hSW hSC
                              unfold swapW at hSW hSC
                              have HSW := Lib.hid hSW; have HSC := Lib.hid hSC; clear hSW hSC
                              go_wp2_with fail
                              go_region
                              have HK5 := Lib.hid HSW.out.drew
                              have hchg5 := (hchgwI.trans HSC.out).trans (Chg.drew _ _)
                              have HS5 := Lib.hid ((size_swp dj j m).trans HSH.out)
                              clear HSW HSC
                              go_wp2_with fail
                              go_roundw
                              case rel => first | exact ⟨j + 1, swp dj j m, by first | rfl | go_num, by omega, by omega, HS5.out, HK5.out, hchg5, by rw [← HO3.out, shiftUp_go Hm.out hj0 HCC.out]⟩ | ((repeat apply Exists.intro); exact ⟨⟨j + 1, swp dj j m, by first | rfl | go_num, by omega, by omega, HS5.out, HK5.out, hchg5, by rw [← HO3.out, shiftUp_go Hm.out hj0 HCC.out]⟩, rfl⟩)
                              case measure => simp [intOf]; omega


end LstSort
end Go.Proofs.YtcionneopgdebaaGreat
