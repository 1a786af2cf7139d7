/-
  The library's choice of a pivot, the reversal of a range. Printed by gen_sort.py.
-/
import Derived.Test.YtbafgmicpopnoaaGreatDoorTmsP
import Derived.Deep.DeepCutAuto
namespace Go.Proofs.YtbafgmicpopnoaaGreatDoor
namespace TmsSort
open Go.RowKit
open Go.Sort (SWO swp swp_left swp_right swp_other size_swp insInner insOuter Hint)

theorem median_bd {d : Array Tm} {a b c n : Nat} : ((Sort.median ltTm d a b c n).1 = a ∨ (Sort.median ltTm d a b c n).1 = b ∨ (Sort.median ltTm d a b c n).1 = c) ∧ (Sort.median ltTm d a b c n).2 ≤ n + 3 := by
  have hm : Sort.median ltTm d a b c n = (let r1 := Sort.order2 ltTm d a b n; let r2 := Sort.order2 ltTm d r1.2.1 c r1.2.2; let r3 := Sort.order2 ltTm d r1.1 r2.1 r2.2.2; (r3.2.1, r3.2.2)) := rfl
  have o1 := order2_bd (d := d) (a := a) (b := b) (n := n)
  generalize Sort.order2 ltTm d a b n = r1 at hm o1
  obtain ⟨r11, r12, r13⟩ := r1
  simp only at hm o1
  have o2 := order2_bd (d := d) (a := r12) (b := c) (n := r13)
  generalize Sort.order2 ltTm d r12 c r13 = r2 at hm o2
  obtain ⟨r21, r22, r23⟩ := r2
  simp only at hm o2
  have o3 := order2_bd (d := d) (a := r11) (b := r21) (n := r23)
  generalize Sort.order2 ltTm d r11 r21 r23 = r3 at hm o3
  obtain ⟨r31, r32, r33⟩ := r3
  simp only at hm o3
  rw [hm]
  show (r32 = a ∨ r32 = b ∨ r32 = c) ∧ r33 ≤ n + 3
  omega
theorem medianAdjacent_bd {d : Array Tm} {a n : Nat} (h1 : 1 ≤ a) (h2 : a + 1 < d.size) : (Sort.medianAdjacent ltTm d a n).1 < d.size ∧ (Sort.medianAdjacent ltTm d a n).2 ≤ n + 3 := by
  have := median_bd (d := d) (a := a - 1) (b := a) (c := a + 1) (n := n)
  unfold Sort.medianAdjacent
  omega

def hintZ : Hint → Int
  | .unknown => 0
  | .increasing => 1
  | .decreasing => 2
theorem chg_fresh {w w' : World} {o : Obj} (h : Chg w.heap.size (w.alloc o) w') : Below w.heap.size w w' :=
  ((Below.refl w.heap.size w).alloc (Nat.le_refl _) o).trans (h.below (Nat.le_refl _) (by simp))
def hintOf (n : Nat) : Hint := if n = 0 then .increasing else if n = 12 then .decreasing else .unknown
theorem choosePivot_eq (d : Array Tm) (a b L Q : Nat) (hL : b - a = L) (hQ : L / 4 = Q) : Sort.choosePivot ltTm d a b =
    (let r : Nat × Nat := if L ≥ 8 then (if L ≥ 50 then (let ri := Sort.medianAdjacent ltTm d (a + Q) 0; let rj := Sort.medianAdjacent ltTm d (a + Q * 2) ri.2; let rk := Sort.medianAdjacent ltTm d (a + Q * 3) rj.2; Sort.median ltTm d ri.1 rj.1 rk.1 rk.2) else Sort.median ltTm d (a + Q) (a + Q * 2) (a + Q * 3) 0) else (a + Q * 2, 0)
     (r.1, hintOf r.2)) := by
  subst hL; subst hQ
  unfold Sort.choosePivot hintOf
  simp only [Nat.mul_one]

set_option maxHeartbeats 3200000 in
set_option maxRecDepth 100000 in
theorem choosePivot_c (blk off cap a b : Nat) (d : Array Tm) (w : World) (hH : PH w blk off d) (hab : a < b) (hb : b ≤ d.size) (hsz : d.size < 2305843009213693952) :
    Calls Tryz.prog 93 #[.slice (some ⟨blk, off, none⟩) d.size cap, .int .i64 a, .int .i64 b, cmpV] w fun e w' => e = .returned (.tuple #[.int .i64 (Sort.choosePivot ltTm d a b).1, .int .i64 (hintZ (Sort.choosePivot ltTm d a b).2)]) ∧ Below w.heap.size w w' := by
  have hbl := hH.lt (by omega)
  have hne : blk ≠ w.heap.size := by omega
  obtain ⟨L, hL⟩ : ∃ L, b - a = L := ⟨_, rfl⟩
  obtain ⟨Q, hQ⟩ : ∃ Q, L / 4 = Q := ⟨_, rfl⟩
  obtain ⟨R, hR⟩ : ∃ R, Sort.choosePivot ltTm d a b = R := ⟨_, rfl⟩
  rw [hR]
  rw [choosePivot_eq d a b L Q hL hQ] at hR
  have e0 : (b : Int) - (a : Int) = (L : Int) := by omega
  have e1 : IntKind.i64.wrap (L : Int) = (L : Int) := i64_small (by omega) (by omega)
  have e2 : (L : Int).tdiv 4 = (Q : Int) := by rw [Int.tdiv_eq_ediv_of_nonneg (by omega)]; omega
  have hq4 : Q * 4 ≤ L := by omega
  have HL := Lib.hid hL; have HQ := Lib.hid hQ; have HR := Lib.hid hR; clear hL hQ hR
  have HJ := Lib.hid hH; clear hH
  have hs : SwA (w.alloc (.cells #[.int .i64 0] 3)) w.heap.size 0 := ⟨World.cell?_alloc_at _ _ _ _ rfl, World.frozen?_alloc_at _ _ _ _ rfl⟩
  have HS := Lib.hid hs; clear hs
  obtain ⟨I, hI⟩ : ∃ I, a + Q = I := ⟨_, rfl⟩
  obtain ⟨J, hJ⟩ : ∃ J, a + Q * 2 = J := ⟨_, rfl⟩
  obtain ⟨K, hK⟩ : ∃ K, a + Q * 3 = K := ⟨_, rfl⟩
  rw [hI, hJ, hK] at HR
  have f1 : (a : Int) + (Q : Int) = (I : Int) := by omega
  have f2 : (a : Int) + (Q : Int) * 2 = (J : Int) := by omega
  have f3 : (a : Int) + (Q : Int) * 3 = (K : Int) := by omega
  have bI : I < d.size ∧ J < d.size ∧ K < d.size ∧ (8 ≤ L → 1 ≤ I ∧ 1 ≤ J ∧ 1 ≤ K ∧ I + 1 < d.size ∧ J + 1 < d.size ∧ K + 1 < d.size) := by have := HL.out; have := HQ.out; omega
  have HBI := Lib.hid bI; clear bI hI hJ hK
  unfold cmpV
  by_cases h8 : L < 8
  case pos =>
    have hR2 : R = (J, Hint.increasing) := by rw [← HR.out, if_neg (by omega)]; rfl
    obtain rfl := hR2
    have g8 : (L : Int) < 8 := by omega
    go_enter Tryz.func93, Tryz.ntmps93
    go_wp2_with fail
    go_ret2
    exact ⟨rfl, (Below.refl _ _).alloc (Nat.le_refl _) _⟩
  case neg =>
    rw [if_pos (by omega)] at HR
    have g8 : (8 : Int) ≤ L := by omega
    have HJ1 := Lib.hid (HJ.out.below ((Below.refl _ _).alloc (Nat.le_refl _) (.cells #[.int .i64 0] 3)))
    by_cases h50 : L < 50
    case pos =>
      rw [if_neg (by omega)] at HR
      have g50 : (L : Int) < 50 := by omega
      have cm := Lib.hid (fun w hH hs => median_c blk off cap _ 0 I J K d w hH hs (by omega) (by have := HBI.out; omega) (by have := HBI.out; omega) (by have := HBI.out; omega) hne)
      generalize Sort.median ltTm d I J K 0 = r at cm HR
      obtain ⟨m, n⟩ := r
      simp only at HR
      go_enter Tryz.func93, Tryz.ntmps93
      go_wp2_with fail
      refine (cm.out _ HJ1.out HS.out).mono ?_
      rintro e w1 ⟨rfl, hs1, hc1, hm1, hn1⟩
      have HS1 := Lib.hid hs1; clear hs1
      obtain ⟨sc1, sc2⟩ := HS1.out
      have hfin := Lib.hid (chg_fresh (hc1))
      by_cases h0 : n = 0
      case pos =>
        have hR2 : R = (m, Hint.increasing) := by rw [← HR.out]; unfold hintOf; rw [if_pos h0]
        obtain rfl := hR2
        subst h0
        go_wp2_with fail
        go_ret2
        exact ⟨rfl, hfin.out⟩
      case neg =>
        by_cases h12 : n = 12
        case pos =>
          have hR2 : R = (m, Hint.decreasing) := by rw [← HR.out]; unfold hintOf; rw [if_neg h0, if_pos h12]
          obtain rfl := hR2
          subst h12
          go_wp2_with fail
          go_ret2
          exact ⟨rfl, hfin.out⟩
        case neg =>
          have hR2 : R = (m, Hint.unknown) := by rw [← HR.out]; unfold hintOf; rw [if_neg h0, if_neg h12]
          obtain rfl := hR2
          have z1 : ((n : Int) == 0) = false := by simp; omega
          have z2 : ((n : Int) == 12) = false := by simp; omega
          go_wp2_with fail
          go_ret2
          exact ⟨rfl, hfin.out⟩
    case neg =>
      rw [if_pos (by omega)] at HR
      have g50 : (50 : Int) ≤ L := by omega
      have bi := medianAdjacent_bd (d := d) (a := I) (n := 0) (by have := HBI.out; omega) (by have := HBI.out; omega)
      have cI := Lib.hid (fun w hH hs => medianAdjacent_c blk off cap _ 0 I d w hH hs (by omega) (by have := HBI.out; omega) (by have := HBI.out; omega) hsz hne)
      generalize Sort.medianAdjacent ltTm d I 0 = ri at bi cI HR
      obtain ⟨mi, ni⟩ := ri
      simp only at bi HR
      have bj := medianAdjacent_bd (d := d) (a := J) (n := ni) (by have := HBI.out; omega) (by have := HBI.out; omega)
      have cJ := Lib.hid (fun w hH hs => medianAdjacent_c blk off cap _ ni J d w hH hs (by omega) (by have := HBI.out; omega) (by have := HBI.out; omega) hsz hne)
      generalize Sort.medianAdjacent ltTm d J ni = rj at bj cJ HR
      obtain ⟨mj, nj⟩ := rj
      simp only at bj HR
      have bk := medianAdjacent_bd (d := d) (a := K) (n := nj) (by have := HBI.out; omega) (by have := HBI.out; omega)
      have cK := Lib.hid (fun w hH hs => medianAdjacent_c blk off cap _ nj K d w hH hs (by omega) (by have := HBI.out; omega) (by have := HBI.out; omega) hsz hne)
      generalize Sort.medianAdjacent ltTm d K nj = rk at bk cK HR
      obtain ⟨mk, nk⟩ := rk
      simp only at bk HR
      have cm := Lib.hid (fun w hH hs => median_c blk off cap _ nk mi mj mk d w hH hs (by omega) (by omega) (by omega) (by omega) hne)
      generalize Sort.median ltTm d mi mj mk nk = r at cm HR
      obtain ⟨m, n⟩ := r
      simp only at HR
      clear bi bj bk
      go_enter Tryz.func93, Tryz.ntmps93
      go_wp2_with fail
      refine (cI.out _ HJ1.out HS.out).mono ?_
      rintro e w1 ⟨rfl, hs1, hc1, _, _⟩
      have HS1 := Lib.hid hs1; clear hs1
      have HJ2 := Lib.hid (HJ1.out.chg hc1 hne)
      go_wp2_with fail
      refine (cJ.out _ HJ2.out HS1.out).mono ?_
      rintro e w2 ⟨rfl, hs2, hc2, _, _⟩
      have HS2 := Lib.hid hs2; clear hs2
      have HJ3 := Lib.hid (HJ2.out.chg hc2 hne)
      go_wp2_with fail
      refine (cK.out _ HJ3.out HS2.out).mono ?_
      rintro e w3 ⟨rfl, hs3, hc3, _, _⟩
      have HS3 := Lib.hid hs3; clear hs3
      have HJ4 := Lib.hid (HJ3.out.chg hc3 hne)
      go_wp2_with fail
      refine (cm.out _ HJ4.out HS3.out).mono ?_
      rintro e w4 ⟨rfl, hs4, hc4, _, _⟩
      have HS4 := Lib.hid hs4; clear hs4
      obtain ⟨sc1, sc2⟩ := HS4.out
      have hfin := Lib.hid (chg_fresh (((hc1.trans hc2).trans hc3).trans hc4))
      by_cases h0 : n = 0
      case pos =>
        have hR2 : R = (m, Hint.increasing) := by rw [← HR.out]; unfold hintOf; rw [if_pos h0]
        obtain rfl := hR2
        subst h0
        go_wp2_with fail
        go_ret2
        exact ⟨rfl, hfin.out⟩
      case neg =>
        by_cases h12 : n = 12
        case pos =>
          have hR2 : R = (m, Hint.decreasing) := by rw [← HR.out]; unfold hintOf; rw [if_neg h0, if_pos h12]
          obtain rfl := hR2
          subst h12
          go_wp2_with fail
          go_ret2
          exact ⟨rfl, hfin.out⟩
        case neg =>
          have hR2 : R = (m, Hint.unknown) := by rw [← HR.out]; unfold hintOf; rw [if_neg h0, if_neg h12]
          obtain rfl := hR2
          have z1 : ((n : Int) == 0) = false := by simp; omega
          have z2 : ((n : Int) == 12) = false := by simp; omega
          go_wp2_with fail
          go_ret2
          exact ⟨rfl, hfin.out⟩

theorem reverseLoop_go {i j : Nat} {d : Array Tm} (h : i < j) : Sort.reverseLoop i j d = Sort.reverseLoop (i + 1) (j - 1) (swp d i j) := by rw [Sort.reverseLoop, if_pos h]
theorem reverseLoop_stop {i j : Nat} {d : Array Tm} (h : ¬ i < j) : Sort.reverseLoop i j d = d := by rw [Sort.reverseLoop, if_neg h]

set_option maxHeartbeats 3200000 in
set_option maxRecDepth 100000 in
theorem reverseRange_c (blk off cap a b : Nat) (d : Array Tm) (w : World) (hH : PH w blk off d) (hab : a < b) (hb : b ≤ d.size) (hsz : d.size < 2305843009213693952) :
    Calls Tryz.prog 94 #[.slice (some ⟨blk, off, none⟩) d.size cap, .int .i64 a, .int .i64 b, cmpV] w (SortsTo w blk off d.size (Sort.reverseRange d a b)) := by
  have HP := Lib.hid hH; clear hH
  unfold cmpV
  obtain ⟨b1, hb1⟩ : ∃ b1, b = b1 + 1 := ⟨b - 1, by omega⟩
  have e0 : (b : Int) - 1 = (b1 : Int) := by omega
  have HB1 := Lib.hid hb1; clear hb1
  go_enter Tryz.func94, Tryz.ntmps94
  go_wp2_with fail
  go_loopw [8, 9] (fun vi vj wr => ∃ (i j : Nat) (dk : Array Tm), vi = .int .i64 i ∧ vj = .int .i64 j ∧ a ≤ i ∧ i ≤ b ∧ j < b ∧ dk.size = d.size ∧ PH wr blk off dk ∧ Chg blk w wr ∧ Sort.reverseLoop i j dk = Sort.reverseLoop a (b - 1) d) (fun _ vj _ => (intOf vj).toNat)
  case atStart => exact ⟨a, b1, d, by first | rfl | go_num, rfl, by omega, by omega, by have := HB1.out; omega, rfl, HP.out, Chg.refl _ _, by rw [show b - 1 = b1 by have := HB1.out; omega]⟩
  case round =>
    obtain ⟨i, j, dk, rfl, rfl, hai, hib, hjb, hsk, hph, hchg, hO⟩ := hrel
    have HO := Lib.hid hO; clear hO
    have HK := Lib.hid hph; clear hph
    have HSK := Lib.hid hsk; clear hsk
    by_cases hlt : i < j
    case neg =>
      go_wp2_with fail
      go_end0
      refine ⟨rfl, ?_, hchg, ?_⟩
      all_goals unfold Sort.reverseRange
      all_goals rw [← HO.out, reverseLoop_stop hlt]
      · exact HK.out
      · exact HSK.out
    case pos =>
      obtain ⟨k, hk⟩ : ∃ k, j = k + 1 := ⟨j - 1, by omega⟩
      have e1 : (j : Int) - 1 = (k : Int) := by omega
      have x1 : (0 : Int) ≤ (i : Int) := by omega
      have x2 : (i : Int) < (d.size : Int) := by omega
      have x3 : (0 : Int) ≤ (j : Int) := by omega
      have x4 : (j : Int) < (d.size : Int) := by omega
      have HK1 := Lib.hid hk; clear hk
      obtain ⟨p1, p2, p6, p3, p4, p7, p5⟩ := HK.out i (by have := HSK.out; omega)
      obtain ⟨q1, q2, q6, q3, q4, q7, q5⟩ := HK.out j (by have := HSK.out; omega)
      obtain ⟨pp, hpp⟩ : ∃ p, dk[i]! = p := ⟨_, rfl⟩
      obtain ⟨qq, hqq⟩ : ∃ p, dk[j]! = p := ⟨_, rfl⟩
      rw [hpp] at p1 p2 p6 p5
      rw [hqq] at q1 q2 q6 q5
      have HPP := Lib.hid hpp; have HQQ := Lib.hid hqq; clear hpp hqq
      have hSW := HK.out.swap (i := i) (j := j) (by have := HSK.out; omega) (by have := HSK.out; omega)
      have hSC := swapW_chg wr blk off dk[i]! dk[j]! i j
      rw [HPP.out, HQQ.out] at hSW hSC
      unfold swapW at hSW hSC
      have HSW := Lib.hid hSW; have HSC := Lib.hid hSC; clear hSW hSC
      go_wp2_with fail
      go_region
      go_wp2_with fail
      go_roundw
      case rel => exact ⟨i + 1, k, swp dk i j, by go_num, rfl, by omega, by omega, by have := HK1.out; omega, by rw [size_swp]; exact HSK.out, HSW.out.drew, (hchg.trans HSC.out).trans (Chg.drew _ _), by rw [← HO.out, reverseLoop_go hlt, show j - 1 = k by have := HK1.out; omega]⟩
      case measure => simp [intOf]; have := HK1.out; omega


end TmsSort
end Go.Proofs.YtbafgmicpopnoaaGreatDoor
