/-
  Some texts of this proof in one: ArE ArF ArG. Each part tells what it proves. By an AI agent.
-/
import Derived.Test.YtapbdfkaaeoonaaPolyT
import Derived.Test.YtapbdfkaaeoonaaHalf
import Derived.Test.YtapbdfkaaeoonaaGeA

/-
  The sum of two polygons: program and reference. By an AI agent.
-/
namespace Go.Proofs.Ytapbdfkaaeoonaa
open Go.RowKit

def addP (p q : Pt) : Pt := ⟨p.x + q.x, p.y + q.y⟩
/-- All sums of the first k points with all of the other list. -/
def sumTo (a b : List Pt) : Nat → List Pt
  | 0 => []
  | k + 1 => sumTo a b k ++ b.map (addP (a.getD k default))
def sumL (a b : List Pt) : List Pt := sumTo a b a.length
theorem sumTo_len (a b : List Pt) : ∀ k, (sumTo a b k).length = k * b.length
  | 0 => by simp [sumTo]
  | k + 1 => by simp only [sumTo, List.length_append, List.length_map, sumTo_len a b k]; rw [Nat.succ_mul]
theorem sumTo_mem (a b : List Pt) (z : Pt) : ∀ k, k ≤ a.length → (z ∈ sumTo a b k ↔ ∃ i, i < k ∧ ∃ y, y ∈ b ∧ z = addP (a.getD i default) y)
  | 0, _ => by simp [sumTo]
  | k + 1, h => by
    rw [sumTo, List.mem_append, sumTo_mem a b z k (by omega), List.mem_map]
    constructor
    · rintro (⟨i, hi, y, hy, e⟩ | ⟨y, hy, e⟩)
      · exact ⟨i, by omega, y, hy, e⟩
      · exact ⟨k, by omega, y, hy, e.symm⟩
    · rintro ⟨i, hi, y, hy, e⟩
      by_cases hk : i = k
      · subst hk; exact Or.inr ⟨y, hy, e.symm⟩
      · exact Or.inl ⟨i, by omega, y, hy, e⟩
theorem sumL_mem (a b : List Pt) (z : Pt) : z ∈ sumL a b ↔ ∃ x, x ∈ a ∧ ∃ y, y ∈ b ∧ z = addP x y := by
  unfold sumL
  rw [sumTo_mem a b z _ (Nat.le_refl _)]
  constructor
  · rintro ⟨i, hi, y, hy, e⟩
    exact ⟨_, by rw [List.getD_eq_getElem?_getD, List.getElem?_eq_getElem hi]; exact List.getElem_mem hi, y, hy, e⟩
  · rintro ⟨x, hx, y, hy, e⟩
    obtain ⟨i, hi, ex⟩ := List.getElem_of_mem hx
    exact ⟨i, hi, y, hy, by rw [List.getD_eq_getElem?_getD, List.getElem?_eq_getElem hi, Option.getD_some, ex]; exact e⟩
theorem ptsB_mem {l : List Pt} (h : ptsB l = true) {p : Pt} (hp : p ∈ l) : ptB p = true := by
  unfold ptsB at h
  exact List.all_eq_true.1 (Bool.and_eq_true_iff.1 h).2 p hp
theorem ptB_bd {p : Pt} (h : ptB p = true) : (-100 ≤ p.x ∧ p.x ≤ 100) ∧ -100 ≤ p.y ∧ p.y ≤ 100 := by
  unfold ptB at h
  obtain ⟨h1, h2⟩ := Bool.and_eq_true_iff.1 h
  exact ⟨inB_t.1 h1, inB_t.1 h2⟩
theorem sumL_sh {a b : List Pt} (ha : ptsB a = true) (hb : ptsB b = true) : AllSh (sumL a b) := by
  intro z hz
  obtain ⟨x, hx, y, hy, e⟩ := (sumL_mem a b z).1 hz
  have h1 := ptB_bd (ptsB_mem ha hx)
  have h2 := ptB_bd (ptsB_mem hb hy)
  subst e
  unfold Sh addP
  simp only
  omega
theorem sumL_len {a b : List Pt} (ha : ptsB a = true) (hb : ptsB b = true) : 0 < (sumL a b).length ∧ (sumL a b).length ≤ 1600 := by
  obtain ⟨h1, h2, _⟩ := ptsB_t ha
  obtain ⟨h3, h4, _⟩ := ptsB_t hb
  unfold sumL
  rw [sumTo_len]
  have h5 := Nat.mul_le_mul h1 h3
  have h6 := Nat.mul_le_mul h2 h4
  omega
theorem map_take_snoc (b : List Pt) (f : Pt → Pt) (j : Nat) (h : j < b.length) : (b.take (j + 1)).map f = (b.take j).map f ++ [f (b.getD j default)] := by
  rw [List.take_succ_eq_append_getElem h, List.map_append, List.getD_eq_getElem?_getD, List.getElem?_eq_getElem h, Option.getD_some]; rfl

set_option maxHeartbeats 800000 in
theorem plus_c (p q : Pt) (w : World) (hp : Sm p) (hq : Sm q) :
    Calls Try.prog 46 #[ptV p, ptV q] w fun e w' => e = .returned (ptV (addP p q)) ∧ Below w.heap.size w w' := by
  obtain ⟨a, b⟩ := p
  obtain ⟨c, d⟩ := q
  obtain ⟨h1, h2, h3, h4⟩ := hp
  obtain ⟨h5, h6, h7, h8⟩ := hq
  simp only at h1 h2 h3 h4 h5 h6 h7 h8
  have e1 : IntKind.i64.wrap (a + c) = a + c := i64_small (by omega) (by omega)
  have e2 : IntKind.i64.wrap (b + d) = b + d := i64_small (by omega) (by omega)
  unfold ptV addP
  go_enter Try.func46, Try.ntmps46
  go_wp2_with fail
  exact bodyPost_ret (v := .agg #[.int .i64 (a + c), .int .i64 (b + d)]) (by simp [results, Try.results46, go_sem]) rfl ⟨rfl, (((Below.refl _ _).alloc (Nat.le_refl _) _).alloc (by simp) _).alloc (by simp; omega) _⟩

/-- The sum and whether it is a polygon. -/
def sumH (a b : List Pt) : List Pt := hullF (pySortF (sumL a b))
def SumR (w : World) (l : List Pt) (b : Bool) (e : Ending) (w' : World) : Prop := ∃ ad cap, e = .returned (.tuple #[.slice ad l.length cap, .bool b]) ∧ RdP w' ad l ∧ Below w.heap.size w w'

set_option maxHeartbeats 3200000 in
set_option maxRecDepth 100000 in
theorem sumOf_c (ad1 ad2 : Option Addr) (cap1 cap2 : Nat) (a b : List Pt) (w : World) (hr1 : RdP w ad1 a) (hr2 : RdP w ad2 b) (ha : ptsB a = true) (hb : ptsB b = true) :
    Calls Try.prog 25 #[.slice ad1 a.length cap1, .slice ad2 b.length cap2] w (SumR w (if ptsB (sumH a b) = true then sumH a b else []) (ptsB (sumH a b))) := by
  have HR1 := Lib.hid hr1; have HR2 := Lib.hid hr2; clear hr1 hr2
  have hsh := sumL_sh ha hb
  obtain ⟨hs0, hs1⟩ := sumL_len ha hb
  obtain ⟨a0, a1, ash⟩ := ptsB_t ha
  obtain ⟨b0, b1, bsh⟩ := ptsB_t hb
  have HSH := Lib.hid hsh; have ASH := Lib.hid ash; have BSH := Lib.hid bsh
  have HSL := Lib.hid (show sumTo a b a.length = sumL a b from rfl)
  clear hsh ash bsh ha hb
  obtain ⟨na, hna⟩ : ∃ n, a.length = n := ⟨_, rfl⟩
  obtain ⟨nb, hnb⟩ : ∃ n, b.length = n := ⟨_, rfl⟩
  have HNA := Lib.hid hna; have HNB := Lib.hid hnb
  rw [hna] at a0 a1 HSL ⊢
  rw [hnb] at b0 b1 ⊢
  have hrow0 : RowP (w.alloc (.cells #[] 35)) w.heap.size (.slice (some ⟨w.heap.size, 0, none⟩) 0 0) [] := rowP_empty w
  have HROW := Lib.hid hrow0; clear hrow0 hna hnb
  have HSUM := Lib.hid (show sumH a b = hullF (pySortF (sumL a b)) by unfold sumH; rfl)
  obtain ⟨B, hB⟩ : ∃ B, ptsB (sumH a b) = B := ⟨_, rfl⟩
  obtain ⟨R, hR⟩ : ∃ R, (if B = true then sumH a b else []) = R := ⟨_, rfl⟩
  rw [hB, hR]
  have HBB := Lib.hid hB; have HRR := Lib.hid hR; clear hB hR
  go_enter Try.func25, Try.ntmps25
  go_wp2_with fail
  go_loopw [6, 15] (fun s i wr => ∃ (k : Nat), k ≤ na ∧ i = .int .i64 k ∧ RowP wr w.heap.size s (sumTo a b k) ∧ Below w.heap.size w wr) (fun _ i _ => na - (intOf i).toNat)
  case atStart => exact ⟨0, Nat.zero_le _, rfl, HROW.out, bal_alloc (Below.refl _ _)⟩
  case round =>
    obtain ⟨wE, rfl⟩ : ∃ x : World, x = wr := ⟨_, rfl⟩
    obtain ⟨k, hk, rfl, hrow, hbel⟩ := hrel
    have hlen := sumTo_len a b k
    rw [HNB.out] at hlen
    have hm1 : k * nb ≤ 1600 := Nat.le_trans (Nat.mul_le_mul (show k ≤ 40 by omega) b1) (by omega)
    by_cases hlt : k < na
    case pos =>
      obtain ⟨b1', o1, rfl, hl1, c0, c1⟩ := (HR1.out.below hbel) k (by rw [HNA.out]; exact hlt)
      have ap := ASH.out.at (show k < a.length by rw [HNA.out]; exact hlt)
      obtain ⟨⟨px, py⟩, hpp⟩ : ∃ x, a.getD k default = x := ⟨_, rfl⟩
      rw [hpp] at c0 c1 ap
      simp only at c0 c1
      have HPP := Lib.hid hpp; clear hpp
      have x1 : (0 : Int) ≤ (k : Int) := by omega
      have x2 : (k : Int) < (na : Int) := by omega
      have HRW := Lib.hid (RowP.alloc' (o := .cells #[.int .i64 px, .int .i64 py] 35) hrow)
      have hbA := hbel.alloc hbel.size (.cells #[.int .i64 px, .int .i64 py] 35)
      have pW := Own.newA wE #[.int .i64 px, .int .i64 py] 35 (cs := [.int .i64 px, .int .i64 py]) rfl
      have hbk := RowP.blk hrow
      clear hrow
      go_upto_region 5 with fail
      obtain ⟨P, hP⟩ : ∃ P, wE.heap.size = P := ⟨_, rfl⟩
      have hPw : w.heap.size ≤ P := by have := hbel.size; omega
      generalize hW : wE.alloc (.cells #[.int .i64 px, .int .i64 py] 35) = W at HRW hbA pW ⊢
      have hPW : P < W.heap.size := by rw [← hW]; simp [hP]
      rw [hP] at pW hbk ⊢
      have HBK := Lib.hid (fun q (h : _ = some q) => Nat.ne_of_lt (hbk q h))
      clear hW hP c0 c1 hbk
      go_wp2_with fail
      go_loopw [6, 21] (fun s i wr => ∃ (j : Nat), j ≤ nb ∧ i = .int .i64 j ∧ RowP wr w.heap.size s (sumTo a b k ++ (b.take j).map (addP ⟨px, py⟩)) ∧ Own wr P 35 [.int .i64 px, .int .i64 py] ∧ (∀ q, s.ownBlock = some q → q ≠ P) ∧ Below w.heap.size w wr) (fun _ i _ => nb - (intOf i).toNat)
      case atStart => exact ⟨0, Nat.zero_le _, rfl, by simpa using HRW.out, pW, HBK.out, hbA⟩
      case round =>
        obtain ⟨wI, rfl⟩ : ∃ x : World, x = wr := ⟨_, rfl⟩
        obtain ⟨j, hj, rfl, hrow, hP, hqP, hbI⟩ := hrel
        by_cases hlj : j < nb
        case pos =>
          obtain ⟨b2', o2, rfl, hl2, c0, c1⟩ := (HR2.out.below hbI) j (by rw [HNB.out]; exact hlj)
          have bp := BSH.out.at (show j < b.length by rw [HNB.out]; exact hlj)
          have hsn := map_take_snoc b (addP ⟨px, py⟩) j (by rw [HNB.out]; exact hlj)
          have hxl : (sumTo a b k ++ (b.take j).map (addP ⟨px, py⟩)).length ≤ 1700 := by
            rw [List.length_append, List.length_map, List.length_take, hlen]; omega
          obtain ⟨⟨qx, qy⟩, hqq⟩ : ∃ x, b.getD j default = x := ⟨_, rfl⟩
          rw [hqq] at c0 c1 bp hsn
          simp only at c0 c1
          have x3 : (0 : Int) ≤ (j : Int) := by omega
          have x4 : (j : Int) < (nb : Int) := by omega
          obtain ⟨X, hX⟩ : ∃ X, sumTo a b k ++ (b.take j).map (addP ⟨px, py⟩) = X := ⟨_, rfl⟩
          have HSN := Lib.hid (show sumTo a b k ++ (b.take (j + 1)).map (addP ⟨px, py⟩) = X ++ [addP ⟨px, py⟩ ⟨qx, qy⟩] by rw [hsn, ← List.append_assoc, hX])
          rw [hX] at hrow hxl
          obtain ⟨adx, cpx, rfl, _, _⟩ := hrow.shape
          have hbJ := hbI.alloc hbI.size (.cells #[.int .i64 qx, .int .i64 qy] 35)
          have HRJ := Lib.hid (RowP.alloc' (o := .cells #[.int .i64 qx, .int .i64 qy] 35) hrow)
          have pJ := Own.alloc hP (.cells #[.int .i64 qx, .int .i64 qy] 35)
          have qJ := Own.newA wI #[.int .i64 qx, .int .i64 qy] 35 (cs := [.int .i64 qx, .int .i64 qy]) rfl
          have hszI := hbI.size
          have HQP := Lib.hid hqP
          clear hrow hX hsn hqq hP hqP
          have cp := fun w => plus_c ⟨px, py⟩ ⟨qx, qy⟩ w ap.sm bp.sm
          unfold ptV addP at cp
          simp only at cp
          have CP := Lib.hid cp; clear cp
          go_upto_region 8 with fail
          obtain ⟨Q, hQ⟩ : ∃ Q, wI.heap.size = Q := ⟨_, rfl⟩
          generalize hW : wI.alloc (.cells #[.int .i64 qx, .int .i64 qy] 35) = W2 at HRJ hbJ pJ qJ ⊢
          have hQW : Q < W2.heap.size := by rw [← hW]; simp [hQ]
          rw [hQ] at qJ ⊢
          have p0 := Own.cell? pJ (i := 0) rfl
          have p1 := Own.cell? pJ (i := 1) rfl
          have q0 := Own.cell? qJ (i := 0) rfl
          have q1 := Own.cell? qJ (i := 1) rfl
          clear hW hQ c0 c1
          go_wp2_with fail
          refine (CP.out _).mono ?_
          rintro e w5 ⟨rfl, hw5⟩
          have hb5 := ball hbJ hw5
          have HR5 := Lib.hid (RowP.below HRJ.out hw5)
          have p5 := Own.belowAll pJ hw5
          have hsz5 := hb5.size
          have hPs : P < w5.heap.size := Own.lt p5
          go_wp2_with (at_builtin; refine wpList_appO rfl _ _ rfl w.heap.size _ 0 1 _ X [⟨px + qx, py + qy⟩] rfl rfl (RowP.alloc' HR5.out) (rdP_one _ _ _ _ rfl) (by omega) (by simp) (Nat.le_trans hsz5 (by simp)) ?_; intro v9 wm hown hbm hgr hob)
          have hp9 := Own.grown (Own.alloc p5 _) hgr (fun e => HQP.out P e rfl)
          have hq9 : ∀ q, v9.ownBlock = some q → q ≠ P := by
            intro q hq
            rcases hob with e | e
            · exact HQP.out q (e.symm.trans hq)
            · rw [hq] at e
              injection e with e
              simp at e
              omega
          have hb9 := (hb5.alloc hb5.size (.cells #[.int .i64 (px + qx), .int .i64 (py + qy)] 35)).trans hbm
          have HR9 := Lib.hid hown
          clear hown hbm hgr hob
          go_roundw
          case rel => exact ⟨j + 1, by omega, by go_num, by rw [HSN.out]; exact HR9.out, hp9, hq9, hb9⟩
          case measure => simp [intOf]; omega
        case neg =>
          obtain rfl : j = nb := by omega
          rw [List.take_of_length_le (by rw [HNB.out]; omega)] at hrow
          have HRN := Lib.hid hrow
          have HS := Lib.hid (show sumTo a b (k + 1) = sumTo a b k ++ b.map (addP ⟨px, py⟩) by rw [sumTo, HPP.out])
          go_wp2_with fail
          go_roundw
          case rel => exact ⟨k + 1, by omega, by go_num, by rw [HS.out]; exact HRN.out, hbI⟩
          case measure => simp [intOf]; omega
    case neg =>
      obtain rfl : k = na := by omega
      rw [HSL.out] at hrow hlen
      obtain ⟨adx, cpx, rfl, _, _⟩ := hrow.shape
      have c1 := Lib.hid (hull_c adx cpx (sumL a b) wE (RowP.rd hrow) (by omega) hs0 HSH.out)
      have hql := hullF_len (pySortF (sumL a b))
      have hql2 := pySortF_len (sumL a b)
      have hH := HSUM.out
      rw [← hH] at c1 hql
      have HRR2 := HRR.out; have HBB2 := HBB.out
      clear HRR HBB HSL HSH HROW hrow hH HSUM
      obtain ⟨X, hX⟩ : ∃ X, sumL a b = X := ⟨_, rfl⟩
      obtain ⟨Y, hY⟩ : ∃ Y, sumH a b = Y := ⟨_, rfl⟩
      rw [hX] at c1 hs0 hs1 hql2 hlen hql ⊢
      rw [hY] at c1 hql HRR2 HBB2
      clear hX hY hlen hm1
      go_wp2_with fail
      refine c1.out.mono ?_
      rintro e w2 ⟨ad3, cap3, rfl, hr3, hw3⟩
      have HR3 := Lib.hid hr3
      have hb3 := ball hbel hw3
      have c2 := Lib.hid (arePoints_c ad3 cap3 Y w2 hr3 (by omega))
      rw [HBB2] at c2
      clear hr3 hw3 c1 hbel
      go_wp2_with fail
      refine c2.out.mono ?_
      rintro e w4 ⟨rfl, hw4⟩
      have HR4 := Lib.hid (HR3.out.below hw4)
      have hb4 := Lib.hid (ball hb3 hw4)
      clear hw4 hb3
      cases B
      case false =>
        rw [if_neg (by simp)] at HRR2
        subst HRR2
        go_wp2_with fail
        go_ret2
        exact ⟨none, 0, rfl, RdP.nil _ _, hb4.out⟩
      case true =>
        rw [if_pos rfl] at HRR2
        subst HRR2
        go_wp2_with fail
        go_ret2
        exact ⟨_, _, rfl, HR4.out, hb4.out⟩
end Go.Proofs.Ytapbdfkaaeoonaa

/-
  SumOfPolygons of both sides. By an AI agent.
-/
namespace Go.Proofs.Ytapbdfkaaeoonaa
open Go.RowKit

def smB (a b : List Pt) : Bool := polyB a && (polyB b && ptsB (sumH a b))
def smL (a b : List Pt) : List Pt := if smB a b = true then sumH a b else []
theorem polyB_pts {l : List Pt} (h : polyB l = true) : ptsB l = true := (Bool.and_eq_true_iff.1 h).1

set_option maxHeartbeats 1600000 in
set_option maxRecDepth 100000 in
theorem iSumOf_c (ad1 ad2 : Option Addr) (cap1 cap2 : Nat) (a b : List Pt) (w : World) (hr1 : RdP w ad1 a) (hr2 : RdP w ad2 b) (hl1 : a.length ≤ 1048576) (hl2 : b.length ≤ 1048576) :
    Calls Try.prog 7 #[.slice ad1 a.length cap1, .slice ad2 b.length cap2] w (SumR w (smL a b) (smB a b)) := by
  have c1 := fun w h => isPolygon_c ad1 cap1 a w h hl1
  have c2 := fun w h => isPolygon_c ad2 cap2 b w h hl2
  have c3 := fun w h1 h2 (ha : polyB a = true) (hb : polyB b = true) => sumOf_c ad1 ad2 cap1 cap2 a b w h1 h2 (polyB_pts ha) (polyB_pts hb)
  have HR1 := Lib.hid hr1; have HR2 := Lib.hid hr2; clear hr1 hr2
  unfold smL smB
  generalize polyB a = u at c1 c3 ⊢
  generalize polyB b = v at c2 c3 ⊢
  generalize ptsB (sumH a b) = z at c3 ⊢
  generalize sumH a b = S at c3 ⊢
  have C1 := Lib.hid c1; have C2 := Lib.hid c2; have C3 := Lib.hid c3; clear c1 c2 c3
  cases u
  case false =>
    rw [Bool.false_and, if_neg (by simp)]
    go_enter Try.func7, Try.ntmps7
    go_wp2_with fail
    refine (C1.out _ HR1.out).mono ?_
    rintro e w1 ⟨rfl, hw1⟩
    go_wp2_with fail
    go_ret2
    exact ⟨none, 0, rfl, RdP.nil _ _, hw1⟩
  case true =>
    rw [Bool.true_and]
    cases v
    case false =>
      rw [Bool.false_and, if_neg (by simp)]
      go_enter Try.func7, Try.ntmps7
      go_wp2_with fail
      refine (C1.out _ HR1.out).mono ?_
      rintro e w1 ⟨rfl, hw1⟩
      have HR3 := Lib.hid (HR2.out.below hw1)
      go_wp2_with fail
      refine (C2.out _ HR3.out).mono ?_
      rintro e w2 ⟨rfl, hw2⟩
      have hb := ball hw1 hw2
      go_wp2_with fail
      go_ret2
      exact ⟨none, 0, rfl, RdP.nil _ _, hb⟩
    case true =>
      rw [Bool.true_and]
      obtain ⟨Y, hY⟩ : ∃ Y, (if z = true then S else []) = Y := ⟨_, rfl⟩
      have C4 := Lib.hid (fun w h1 h2 => C3.out w h1 h2 rfl rfl)
      rw [hY] at C4 ⊢
      clear hY C3
      go_enter Try.func7, Try.ntmps7
      go_wp2_with fail
      refine (C1.out _ HR1.out).mono ?_
      rintro e w1 ⟨rfl, hw1⟩
      have HR3 := Lib.hid (HR2.out.below hw1); have HR4 := Lib.hid (HR1.out.below hw1)
      go_wp2_with fail
      refine (C2.out _ HR3.out).mono ?_
      rintro e w2 ⟨rfl, hw2⟩
      have HR5 := Lib.hid (HR3.out.below hw2); have HR6 := Lib.hid (HR4.out.below hw2)
      have hb := ball hw1 hw2
      go_wp2_with fail
      refine (C4.out _ HR6.out HR5.out).mono ?_
      rintro e w3 ⟨ad3, cap3, rfl, hr3, hw3⟩
      have HR7 := Lib.hid hr3; have hb3 := ball hb hw3
      clear hr3
      go_wp2_with fail
      go_ret2
      exact ⟨ad3, cap3, rfl, HR7.out, hb3⟩

set_option maxHeartbeats 3200000 in
set_option maxRecDepth 100000 in
theorem pySum_c (ad1 ad2 : Option Addr) (cap1 cap2 : Nat) (a b : List Pt) (w : World) (hr1 : RdP w ad1 a) (hr2 : RdP w ad2 b) (ha : ptsB a = true) (hb : ptsB b = true) :
    Calls Try.prog 27 #[.slice ad1 a.length cap1, .slice ad2 b.length cap2] w (HullTo w (sumH a b)) := by
  have HR1 := Lib.hid hr1; have HR2 := Lib.hid hr2; clear hr1 hr2
  have hsh := sumL_sh ha hb
  obtain ⟨hs0, hs1⟩ := sumL_len ha hb
  obtain ⟨a0, a1, ash⟩ := ptsB_t ha
  obtain ⟨b0, b1, bsh⟩ := ptsB_t hb
  have HSH := Lib.hid hsh; have ASH := Lib.hid ash; have BSH := Lib.hid bsh
  have HSL := Lib.hid (show sumTo a b a.length = sumL a b from rfl)
  clear hsh ash bsh ha hb
  obtain ⟨na, hna⟩ : ∃ n, a.length = n := ⟨_, rfl⟩
  obtain ⟨nb, hnb⟩ : ∃ n, b.length = n := ⟨_, rfl⟩
  have HNA := Lib.hid hna; have HNB := Lib.hid hnb
  rw [hna] at a0 a1 HSL ⊢
  rw [hnb] at b0 b1 ⊢
  clear hna hnb
  have HSUM := Lib.hid (show sumH a b = hullF (pySortF (sumL a b)) by unfold sumH; rfl)
  obtain ⟨R, hR⟩ : ∃ R, sumH a b = R := ⟨_, rfl⟩
  rw [hR] at HSUM ⊢
  clear hR
  go_enter Try.func27, Try.ntmps27
  go_wp2_with fail
  go_loopw [5, 12] (fun s i wr => ∃ (k : Nat), k ≤ na ∧ i = .int .i64 k ∧ RowP wr w.heap.size s (sumTo a b k) ∧ Below w.heap.size w wr) (fun _ i _ => na - (intOf i).toNat)
  case atStart => exact ⟨0, Nat.zero_le _, rfl, RowP.nil _ _, Below.refl _ _⟩
  case round =>
    obtain ⟨wE, rfl⟩ : ∃ x : World, x = wr := ⟨_, rfl⟩
    obtain ⟨k, hk, rfl, hrow, hbel⟩ := hrel
    have hlen := sumTo_len a b k
    rw [HNB.out] at hlen
    have hm1 : k * nb ≤ 1600 := Nat.le_trans (Nat.mul_le_mul (show k ≤ 40 by omega) b1) (by omega)
    by_cases hlt : k < na
    case pos =>
      obtain ⟨b1', o1, rfl, hl1, c0, c1⟩ := (HR1.out.below hbel) k (by rw [HNA.out]; exact hlt)
      have ap := ASH.out.at (show k < a.length by rw [HNA.out]; exact hlt)
      obtain ⟨⟨px, py⟩, hpp⟩ : ∃ x, a.getD k default = x := ⟨_, rfl⟩
      rw [hpp] at c0 c1 ap
      simp only at c0 c1
      have HPP := Lib.hid hpp; clear hpp
      have x1 : (0 : Int) ≤ (k : Int) := by omega
      have x2 : (k : Int) < (na : Int) := by omega
      have HRW := Lib.hid (RowP.alloc' (o := .cells #[.int .i64 px, .int .i64 py] 35) hrow)
      have hbA := hbel.alloc hbel.size (.cells #[.int .i64 px, .int .i64 py] 35)
      have pW := Own.newA wE #[.int .i64 px, .int .i64 py] 35 (cs := [.int .i64 px, .int .i64 py]) rfl
      have hbk := RowP.blk hrow
      clear hrow
      go_upto_region 5 with fail
      obtain ⟨P, hP⟩ : ∃ P, wE.heap.size = P := ⟨_, rfl⟩
      have hPw : w.heap.size ≤ P := by have := hbel.size; omega
      generalize hW : wE.alloc (.cells #[.int .i64 px, .int .i64 py] 35) = W at HRW hbA pW ⊢
      have hPW : P < W.heap.size := by rw [← hW]; simp [hP]
      rw [hP] at pW hbk ⊢
      have HBK := Lib.hid (fun q (h : _ = some q) => Nat.ne_of_lt (hbk q h))
      clear hW hP c0 c1 hbk
      go_wp2_with fail
      go_loopw [5, 18] (fun s i wr => ∃ (j : Nat), j ≤ nb ∧ i = .int .i64 j ∧ RowP wr w.heap.size s (sumTo a b k ++ (b.take j).map (addP ⟨px, py⟩)) ∧ Own wr P 35 [.int .i64 px, .int .i64 py] ∧ (∀ q, s.ownBlock = some q → q ≠ P) ∧ Below w.heap.size w wr) (fun _ i _ => nb - (intOf i).toNat)
      case atStart => exact ⟨0, Nat.zero_le _, rfl, by simpa using HRW.out, pW, HBK.out, hbA⟩
      case round =>
        obtain ⟨wI, rfl⟩ : ∃ x : World, x = wr := ⟨_, rfl⟩
        obtain ⟨j, hj, rfl, hrow, hP, hqP, hbI⟩ := hrel
        by_cases hlj : j < nb
        case pos =>
          obtain ⟨b2', o2, rfl, hl2, c0, c1⟩ := (HR2.out.below hbI) j (by rw [HNB.out]; exact hlj)
          have bp := BSH.out.at (show j < b.length by rw [HNB.out]; exact hlj)
          have hsn := map_take_snoc b (addP ⟨px, py⟩) j (by rw [HNB.out]; exact hlj)
          have hxl : (sumTo a b k ++ (b.take j).map (addP ⟨px, py⟩)).length ≤ 1700 := by
            rw [List.length_append, List.length_map, List.length_take, hlen]; omega
          obtain ⟨⟨qx, qy⟩, hqq⟩ : ∃ x, b.getD j default = x := ⟨_, rfl⟩
          rw [hqq] at c0 c1 bp hsn
          simp only at c0 c1
          have x3 : (0 : Int) ≤ (j : Int) := by omega
          have x4 : (j : Int) < (nb : Int) := by omega
          obtain ⟨X, hX⟩ : ∃ X, sumTo a b k ++ (b.take j).map (addP ⟨px, py⟩) = X := ⟨_, rfl⟩
          have HSN := Lib.hid (show sumTo a b k ++ (b.take (j + 1)).map (addP ⟨px, py⟩) = X ++ [⟨px + qx, py + qy⟩] by rw [hsn, ← List.append_assoc, hX]; rfl)
          rw [hX] at hrow hxl
          obtain ⟨adx, cpx, rfl, _, _⟩ := hrow.shape
          have hbJ := hbI.alloc hbI.size (.cells #[.int .i64 qx, .int .i64 qy] 35)
          have HRJ := Lib.hid (RowP.alloc' (o := .cells #[.int .i64 qx, .int .i64 qy] 35) hrow)
          have pJ := Own.alloc hP (.cells #[.int .i64 qx, .int .i64 qy] 35)
          have qJ := Own.newA wI #[.int .i64 qx, .int .i64 qy] 35 (cs := [.int .i64 qx, .int .i64 qy]) rfl
          have hszI := hbI.size
          have HQP := Lib.hid hqP
          obtain ⟨a2, a3, a4, a5⟩ := ap
          obtain ⟨d2, d3, d4, d5⟩ := bp
          simp only at a2 a3 a4 a5 d2 d3 d4 d5
          have v1 : IntKind.i64.wrap (px + qx) = px + qx := i64_small (by omega) (by omega)
          have v2 : IntKind.i64.wrap (py + qy) = py + qy := i64_small (by omega) (by omega)
          clear hrow hX hsn hqq hP hqP
          go_upto_region 8 with fail
          obtain ⟨Q, hQ⟩ : ∃ Q, wI.heap.size = Q := ⟨_, rfl⟩
          generalize hW : wI.alloc (.cells #[.int .i64 qx, .int .i64 qy] 35) = W2 at HRJ hbJ pJ qJ ⊢
          have hQW : Q < W2.heap.size := by rw [← hW]; simp [hQ]
          rw [hQ] at qJ ⊢
          have p0 := Own.cell? pJ (i := 0) rfl
          have p1 := Own.cell? pJ (i := 1) rfl
          have q0 := Own.cell? qJ (i := 0) rfl
          have q1 := Own.cell? qJ (i := 1) rfl
          have hszJ := hbJ.size
          have hPs : P < W2.heap.size := Own.lt pJ
          clear hW hQ c0 c1
          go_wp2_with (at_builtin; refine wpList_appO rfl _ _ rfl w.heap.size _ 0 1 _ X [⟨px + qx, py + qy⟩] rfl rfl (RowP.alloc' HRJ.out) (rdP_one _ _ _ _ rfl) (by omega) (by simp) (Nat.le_trans hszJ (by simp)) ?_; intro v9 wm hown hbm hgr hob)
          have hp9 := Own.grown (Own.alloc pJ _) hgr (fun e => HQP.out P e rfl)
          have hq9 : ∀ q, v9.ownBlock = some q → q ≠ P := by
            intro q hq
            rcases hob with e | e
            · exact HQP.out q (e.symm.trans hq)
            · rw [hq] at e
              injection e with e
              simp at e
              omega
          have hb9 := (hbJ.alloc hbJ.size (.cells #[.int .i64 (px + qx), .int .i64 (py + qy)] 35)).trans hbm
          have HR9 := Lib.hid hown
          clear hown hbm hgr hob
          go_roundw
          case rel => exact ⟨j + 1, by omega, by go_num, by rw [HSN.out]; exact HR9.out, hp9, hq9, hb9⟩
          case measure => simp [intOf]; omega
        case neg =>
          obtain rfl : j = nb := by omega
          rw [List.take_of_length_le (by rw [HNB.out]; omega)] at hrow
          have HRN := Lib.hid hrow
          have HS := Lib.hid (show sumTo a b (k + 1) = sumTo a b k ++ b.map (addP ⟨px, py⟩) by rw [sumTo, HPP.out])
          go_wp2_with fail
          go_roundw
          case rel => exact ⟨k + 1, by omega, by go_num, by rw [HS.out]; exact HRN.out, hbI⟩
          case measure => simp [intOf]; omega
    case neg =>
      obtain rfl : k = na := by omega
      rw [HSL.out] at hrow hlen
      obtain ⟨adx, cpx, rfl, _, _⟩ := hrow.shape
      have c1 := Lib.hid (pyHull_c adx cpx (sumL a b) wE (RowP.rd hrow) (by omega) HSH.out)
      have hH := HSUM.out
      rw [← hH] at c1
      clear HSL HSH hrow hH HSUM
      obtain ⟨X, hX⟩ : ∃ X, sumL a b = X := ⟨_, rfl⟩
      rw [hX] at c1 hs0 hs1 hlen ⊢
      clear hX hlen hm1
      go_wp2_with fail
      refine c1.out.mono ?_
      rintro e w2 ⟨ad3, cap3, rfl, hr3, hw3⟩
      have HR3 := Lib.hid hr3
      have hb3 := ball hbel hw3
      clear hr3
      go_wp2_with fail
      go_ret
      exact ⟨_, _, rfl, HR3.out, hb3⟩

theorem sumH_poly (a b : List Pt) : polyB (sumH a b) = ptsB (sumH a b) := by
  unfold polyB sumH
  rw [Geo.hull_hull (pySortF_strict _), decide_eq_true rfl, Bool.and_true]

set_option maxHeartbeats 1600000 in
set_option maxRecDepth 100000 in
theorem sSumOf_c (ad1 ad2 : Option Addr) (cap1 cap2 : Nat) (a b : List Pt) (w : World) (hr1 : RdP w ad1 a) (hr2 : RdP w ad2 b) (hl1 : a.length ≤ 1048576) (hl2 : b.length ≤ 1048576) :
    Calls Try.prog 8 #[.slice ad1 a.length cap1, .slice ad2 b.length cap2] w (SumR w (smL a b) (smB a b)) := by
  have c1 := fun w h => pyGood_c ad1 cap1 a w h hl1
  have c2 := fun w h => pyGood_c ad2 cap2 b w h hl2
  have c3 := fun w h1 h2 (ha : polyB a = true) (hb : polyB b = true) => pySum_c ad1 ad2 cap1 cap2 a b w h1 h2 (polyB_pts ha) (polyB_pts hb)
  have c4 := fun ad cap w h hl => pyGood_c ad cap (sumH a b) w h hl
  have hsl : polyB a = true → polyB b = true → (sumH a b).length ≤ 1048576 := fun ha hb => by
    have h1 := hullF_len (pySortF (sumL a b))
    have h2 := pySortF_len (sumL a b)
    have h3 := sumL_len (polyB_pts ha) (polyB_pts hb)
    unfold sumH
    omega
  have HR1 := Lib.hid hr1; have HR2 := Lib.hid hr2; clear hr1 hr2
  rw [sumH_poly] at c4
  unfold smL smB
  generalize polyB a = u at c1 c3 hsl ⊢
  generalize polyB b = v at c2 c3 hsl ⊢
  generalize ptsB (sumH a b) = z at c4 ⊢
  generalize sumH a b = S at c3 c4 hsl ⊢
  have C1 := Lib.hid c1; have C2 := Lib.hid c2; have C3 := Lib.hid c3; have C4 := Lib.hid c4; have HSL := Lib.hid hsl; clear c1 c2 c3 c4 hsl
  cases u
  case false =>
    rw [Bool.false_and, if_neg (by simp)]
    go_enter Try.func8, Try.ntmps8
    go_wp2_with fail
    refine (C1.out _ HR1.out).mono ?_
    rintro e w1 ⟨rfl, hw1⟩
    go_wp2_with fail
    go_ret2
    exact ⟨none, 0, rfl, RdP.nil _ _, hw1⟩
  case true =>
    rw [Bool.true_and]
    cases v
    case false =>
      rw [Bool.false_and, if_neg (by simp)]
      go_enter Try.func8, Try.ntmps8
      go_wp2_with fail
      refine (C1.out _ HR1.out).mono ?_
      rintro e w1 ⟨rfl, hw1⟩
      have HR3 := Lib.hid (HR2.out.below hw1)
      go_wp2_with fail
      refine (C2.out _ HR3.out).mono ?_
      rintro e w2 ⟨rfl, hw2⟩
      have hb := ball hw1 hw2
      go_wp2_with fail
      go_ret2
      exact ⟨none, 0, rfl, RdP.nil _ _, hb⟩
    case true =>
      rw [Bool.true_and]
      have hl := HSL.out rfl rfl
      go_enter Try.func8, Try.ntmps8
      have C5 := Lib.hid (fun w h1 h2 => C3.out w h1 h2 rfl rfl)
      clear C3 HSL
      obtain ⟨Y, hY⟩ : ∃ Y, (if z = true then S else []) = Y := ⟨_, rfl⟩
      rw [hY]
      have HY := Lib.hid hY; clear hY
      go_wp2_with fail
      refine (C1.out _ HR1.out).mono ?_
      rintro e w1 ⟨rfl, hw1⟩
      have HR3 := Lib.hid (HR2.out.below hw1); have HR4 := Lib.hid (HR1.out.below hw1)
      go_wp2_with fail
      refine (C2.out _ HR3.out).mono ?_
      rintro e w2 ⟨rfl, hw2⟩
      have HR5 := Lib.hid (HR3.out.below hw2); have HR6 := Lib.hid (HR4.out.below hw2)
      have hb := ball hw1 hw2
      go_wp2_with fail
      refine (C5.out _ HR6.out HR5.out).mono ?_
      rintro e w3 ⟨ad3, cap3, rfl, hr3, hw3⟩
      have HR7 := Lib.hid hr3; have hb3 := ball hb hw3
      clear hr3
      go_wp2_with fail
      refine (C4.out _ _ _ HR7.out hl).mono ?_
      rintro e w4 ⟨rfl, hw4⟩
      have HR8 := Lib.hid (HR7.out.below hw4); have hb4 := ball hb3 hw4
      have hY := HY.out
      cases z
      case false =>
        rw [if_neg (by simp)] at hY
        subst hY
        go_wp2_with fail
        go_ret2
        exact ⟨none, 0, rfl, RdP.nil _ _, hb4⟩
      case true =>
        rw [if_pos rfl] at hY
        subst hY
        go_wp2_with fail
        go_ret2
        exact ⟨ad3, cap3, rfl, HR8.out, hb4⟩
end Go.Proofs.Ytapbdfkaaeoonaa

/-
  DoubleArea and MixedArea of both sides. Printed by gen_arG.py.
-/
namespace Go.Proofs.Ytapbdfkaaeoonaa
open Go.RowKit

def daV (l : List Pt) : Value := .tuple #[.int .i64 (if polyB l = true then areaP l else 0), .bool (polyB l)]
def mixZ (a b : List Pt) : Int := (areaP (sumH a b) - areaP a - areaP b).tdiv 2
def mixV (a b : List Pt) : Value := .tuple #[.int .i64 (if smB a b = true then mixZ a b else 0), .bool (smB a b)]
theorem areaP_b {l : List Pt} (hs : AllSh l) (hl : l.length ≤ 10000) : -10000000000000000 ≤ areaP l ∧ areaP l ≤ 10000000000000000 := by
  have := areaTo_b hs l.length (Nat.le_refl _)
  rw [show areaTo l l.length = areaP l from rfl] at this
  omega
theorem sumH_sh {a b : List Pt} (ha : ptsB a = true) (hb : ptsB b = true) : AllSh (sumH a b) ∧ (sumH a b).length ≤ 6400 := by
  have h1 := hullF_len (pySortF (sumL a b))
  have h2 := pySortF_len (sumL a b)
  have h3 := sumL_len ha hb
  have h4 := sumL_sh ha hb
  unfold sumH
  exact ⟨fun p hp => h4 p ((pySortF_mem _ _).1 (Geo.hull_sub (pySortF_strict _) hp)), by omega⟩
theorem smB_parts {a b : List Pt} (h : smB a b = true) : polyB a = true ∧ polyB b = true ∧ ptsB (sumH a b) = true := by
  unfold smB at h
  rw [Bool.and_eq_true_iff, Bool.and_eq_true_iff] at h
  exact h

set_option maxHeartbeats 800000 in
theorem iDoubleArea_c (ad : Option Addr) (cap : Nat) (l : List Pt) (w : World) (hr : RdP w ad l) (hl : l.length ≤ 1048576) :
    Calls Try.prog 10 #[.slice ad l.length cap] w fun e w' => e = .returned (daV l) ∧ Below w.heap.size w w' := by
  have c1 := fun w hr => isPolygon_c ad cap l w hr hl
  have hp := Lib.hid (show polyB l = true → ptsB l = true from fun h => (Bool.and_eq_true_iff.1 h).1)
  have HR := Lib.hid hr; clear hr
  unfold daV
  generalize polyB l = u at c1 hp ⊢
  have C1 := Lib.hid c1; clear c1
  cases u
  case false =>
    rw [if_neg (by simp)]
    go_enter Try.func10, Try.ntmps10
    go_wp2_with fail
    refine (C1.out _ HR.out).mono ?_
    rintro e w1 ⟨rfl, hw1⟩
    go_wp2_with fail
    go_ret2
    exact ⟨rfl, hw1⟩
  case true =>
    rw [if_pos rfl]
    obtain ⟨h1, h2, hs⟩ := ptsB_t (hp.out rfl)
    have HS := Lib.hid hs; clear hs
    have cb := Lib.hid (fun w hr => doubleArea_c ad cap l w hr (by omega) HS.out)
    generalize areaP l = z at cb ⊢
    go_enter Try.func10, Try.ntmps10
    go_wp2_with fail
    refine (C1.out _ HR.out).mono ?_
    rintro e w1 ⟨rfl, hw1⟩
    have HR1 := Lib.hid (HR.out.below hw1)
    go_wp2_with fail
    refine (cb.out _ HR1.out).mono ?_
    rintro e w2 ⟨rfl, hw2⟩
    go_wp2_with fail
    go_ret2
    exact ⟨rfl, ball hw1 hw2⟩

set_option maxHeartbeats 800000 in
theorem sDoubleArea_c (ad : Option Addr) (cap : Nat) (l : List Pt) (w : World) (hr : RdP w ad l) (hl : l.length ≤ 1048576) :
    Calls Try.prog 11 #[.slice ad l.length cap] w fun e w' => e = .returned (daV l) ∧ Below w.heap.size w w' := by
  have c1 := fun w hr => pyGood_c ad cap l w hr hl
  have hp := Lib.hid (show polyB l = true → ptsB l = true from fun h => (Bool.and_eq_true_iff.1 h).1)
  have HR := Lib.hid hr; clear hr
  unfold daV
  generalize polyB l = u at c1 hp ⊢
  have C1 := Lib.hid c1; clear c1
  cases u
  case false =>
    rw [if_neg (by simp)]
    go_enter Try.func11, Try.ntmps11
    go_wp2_with fail
    refine (C1.out _ HR.out).mono ?_
    rintro e w1 ⟨rfl, hw1⟩
    go_wp2_with fail
    go_ret2
    exact ⟨rfl, hw1⟩
  case true =>
    rw [if_pos rfl]
    obtain ⟨h1, h2, hs⟩ := ptsB_t (hp.out rfl)
    have HS := Lib.hid hs; clear hs
    have cb := Lib.hid (fun w hr => pyArea_c ad cap l w hr (by omega) HS.out)
    generalize areaP l = z at cb ⊢
    go_enter Try.func11, Try.ntmps11
    go_wp2_with fail
    refine (C1.out _ HR.out).mono ?_
    rintro e w1 ⟨rfl, hw1⟩
    have HR1 := Lib.hid (HR.out.below hw1)
    go_wp2_with fail
    refine (cb.out _ HR1.out).mono ?_
    rintro e w2 ⟨rfl, hw2⟩
    go_wp2_with fail
    go_ret2
    exact ⟨rfl, ball hw1 hw2⟩

set_option maxHeartbeats 1600000 in
set_option maxRecDepth 100000 in
theorem iMixed_c (ad1 ad2 : Option Addr) (cap1 cap2 : Nat) (a b : List Pt) (w : World) (hr1 : RdP w ad1 a) (hr2 : RdP w ad2 b) (hl1 : a.length ≤ 1048576) (hl2 : b.length ≤ 1048576) :
    Calls Try.prog 5 #[.slice ad1 a.length cap1, .slice ad2 b.length cap2] w fun e w' => e = .returned (mixV a b) ∧ Below w.heap.size w w' := by
  have c1 := Lib.hid (iSumOf_c ad1 ad2 cap1 cap2 a b w hr1 hr2 hl1 hl2)
  have HR1 := Lib.hid hr1; have HR2 := Lib.hid hr2; clear hr1 hr2
  unfold mixV
  cases hz : smB a b
  case false =>
    rw [hz] at c1
    rw [if_neg (by simp)]
    clear hz
    generalize smL a b = X at c1
    go_enter Try.func5, Try.ntmps5
    go_wp2_with fail
    refine c1.out.mono ?_
    rintro e w1 ⟨ad3, cap3, rfl, _, hw1⟩
    go_wp2_with fail
    go_ret2
    exact ⟨rfl, hw1⟩
  case true =>
    have hsm : smL a b = sumH a b := by unfold smL; rw [if_pos hz]
    rw [hz, hsm] at c1
    rw [if_pos rfl]
    have HMZ : mixZ a b = (areaP (sumH a b) - areaP a - areaP b).tdiv 2 := rfl
    obtain ⟨ha, hb, hs⟩ := smB_parts hz
    obtain ⟨a1, a2, ash⟩ := ptsB_t (polyB_pts ha)
    obtain ⟨b1, b2, bsh⟩ := ptsB_t (polyB_pts hb)
    obtain ⟨ssh, sl⟩ := sumH_sh (polyB_pts ha) (polyB_pts hb)
    have k1 := areaP_b ash (by omega)
    have k2 := areaP_b bsh (by omega)
    have k3 := areaP_b ssh (by omega)
    have ca := Lib.hid (fun w h => doubleArea_c ad1 cap1 a w h (by omega) ash)
    have cb := Lib.hid (fun w h => doubleArea_c ad2 cap2 b w h (by omega) bsh)
    have cs := Lib.hid (fun ad cap w h => doubleArea_c ad cap (sumH a b) w h (by omega) ssh)
    generalize areaP a = A at ca k1 HMZ
    generalize areaP b = B at cb k2 HMZ
    generalize areaP (sumH a b) = S at cs k3 HMZ
    have v1 : IntKind.i64.wrap (S - A) = S - A := i64_small (by omega) (by omega)
    have v2 : IntKind.i64.wrap (S - A - B) = S - A - B := i64_small (by omega) (by omega)
    have hq : -4611686018427387904 ≤ (S - A - B).tdiv 2 ∧ (S - A - B).tdiv 2 ≤ 4611686018427387904 := by
      have h5 : ((S - A - B).tdiv 2).natAbs ≤ (S - A - B).natAbs := Int.natAbs_tdiv_le_natAbs _ _
      omega
    have v3 : IntKind.i64.wrap ((S - A - B).tdiv 2) = (S - A - B).tdiv 2 := i64_small hq.1 hq.2
    have HM := Lib.hid HMZ; clear HMZ hq k1 k2 k3 ash bsh ssh ha hb hs hz hsm
    generalize mixZ a b = Z at HM ⊢
    generalize sumH a b = X at c1 cs sl
    go_enter Try.func5, Try.ntmps5
    go_wp2_with fail
    refine c1.out.mono ?_
    rintro e w1 ⟨ad3, cap3, rfl, hr3, hw1⟩
    have HR3 := Lib.hid hr3
    have R1 := Lib.hid (HR1.out.below hw1); have R2 := Lib.hid (HR2.out.below hw1)
    clear hr3
    go_wp2_with fail
    refine (cs.out _ _ _ HR3.out).mono ?_
    rintro e w2 ⟨rfl, hw2⟩
    have R1 := Lib.hid (R1.out.below hw2); have R2 := Lib.hid (R2.out.below hw2)
    have hb2 := ball hw1 hw2
    go_wp2_with fail
    refine (ca.out _ R1.out).mono ?_
    rintro e w3 ⟨rfl, hw3⟩
    have R2 := Lib.hid (R2.out.below hw3)
    have hb3 := ball hb2 hw3
    go_wp2_with fail
    refine (cb.out _ R2.out).mono ?_
    rintro e w4 ⟨rfl, hw4⟩
    have hb4 := ball hb3 hw4
    go_wp2_with fail
    go_ret2
    exact ⟨by rw [HM.out]; rfl, hb4⟩

set_option maxHeartbeats 1600000 in
set_option maxRecDepth 100000 in
theorem sMixed_c (ad1 ad2 : Option Addr) (cap1 cap2 : Nat) (a b : List Pt) (w : World) (hr1 : RdP w ad1 a) (hr2 : RdP w ad2 b) (hl1 : a.length ≤ 1048576) (hl2 : b.length ≤ 1048576) :
    Calls Try.prog 6 #[.slice ad1 a.length cap1, .slice ad2 b.length cap2] w fun e w' => e = .returned (mixV a b) ∧ Below w.heap.size w w' := by
  have c1 := Lib.hid (sSumOf_c ad1 ad2 cap1 cap2 a b w hr1 hr2 hl1 hl2)
  have HR1 := Lib.hid hr1; have HR2 := Lib.hid hr2; clear hr1 hr2
  unfold mixV
  cases hz : smB a b
  case false =>
    rw [hz] at c1
    rw [if_neg (by simp)]
    clear hz
    generalize smL a b = X at c1
    go_enter Try.func6, Try.ntmps6
    go_wp2_with fail
    refine c1.out.mono ?_
    rintro e w1 ⟨ad3, cap3, rfl, _, hw1⟩
    go_wp2_with fail
    go_ret2
    exact ⟨rfl, hw1⟩
  case true =>
    rw [hz] at c1
    rw [if_pos rfl]
    generalize smL a b = X at c1
    have cm : ∀ w, RdP w ad1 a → RdP w ad2 b → Calls Try.prog 23 #[.slice ad1 a.length cap1, .slice ad2 b.length cap2] w fun e w' => e = .returned (.int .i64 (mixZ a b)) ∧ Below w.heap.size w w' := by
      intro w hr1 hr2
      have HMZ : mixZ a b = (areaP (sumH a b) - areaP a - areaP b).tdiv 2 := rfl
      have c3 := Lib.hid (pySum_c ad1 ad2 cap1 cap2 a b w hr1 hr2 (polyB_pts (smB_parts hz).1) (polyB_pts (smB_parts hz).2.1))
      have HR1 := Lib.hid hr1; have HR2 := Lib.hid hr2
      clear hr1 hr2
      obtain ⟨ha, hb, hs⟩ := smB_parts hz
      obtain ⟨a1, a2, ash⟩ := ptsB_t (polyB_pts ha)
      obtain ⟨b1, b2, bsh⟩ := ptsB_t (polyB_pts hb)
      obtain ⟨ssh, sl⟩ := sumH_sh (polyB_pts ha) (polyB_pts hb)
      have k1 := areaP_b ash (by omega)
      have k2 := areaP_b bsh (by omega)
      have k3 := areaP_b ssh (by omega)
      have ca := Lib.hid (fun w h => pyArea_c ad1 cap1 a w h (by omega) ash)
      have cb := Lib.hid (fun w h => pyArea_c ad2 cap2 b w h (by omega) bsh)
      have cs := Lib.hid (fun ad cap w h => pyArea_c ad cap (sumH a b) w h (by omega) ssh)
      generalize areaP a = A at ca k1 HMZ
      generalize areaP b = B at cb k2 HMZ
      generalize areaP (sumH a b) = S at cs k3 HMZ
      have v1 : IntKind.i64.wrap (S - A) = S - A := i64_small (by omega) (by omega)
      have v2 : IntKind.i64.wrap (S - A - B) = S - A - B := i64_small (by omega) (by omega)
      have hq : -4611686018427387904 ≤ (S - A - B).tdiv 2 ∧ (S - A - B).tdiv 2 ≤ 4611686018427387904 := by
        have h5 : ((S - A - B).tdiv 2).natAbs ≤ (S - A - B).natAbs := Int.natAbs_tdiv_le_natAbs _ _
        omega
      have v3 : IntKind.i64.wrap ((S - A - B).tdiv 2) = (S - A - B).tdiv 2 := i64_small hq.1 hq.2
      have HM := Lib.hid HMZ; clear HMZ hq k1 k2 k3 ash bsh ssh ha hb hs hz
      generalize mixZ a b = Z at HM ⊢
      generalize sumH a b = X at c3 cs sl
      go_enter Try.func23, Try.ntmps23
      go_wp2_with fail
      refine c3.out.mono ?_
      rintro e w1 ⟨ad3, cap3, rfl, hr3, hw1⟩
      have HR3 := Lib.hid hr3
      have R1 := Lib.hid (HR1.out.below hw1); have R2 := Lib.hid (HR2.out.below hw1)
      clear hr3
      go_wp2_with fail
      refine (cs.out _ _ _ HR3.out).mono ?_
      rintro e w2 ⟨rfl, hw2⟩
      have R1 := Lib.hid (R1.out.below hw2); have R2 := Lib.hid (R2.out.below hw2)
      have hb2 := ball hw1 hw2
      go_wp2_with fail
      refine (ca.out _ R1.out).mono ?_
      rintro e w3 ⟨rfl, hw3⟩
      have R2 := Lib.hid (R2.out.below hw3)
      have hb3 := ball hb2 hw3
      go_wp2_with fail
      refine (cb.out _ R2.out).mono ?_
      rintro e w4 ⟨rfl, hw4⟩
      have hb4 := ball hb3 hw4
      go_wp2_with fail
      go_ret
      exact ⟨by rw [HM.out]; rfl, hb4⟩
    have CM := Lib.hid cm; clear cm hz
    generalize mixZ a b = Z at CM ⊢
    go_enter Try.func6, Try.ntmps6
    go_wp2_with fail
    refine c1.out.mono ?_
    rintro e w1 ⟨ad3, cap3, rfl, _, hw1⟩
    have R1 := Lib.hid (HR1.out.below hw1); have R2 := Lib.hid (HR2.out.below hw1)
    go_wp2_with fail
    refine (CM.out _ R1.out R2.out).mono ?_
    rintro e w2 ⟨rfl, hw2⟩
    go_wp2_with fail
    go_ret2
    exact ⟨rfl, ball hw1 hw2⟩
end Go.Proofs.Ytapbdfkaaeoonaa
