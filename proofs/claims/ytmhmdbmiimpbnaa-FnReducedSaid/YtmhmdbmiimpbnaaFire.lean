/-
  Firing: copies of lists, sets as scripts, one vertex fired, a whole script: reference and program.
-/
import Derived.Test.YtmhmdbmiimpbnaaSum
import Derived.Laws.AppendOwnNone
import Derived.Lib.LazyBuf
namespace Go.Proofs.Ytmhmdbmiimpbnaa
open Go.RowKit

theorem mulb {k m K M : Int} (hK : 0 ≤ K) (hk : -K ≤ k ∧ k ≤ K) (hm : -M ≤ m ∧ m ≤ M) : -(K * M) ≤ k * m ∧ k * m ≤ K * M := by
  have h1 : k.natAbs ≤ K.toNat := by omega
  have h2 : m.natAbs ≤ M.toNat := by omega
  have h3 : (k * m).natAbs ≤ K.toNat * M.toNat := by rw [Int.natAbs_mul]; exact Nat.mul_le_mul h1 h2
  have h4 : ((K.toNat * M.toNat : Nat) : Int) = K * M := by rw [Int.natCast_mul, Int.toNat_of_nonneg hK, Int.toNat_of_nonneg (by omega)]
  omega

theorem RdI.none_nil {w : World} {xs : List Int} (h : RdI w none xs) : xs = [] := by
  cases xs with
  | nil => rfl
  | cons x l =>
    obtain ⟨b, off, e, _⟩ := h 0 (by simp)
    cases e
theorem RdI.news {w : World} {a : Addr} {xs : List Int} (h : RdI w (some a) xs) : ∀ j u, (ints xs)[j]? = some u → w.cell? (a.add j) = some u := by
  intro j u hu
  have hj : j < xs.length := by
    have := List.getElem?_eq_some_iff.1 hu
    obtain ⟨h1, _⟩ := this
    rwa [ints_length] at h1
  obtain ⟨b, off, e, _, hc⟩ := h j hj
  cases e
  rw [ints_get hj] at hu
  have hadd : (⟨b, off, none⟩ : Addr).add j = ⟨b, off + j, none⟩ := by unfold Addr.add; split <;> simp_all
  rw [hadd, hc]
  exact hu

set_option maxHeartbeats 400000 in
theorem l1Own_any (a : Addr) (cap : Nat) (xs : List Int) (w : World) (hl : xs.length ≤ 1048576) (hr : RdI w (some a) xs) :
    Calls Try.prog 114 #[.slice (some a) xs.length cap] w fun e w' => ∃ v, e = .returned v ∧ ResI w' w.heap.size 3 v xs ∧ Below w.heap.size w w' := by
  obtain ⟨i0, hi0, hz0, hz1, hz2⟩ := info_parts Try.infoI
  have hb0 : Below w.heap.size w (w.alloc (.cells #[] 3)) := (Below.refl _ _).alloc (Nat.le_refl _) _
  have hr1 := hr.below hb0
  have HO := Lib.hid (row_empty w 3)
  have HN := Lib.hid hr1.news
  clear hr hr1
  go_enter Try.func114, Try.ntmps114
  go_wp2_with (at_builtin; refine wpList_append_own _ rfl _ _ 30 rfl w.heap.size 3 i0 _ 1 8 Try.underlying30 hi0 hz0 hz1 hz2 rfl (by decide) (.slice (some ⟨w.heap.size, 0, none⟩) 0 0) 0 [] rfl HO.out a xs.length cap (ints xs) rfl (by rw [ints_length]; omega) HN.out (ints_oneCell xs) (by unfold maxLen; omega) (by omega) (by simp) ?_; intro v' w2 hown hgrow hnil)
  clear hnil
  go_ret
  exact ⟨_, rfl, ResI.of_row hown, hb0.grown hgrow (by simp) (fun q e => by simp [Value.ownBlock] at e; omega)⟩

set_option maxHeartbeats 400000 in
theorem clone_any (a : Addr) (cap : Nat) (xs : List Int) (w : World) (hl : xs.length ≤ 1048576) (hr : RdI w (some a) xs) :
    Calls Try.prog 101 #[.slice (some a) xs.length cap] w fun e w' => ∃ v, e = .returned v ∧ ResI w' w.heap.size 3 v xs ∧ Below w.heap.size w w' := by
  obtain ⟨i0, hi0, hz0, hz1, hz2⟩ := info_parts Try.infoI
  have hnl := fun (w : World) (a : Option Addr) (l c : Nat) => Lib.run_eql_slice_nil (P := Try.prog) w 30 3 a l c 0 0 Try.underlying30
  have hb0 : Below w.heap.size w (w.alloc (.cells #[] 3)) := (Below.refl _ _).alloc (Nat.le_refl _) _
  have hr1 := hr.below hb0
  have HO := Lib.hid (row_empty w 3)
  have HN := Lib.hid hr1.news
  clear hr hr1
  go_enter Try.func101, Try.ntmps101
  go_wp2_with (at_builtin; refine wpList_append_own _ rfl _ _ 30 rfl w.heap.size 3 i0 _ 1 8 Try.underlying30 hi0 hz0 hz1 hz2 rfl (by decide) (.slice (some ⟨w.heap.size, 0, none⟩) 0 0) 0 [] rfl HO.out a xs.length cap (ints xs) rfl (by rw [ints_length]; omega) HN.out (ints_oneCell xs) (by unfold maxLen; omega) (by omega) (by simp) ?_; intro v' w2 hown hgrow hnil)
  clear hnil
  go_ret
  exact ⟨_, rfl, ResI.of_row hown, hb0.grown hgrow (by simp) (fun q e => by simp [Value.ownBlock] at e; omega)⟩


/-- 1 at the places of a set, else 0. -/
def setF (set : List Int) (i : Nat) : Int := if set.contains (i : Int) = true then 1 else 0
theorem setF_nil (i : Nat) : setF [] i = 0 := rfl
theorem setF_step {set : List Int} {k : Nat} (hk : k < set.length) (i : Nat) : setF (set.take (k + 1)) i = if (i : Int) = set.getD k 0 then 1 else setF (set.take k) i := by
  unfold setF
  rw [take_snoc set k 0 hk, List.contains_append]
  generalize set.getD k 0 = x
  by_cases h : (i : Int) = x
  · rw [if_pos h, if_pos]; simp [h]
  · rw [if_neg h]; simp [h]
theorem setF_bound (set : List Int) (i : Nat) : 0 ≤ setF set i ∧ setF set i ≤ 1 := by unfold setF; split <;> omega

set_option maxHeartbeats 800000 in
theorem chSet_any (N : Nat) (a : Addr) (cap : Nat) (set : List Int) (w : World) (hN : N ≤ 8) (hl : set.length ≤ 1048576) (hr : RdI w (some a) set) (hx : ∀ j, j < set.length → 0 ≤ set.getD j 0 ∧ set.getD j 0 < N) :
    Calls Try.prog 84 #[.int .i64 N, .slice (some a) set.length cap] w fun e w' => ∃ g, e = .returned (.slice (some ⟨g, 0, none⟩) N N) ∧ w.heap.size ≤ g ∧ Own w' g 3 (ints (tab N (setF set))) ∧ Below w.heap.size w w' := by
  have hmk := run_makeN (P := Try.prog) 30 3 (.int .i64 0) 1 8 Try.underlying30 Try.infoI N (by omega) (by omega)
  simp only [Value.cells, Nat.mul_one] at hmk
  have HR := Lib.hid hr; clear hr
  have HX := Lib.hid hx; clear hx
  go_enter Try.func84, Try.ntmps84
  go_wp2
  go_loopw [12] (fun i wr => ∃ k : Nat, k ≤ set.length ∧ i = .int .i64 k ∧ Own wr w.heap.size 3 (ints (tab N (setF (set.take k)))) ∧ Below w.heap.size w wr) (fun i _ => set.length - (intOf i).toNat)
  case atStart => exact ⟨0, Nat.zero_le _, rfl, (Own.newA w _ 3 (madeInts _)).congr (by rw [tab_congr fun i _ => (setF_nil i).symm]; rfl), (Below.refl _ _).alloc (Nat.le_refl _) _⟩
  case round =>
    obtain ⟨k, hk, rfl, hown, hbel⟩ := hrel
    have HO := Lib.hid hown; clear hown
    by_cases hlt : k < set.length
    · obtain ⟨b, off, e, hb, c⟩ := HR.out k hlt
      obtain rfl : a = ⟨b, off, none⟩ := by simpa using e
      clear e
      have d := bcell hbel hb c
      clear c
      have hxk := HX.out k hlt
      have hst := fun i => setF_step hlt i
      generalize set.getD k 0 = x at d hxk hst
      obtain ⟨v, rfl⟩ : ∃ v : Nat, x = v := ⟨x.toNat, by omega⟩
      have HST := Lib.hid hst; clear hst
      have hv : v < N := by omega
      have f1 := HO.out.frozen v
      have c1 := HO.out.cell? (i := v) (ints_get (by rw [tab_length]; exact hv))
      have st := HO.out.set v (.int .i64 1)
      rw [ints_set, tab_set] at st
      have HS := Lib.hid st; clear st
      go_wp2
      go_roundw
      case rel =>
        refine ⟨k + 1, by omega, by go_num, HS.out.congr ?_, hbel.setCell (Nat.le_refl _) _⟩
        congr 1
        refine tab_congr fun i _ => ?_
        rw [HST.out]
        by_cases e : i = v
        · subst e; rw [if_pos rfl, if_pos rfl]
        · rw [if_neg e, if_neg (by omega)]
      case measure => simp [intOf]; omega
    · have he : k = set.length := by omega
      subst he
      go_wp2
      go_ret
      refine ⟨_, rfl, Nat.le_refl _, HO.out.congr ?_, hbel⟩
      rw [List.take_length]

set_option maxHeartbeats 800000 in
theorem scriptOf_any (G gb gv capb : Nat) (rb : Nat → Nat) (N : Nat) (bet : Nat → Nat → Int) (val : Nat → Int) (ed : Int) (a : Addr) (cap : Nat) (set : List Int) (w : World) (hG : GrAt w G gb gv capb rb N bet val ed) (hN : N ≤ 8) (hl : set.length ≤ 1048576) (hr : RdI w (some a) set) (hx : ∀ j, j < set.length → 0 ≤ set.getD j 0 ∧ set.getD j 0 < N) :
    Calls Try.prog 69 #[.pointer (some ⟨G, 0, none⟩), .slice (some a) set.length cap] w fun e w' => ∃ g, e = .returned (.slice (some ⟨g, 0, none⟩) N N) ∧ w.heap.size ≤ g ∧ Own w' g 3 (ints (tab N (setF set))) ∧ Below w.heap.size w w' := by
  have hmk := run_makeN (P := Try.prog) 30 3 (.int .i64 0) 1 8 Try.underlying30 Try.infoI N (by omega) (by omega)
  simp only [Value.cells, Nat.mul_one] at hmk
  have c0 := hG.c0
  clear hG
  have HR := Lib.hid hr; clear hr
  have HX := Lib.hid hx; clear hx
  go_enter Try.func69, Try.ntmps69
  go_wp2
  go_loopw [15] (fun i wr => ∃ k : Nat, k ≤ set.length ∧ i = .int .i64 k ∧ Own wr w.heap.size 3 (ints (tab N (setF (set.take k)))) ∧ Below w.heap.size w wr) (fun i _ => set.length - (intOf i).toNat)
  case atStart => exact ⟨0, Nat.zero_le _, rfl, (Own.newA w _ 3 (madeInts _)).congr (by rw [tab_congr fun i _ => (setF_nil i).symm]; rfl), (Below.refl _ _).alloc (Nat.le_refl _) _⟩
  case round =>
    obtain ⟨k, hk, rfl, hown, hbel⟩ := hrel
    have HO := Lib.hid hown; clear hown
    by_cases hlt : k < set.length
    · obtain ⟨b, off, e, hb, c⟩ := HR.out k hlt
      obtain rfl : a = ⟨b, off, none⟩ := by simpa using e
      clear e
      have d := bcell hbel hb c
      clear c
      have hxk := HX.out k hlt
      have hst := fun i => setF_step hlt i
      generalize set.getD k 0 = x at d hxk hst
      obtain ⟨v, rfl⟩ : ∃ v : Nat, x = v := ⟨x.toNat, by omega⟩
      have HST := Lib.hid hst; clear hst
      have hv : v < N := by omega
      have f1 := HO.out.frozen v
      have c1 := HO.out.cell? (i := v) (ints_get (by rw [tab_length]; exact hv))
      have st := HO.out.set v (.int .i64 1)
      rw [ints_set, tab_set] at st
      have HS := Lib.hid st; clear st
      go_wp2
      go_roundw
      case rel =>
        refine ⟨k + 1, by omega, by go_num, HS.out.congr ?_, hbel.setCell (Nat.le_refl _) _⟩
        congr 1
        refine tab_congr fun i _ => ?_
        rw [HST.out]
        by_cases e : i = v
        · subst e; rw [if_pos rfl, if_pos rfl]
        · rw [if_neg e, if_neg (by omega)]
      case measure => simp [intOf]; omega
    · have he : k = set.length := by omega
      subst he
      go_wp2
      go_ret
      refine ⟨_, rfl, Nat.le_refl _, HO.out.congr ?_, hbel⟩
      rw [List.take_length]

/-- One row of a graph's matrix. -/
def lapE (bet : Nat → Nat → Int) (val : Nat → Int) (v j : Nat) : Int := if v = j then val v else - bet v j

set_option maxHeartbeats 1600000 in
set_option maxRecDepth 100000 in
theorem fire_any (G gb gv capb : Nat) (rb : Nat → Nat) (N : Nat) (bet : Nat → Nat → Int) (val : Nat → Int) (ed : Int) (gd capd : Nat) (xs : Nat → Int) (v : Nat) (k : Int) (w : World)
    (hG : GrAt w G gb gv capb rb N bet val ed) (hd : Own w gd 3 (ints (tab N xs))) (h1 : gd ≠ gv) (h2 : ∀ i, i < N → gd ≠ rb i) (hN : N ≤ 8) (hv : v < N)
    (hx : ∀ j, j < N → -4000000000000000000 ≤ xs j ∧ xs j ≤ 4000000000000000000) (hk0 : -1073741824 ≤ k) (hk1 : k ≤ 1073741824) (hvl : 0 ≤ val v ∧ val v ≤ 10485760) (hbt : ∀ j, j < N → 0 ≤ bet v j ∧ bet v j ≤ 5) (hbb : bet v v = 0) :
    Calls Try.prog 113 #[.pointer (some ⟨G, 0, none⟩), .slice (some ⟨gd, 0, none⟩) N capd, .int .i64 v, .int .i64 k] w fun e w' =>
      e = .returned (.tuple #[]) ∧ Own w' gd 3 (ints (tab N fun j => xs j - k * lapE bet val v j)) ∧ Chg gd w w' := by
  have HG := Lib.hid hG; clear hG
  have HD := Lib.hid hd; clear hd
  have HX := Lib.hid hx; clear hx
  have HB := Lib.hid hbt; clear hbt
  have HB0 := Lib.hid hbb; clear hbb
  have H2 := Lib.hid h2; clear h2
  have n1 : gd ≠ G := Ne.symm (HG.out.hG.ne_of_type HD.out (by decide))
  have n2 : gd ≠ gb := Ne.symm (HG.out.hb.ne_of_type HD.out (by decide))
  have c2 := HG.out.c2
  have cv := HG.out.cv hv
  have cd := HD.out.cell? (i := v) (ints_get (by rw [tab_length]; exact hv))
  rw [tab_getD hv] at cd
  have fd := HD.out.frozen v
  have xv := HX.out v hv
  have m1 := mulb (k := k) (m := val v) (K := 1073741824) (M := 10485760) (by omega) (by omega) (by omega)
  have x1 : Hid (∀ j, j ≠ v → j < N → k * bet v j = - (k * lapE bet val v j)) := fun j h _ => by unfold lapE; rw [if_neg (Ne.symm h), Int.mul_neg, Int.neg_neg]
  have x2 : Hid (k * val v = k * lapE bet val v v) := by show _ = _; unfold lapE; rw [if_pos rfl]
  generalize hva : val v = va at *
  have HVA := Lib.hid hva; clear hva
  generalize hxv : xs v = xv0 at *
  have HXV := Lib.hid hxv; clear hxv
  have e1 : IntKind.i64.wrap (k * va) = k * va := i64_small (by omega) (by omega)
  have e2 : IntKind.i64.wrap (xv0 - k * va) = xv0 - k * va := IntWalk.i64_in _ ⟨by omega, by omega⟩
  go_enter Try.func113, Try.ntmps113
  have g2 := (HG.out.chg (Chg.set gd v w (.int .i64 (xv0 - k * va))) (Ne.symm n1) (Ne.symm n2) (Ne.symm h1) (fun i hi => Ne.symm (H2.out i hi))).drew
  have o2 := (HD.out.set v (.int .i64 (xv0 - k * va))).drew
  rw [ints_set, tab_set] at o2
  have ch2 : Chg gd w (w.setCell ⟨gd, v, none⟩ (.int .i64 (xv0 - k * va))).drew := (Chg.set gd v w (.int .i64 (xv0 - k * va))).trans (Chg.drew _ _)
  have HG2 := Lib.hid g2; clear g2
  have HO2 := Lib.hid o2; clear o2
  go_wp2_with fail
  go_still_tail 15, (by kernel_rfl)
  change wpList _ _ _ _ _ w.drew
  clear e1 e2
  have r1 := HG2.out.c1
  have r2 := HG2.out.row hv
  go_wp2_with fail
  clear c2 cv cd fd r1 r2
  generalize (w.setCell ⟨gd, v, none⟩ (.int .i64 (xv0 - k * va))).drew = W2 at HG2 HO2 ch2 ⊢
  go_loopw [33] (fun i wr => ∃ j : Nat, j ≤ N ∧ i = .int .i64 j ∧ Own wr gd 3 (ints (tab N fun i => if i = v then xv0 - k * va else if i < j then xs i - k * lapE bet val v i else xs i)) ∧ Chg gd W2 wr) (fun i _ => N - (intOf i).toNat)
  case atStart =>
    refine ⟨0, Nat.zero_le _, rfl, HO2.out.congr ?_, Chg.refl _ _⟩
    congr 1
  case round =>
    obtain ⟨j, hj, rfl, hown, hchg⟩ := hrel
    have HO := Lib.hid hown; clear hown
    by_cases hlt : j < N
    · have hgw := HG2.out.chg hchg (Ne.symm n1) (Ne.symm n2) (Ne.symm h1) (fun i hi => Ne.symm (H2.out i hi))
      have cb := hgw.cb hv hlt
      clear hgw
      have cd := HO.out.cell? (i := j) (ints_get (by rw [tab_length]; exact hlt))
      rw [tab_getD hlt] at cd
      have fd := HO.out.frozen j
      have bb := HB.out j hlt
      have xj := HX.out j hlt
      have m2 := mulb (k := k) (m := bet v j) (K := 1073741824) (M := 5) (by omega) (by omega) (by omega)
      by_cases hjv : j = v
      · rw [if_pos hjv] at cd
        have hbz : bet v j = 0 := by rw [hjv]; exact HB0.out
        rw [hbz] at cb
        have st := HO.out.set j (.int .i64 (xv0 - k * va))
        rw [ints_set, tab_set] at st
        have HS := Lib.hid st; clear st
        have HJV := Lib.hid hjv; clear hjv hbz m2
        go_wp2_with fail
        go_roundw
        case rel =>
          refine ⟨j + 1, by omega, by go_num, HS.out.congr ?_, hchg.trans (Chg.set _ _ _ _)⟩
          congr 1
          refine tab_congr fun i _ => ?_
          have hjv := HJV.out
          by_cases e : i = j
          · rw [if_pos e, if_pos (by omega)]
          · have ev : ¬ i = v := by omega
            rw [if_neg e, if_neg ev, if_neg ev]
            by_cases e2 : i < j
            · rw [if_pos e2, if_pos (by omega)]
            · rw [if_neg e2, if_neg (by omega)]
        case measure => simp [intOf]; omega
      · rw [if_neg hjv, if_neg (by omega)] at cd
        have x1j := x1.out j hjv hlt
        generalize hbj : bet v j = bj at *
        generalize hxj : xs j = xj0 at *
        have HXJ := Lib.hid hxj; clear hxj
        have X1J := Lib.hid x1j; clear x1j
        have HBJ := Lib.hid hbj; clear hbj
        have st := HO.out.set j (.int .i64 (xj0 + k * bj))
        rw [ints_set, tab_set] at st
        have HS := Lib.hid st; clear st
        have HJV := Lib.hid hjv; clear hjv
        go_wp2_with fail
        go_roundw
        case rel =>
          refine ⟨j + 1, by omega, by go_num, HS.out.congr ?_, hchg.trans (Chg.set _ _ _ _)⟩
          congr 1
          refine tab_congr fun i _ => ?_
          have hjv := HJV.out
          by_cases e : i = j
          · subst e
            rw [if_pos rfl, if_neg hjv, if_pos (by omega), HXJ.out, X1J.out]; omega
          · rw [if_neg e]
            by_cases e3 : i = v
            · rw [if_pos e3, if_pos e3]
            · rw [if_neg e3, if_neg e3]
              by_cases e2 : i < j
              · rw [if_pos e2, if_pos (by omega)]
              · rw [if_neg e2, if_neg (by omega)]
        case measure => simp [intOf]; omega
    · have he : j = N := by omega
      subst he
      go_wp2_with fail
      go_end0
      refine ⟨rfl, HO.out.congr ?_, ch2.trans hchg⟩
      congr 1
      refine tab_congr fun i hi => ?_
      by_cases e : i = v
      · subst e; rw [if_pos rfl, HXV.out, x2.out]
      · rw [if_neg e, if_pos hi]

/-- What a script takes away, vertices 0 to v - 1. -/
def accF (s : Nat → Int) (L : Nat → Nat → Int) (v j : Nat) : Int := isum ((List.range v).map fun u => s u * L u j)
theorem accF_zero (s : Nat → Int) (L : Nat → Nat → Int) (j : Nat) : accF s L 0 j = 0 := rfl
theorem accF_succ (s : Nat → Int) (L : Nat → Nat → Int) (v j : Nat) : accF s L (v + 1) j = accF s L v j + s v * L v j := by
  unfold accF; rw [List.range_succ, List.map_append, List.map_singleton, isum_snoc]
theorem accF_bound {s : Nat → Int} {L : Nat → Nat → Int} {N : Nat} (hs : ∀ u, u < N → -20 ≤ s u ∧ s u ≤ 20) (hL : ∀ u j, u < N → j < N → -10485760 ≤ L u j ∧ L u j ≤ 10485760) :
    ∀ v, v ≤ N → ∀ j, j < N → -(v * 209715200) ≤ accF s L v j ∧ accF s L v j ≤ v * 209715200
  | 0, _, j, _ => by simp [accF_zero]
  | v + 1, hv, j, hj => by
    have ih := accF_bound hs hL v (by omega) j hj
    have m := mulb (K := 20) (M := 10485760) (by omega) (hs v (by omega)) (hL v j (by omega) hj)
    rw [accF_succ]
    omega
theorem accF_congr {s s' : Nat → Int} {L L' : Nat → Nat → Int} {v j : Nat} (h : ∀ u, u < v → s u * L u j = s' u * L' u j) : accF s L v j = accF s' L' v j := by
  unfold accF
  rw [List.map_congr_left fun u hu => h u (by simpa using hu)]
theorem lapE_lapF (ls : List Lk) (v j : Nat) : lapE (betF ls) (valF ls) v j = lapF ls v j := rfl
theorem betF_diag {n : Int} {ls : List Lk} (h : goodL n ls = true) (v : Nat) : betF ls v v = 0 := by
  refine isum_zero fun y hy => ?_
  obtain ⟨x, hx, rfl⟩ := List.mem_map.1 hy
  have := good_mem h hx
  exact if_neg (by omega)
theorem MatAt.chg {w w' : World} {gb b : Nat} {rb : Nat → Nat} {N : Nat} {M : Nat → Nat → Int} (h : MatAt w gb rb N M) (hc : Chg b w w') (h2 : gb ≠ b) (h4 : ∀ i, i < N → rb i ≠ b) : MatAt w' gb rb N M :=
  ⟨h.hb.chg hc h2, fun i hi => (h.hr i hi).chg hc (h4 i hi), h.inj⟩
theorem ResI.shape {w : World} {B : Nat} {E : TypeId} {v : Value} {xs : List Int} (h : ResI w B E v xs) (h0 : 0 < xs.length) : ∃ g cap, v = .slice (some ⟨g, 0, none⟩) xs.length cap ∧ B ≤ g ∧ Own w g E (ints xs) := by
  rcases h with ⟨_, rfl⟩ | h
  · simp at h0
  · exact h

set_option maxHeartbeats 800000 in
set_option maxRecDepth 100000 in
theorem fireScript_any (G gb gv capb : Nat) (rb : Nat → Nat) (N : Nat) (bet : Nat → Nat → Int) (val : Nat → Int) (ed : Int) (a : Addr) (cap : Nat) (d : List Int) (a' : Addr) (cap' : Nat) (s : List Int) (w : World)
    (hG : GrAt w G gb gv capb rb N bet val ed) (hN0 : 0 < N) (hN : N ≤ 8) (hdl : d.length = N) (hsl : s.length = N) (hr : RdI w (some a) d) (hr' : RdI w (some a') s)
    (hx : ∀ j, j < N → -1000000000000 ≤ d.getD j 0 ∧ d.getD j 0 ≤ 1000000000000) (hs : ∀ u, u < N → -20 ≤ s.getD u 0 ∧ s.getD u 0 ≤ 20)
    (hvl : ∀ v, v < N → 0 ≤ val v ∧ val v ≤ 10485760) (hbt : ∀ v j, v < N → j < N → 0 ≤ bet v j ∧ bet v j ≤ 5) (hbb : ∀ v, v < N → bet v v = 0) :
    Calls Try.prog 92 #[.pointer (some ⟨G, 0, none⟩), .slice (some a) N cap, .slice (some a') N cap'] w fun e w' => ∃ v, e = .returned v ∧
      ResI w' w.heap.size 3 v (tab N fun j => d.getD j 0 - accF (fun u => s.getD u 0) (lapE bet val) N j) ∧ Below w.heap.size w w' := by
  have hLb : ∀ u j, u < N → j < N → -10485760 ≤ lapE bet val u j ∧ lapE bet val u j ≤ 10485760 := fun u j hu hj => by
    have h1 := hvl u hu
    have h2 := hbt u j hu hj
    unfold lapE
    split <;> omega
  have HAB := Lib.hid (accF_bound hs hLb)
  have HG := Lib.hid hG; clear hG
  have HR' := Lib.hid hr'; clear hr'
  have HX := Lib.hid hx; clear hx
  have HS := Lib.hid hs; clear hs
  have HV := Lib.hid hvl; clear hvl
  have HB := Lib.hid hbt; clear hbt
  have HB0 := Lib.hid hbb; clear hbb
  clear hLb
  have lG := HG.out.hv.lt
  have lr : Hid (∀ i, i < N → rb i < w.heap.size) := fun i hi => (HG.out.hr i hi).lt
  go_enter Try.func92, Try.ntmps92
  go_wp2_with fail
  rw [← hdl]
  refine (clone_any a cap d _ (by omega) hr).mono ?_
  rw [hdl]
  rintro e w1 ⟨v, rfl, hv, hb1⟩
  obtain ⟨g, capg, rfl, hg, ho⟩ := hv.shape (by omega)
  rw [hdl]
  clear hr hv
  have HO1 := Lib.hid ho; clear ho
  go_wp2_with fail
  go_loopw [14] (fun i wr => ∃ k : Nat, k ≤ N ∧ i = .int .i64 k ∧ Own wr g 3 (ints (tab N fun j => d.getD j 0 - accF (fun u => s.getD u 0) (lapE bet val) k j)) ∧ Below w.heap.size w wr) (fun i _ => N - (intOf i).toNat)
  case atStart =>
    refine ⟨0, Nat.zero_le _, rfl, HO1.out.congr ?_, hb1⟩
    congr 1
    rw [← tab_self d 0, hdl]
    refine tab_congr fun j _ => ?_
    rw [accF_zero, Int.sub_zero]
    rw [← hdl, tab_self]
  case round =>
    obtain ⟨k, hk, rfl, hown, hbel⟩ := hrel
    have HO := Lib.hid hown; clear hown
    by_cases hlt : k < N
    · obtain ⟨b, off, e, hb, c⟩ := HR'.out k (by omega)
      obtain rfl : a' = ⟨b, off, none⟩ := by simpa using e
      clear e
      have dd := bcell hbel hb c
      clear c
      have sk := HS.out k hlt
      have hst := fun j => accF_succ (fun u => s.getD u 0) (lapE bet val) k j
      generalize s.getD k 0 = x at dd sk hst
      have HST := Lib.hid hst; clear hst
      go_wp2_with fail
      refine (fire_any G gb gv capb rb N bet val ed g capg _ k x _ (HG.out.below hbel) HO.out (by omega) (fun i hi => by have := lr.out i hi; omega) hN hlt (fun j hj => by have h1 := HX.out j hj; have h2 := HAB.out k hk j hj; omega) (by omega) (by omega) (HV.out k hlt) (fun j hj => HB.out k j hlt hj) (HB0.out k hlt)).mono ?_
      rintro e w2 ⟨rfl, ho2, hc2⟩
      have HO2 := Lib.hid ho2; clear ho2
      go_wp2_with fail
      go_roundw
      case rel =>
        refine ⟨k + 1, by omega, by go_num, HO2.out.congr ?_, bchg hbel hc2 hg hbel.size⟩
        congr 1
        refine tab_congr fun j _ => ?_
        rw [HST.out]; omega
      case measure => simp [intOf]; omega
    · have he : k = N := by omega
      subst he
      go_wp2_with fail
      go_ret
      exact ⟨_, rfl, Or.inr ⟨g, capg, by rw [tab_length]; rfl, hg, HO.out⟩, hbel⟩

set_option maxHeartbeats 1600000 in
set_option maxRecDepth 100000 in
theorem chFire_any (n : Int) (adl : Option Addr) (capl : Nat) (ls : List Lk) (a : Addr) (cap : Nat) (d : List Int) (a' : Addr) (cap' : Nat) (s : List Int) (w : World)
    (hl : ls.length ≤ 1048576) (hrl : RdL w adl ls) (hgd : goodL n ls = true) (hdl : d.length = n.toNat) (hsl : s.length = n.toNat) (hr : RdI w (some a) d) (hr' : RdI w (some a') s)
    (hx : ∀ j, j < n.toNat → -1000000000000 ≤ d.getD j 0 ∧ d.getD j 0 ≤ 1000000000000) (hs : ∀ u, u < n.toNat → -20 ≤ s.getD u 0 ∧ s.getD u 0 ≤ 20) :
    Calls Try.prog 83 #[.int .i64 n, .slice adl ls.length capl, .slice (some a) n.toNat cap, .slice (some a') n.toNat cap'] w fun e w' => ∃ v, e = .returned v ∧
      ResI w' w.heap.size 3 v (tab n.toNat fun j => d.getD j 0 - accF (fun u => s.getD u 0) (lapF ls) n.toNat j) ∧ Below w.heap.size w w' := by
  obtain ⟨hn1, hn2⟩ := good_n hgd
  obtain ⟨N, rfl⟩ : ∃ N : Nat, n = N := ⟨n.toNat, by omega⟩
  rw [Int.toNat_natCast] at *
  have hLb : ∀ u j, u < N → j < N → -10485760 ≤ lapF ls u j ∧ lapF ls u j ≤ 10485760 := fun u j _ _ => by
    have h1 := lapF_bound hgd hl ls.length u j
    rwa [List.take_length] at h1
  have HAB := Lib.hid (accF_bound hs hLb)
  have HLB := Lib.hid hLb; clear hLb
  have HGD := Lib.hid hgd; clear hgd
  have HR' := Lib.hid hr'; clear hr'
  have HRL := Lib.hid hrl; clear hrl
  have HX := Lib.hid hx; clear hx
  have HS := Lib.hid hs; clear hs
  go_enter Try.func83, Try.ntmps83
  go_wp2_with fail
  rw [← hdl]
  refine (l1Own_any a cap d _ (by omega) hr).mono ?_
  rw [hdl]
  rintro e w1 ⟨v, rfl, hv, hb1⟩
  obtain ⟨g, capg, rfl, hg, ho⟩ := hv.shape (by omega)
  rw [hdl]
  clear hr hv
  have HO1 := Lib.hid ho; clear ho
  go_wp2_with fail
  refine (chLap_any _ adl capl ls _ hl (HRL.out.below hb1) HGD.out).mono ?_
  rw [Int.toNat_natCast]
  rintro e w2 ⟨gb, capb, rb, rfl, hM, hgb, hrb, hb2⟩
  have bb := ball hb1 hb2
  have gl := HO1.out.lt
  have HM := Lib.hid hM; clear hM
  have HO2 := Lib.hid (HO1.out.belowAll hb2)
  have HRB := Lib.hid hrb; clear hrb
  go_wp2_with fail
  go_loopw [20] (fun i wr => ∃ k : Nat, k ≤ N ∧ i = .int .i64 k ∧ Own wr g 3 (ints (tab N fun j => d.getD j 0 - accF (fun u => s.getD u 0) (lapF ls) k j)) ∧ Chg g w2 wr) (fun i _ => N - (intOf i).toNat)
  case atStart =>
    refine ⟨0, Nat.zero_le _, rfl, HO2.out.congr ?_, Chg.refl _ _⟩
    congr 1
    rw [← tab_self d 0, hdl]
    refine tab_congr fun j _ => ?_
    rw [accF_zero, Int.sub_zero]
    rw [← hdl, tab_self]
  case round =>
    obtain ⟨k, hk, rfl, hown, hchg⟩ := hrel
    have HO := Lib.hid hown; clear hown
    obtain ⟨wo, rfl⟩ : ∃ wo : World, wo = wr := ⟨_, rfl⟩
    by_cases hlt : k < N
    · have hmw := HM.out.chg hchg (by omega) (fun i hi => by have := HRB.out i hi; omega)
      have r1 := hmw.row hlt
      clear hmw
      go_wp2_with fail
      go_loopw [27] (fun i wr => ∃ j : Nat, j ≤ N ∧ i = .int .i64 j ∧ Own wr g 3 (ints (tab N fun i => d.getD i 0 - accF (fun u => s.getD u 0) (lapF ls) k i - (if i < j then s.getD k 0 * lapF ls k i else 0))) ∧ Chg g w2 wr) (fun i _ => N - (intOf i).toNat)
      case atStart =>
        refine ⟨0, Nat.zero_le _, rfl, HO.out.congr ?_, hchg⟩
        congr 1
        exact tab_congr fun j _ => by simp
      case round =>
        obtain ⟨j, hj, rfl, hown2, hchg2⟩ := hrel
        have HOJ := Lib.hid hown2; clear hown2
        by_cases hltj : j < N
        · have hmw := HM.out.chg hchg2 (by omega) (fun i hi => by have := HRB.out i hi; omega)
          have r2 := hmw.cb hlt hltj
          clear hmw
          obtain ⟨b, off, e, hb, c⟩ := HR'.out k (by omega)
          obtain rfl : a' = ⟨b, off, none⟩ := by simpa using e
          clear e
          have dd := bcell (bb.trans (hchg2.below hg bb.size)) hb c
          clear c
          have sk := HS.out k hlt
          have lk := HLB.out k j hlt hltj
          have ab := HAB.out k hk j hltj
          have xj := HX.out j hltj
          have cd := HOJ.out.cell? (i := j) (ints_get (by rw [tab_length]; exact hltj))
          rw [tab_getD hltj, if_neg (by omega), Int.sub_zero] at cd
          have fd := HOJ.out.frozen j
          have mm := mulb (k := lapF ls k j) (m := s.getD k 0) (K := 10485760) (M := 20) (by omega) lk sk
          generalize hy : d.getD j 0 - accF (fun u => s.getD u 0) (lapF ls) k j = y at cd
          have yb : -2000000000000 ≤ y ∧ y ≤ 2000000000000 := by omega
          have HY := Lib.hid hy; clear hy ab xj
          generalize hm : lapF ls k j = m at r2 lk mm
          generalize hz : s.getD k 0 = z at dd sk mm
          have HMM := Lib.hid hm; clear hm
          have HZ := Lib.hid hz; clear hz
          have e1 : IntKind.i64.wrap (m * z) = m * z := i64_small (by omega) (by omega)
          have e2 : IntKind.i64.wrap (y - m * z) = y - m * z := i64_small (by omega) (by omega)
          have st := (HOJ.out.set j (.int .i64 (y - m * z))).drew
          rw [ints_set, tab_set] at st
          have HST := Lib.hid st; clear st
          go_wp2_with fail
          go_still_tail 12, (by kernel_rfl)
          change wpList _ _ _ _ _ wr.drew
          clear e1 e2
          go_wp2_with fail
          go_roundw
          case rel =>
            refine ⟨j + 1, by omega, by go_num, HST.out.congr ?_, hchg2.trans ((Chg.set _ _ _ _).trans (Chg.drew _ _))⟩
            congr 1
            refine tab_congr fun i _ => ?_
            by_cases e : i = j
            · subst e
              rw [if_pos rfl, if_pos (by omega), HMM.out, ← HY.out, Int.mul_comm m z]
            · rw [if_neg e]
              by_cases e2 : i < j
              · rw [if_pos e2, if_pos (by omega), HZ.out]
              · rw [if_neg e2, if_neg (by omega)]
          case measure => simp [intOf]; omega
        · have he : j = N := by omega
          subst he
          go_wp2_with fail
          go_roundw
          case rel =>
            refine ⟨k + 1, by omega, by go_num, HOJ.out.congr ?_, hchg2⟩
            congr 1
            refine tab_congr fun i hi => ?_
            rw [if_pos hi, accF_succ]; omega
          case measure => simp [intOf]; omega
    · have he : k = N := by omega
      subst he
      go_wp2_with fail
      go_ret
      exact ⟨_, rfl, Or.inr ⟨g, capg, by rw [tab_length]; rfl, hg, HO.out⟩, bb.trans (hchg.below hg bb.size)⟩

end Go.Proofs.Ytmhmdbmiimpbnaa
