/-
  Rows of terms: append in a plain region, slices.Clone, slices.Grow, slices.Concat, gathered. By an AI agent.
-/
import Derived.Test.YtbafgmicpopnoaaGreatDoorTmsC
import Derived.Test.YtbafgmicpopnoaaGreatDoorCeC
import Derived.Lib.AppendZeros
namespace Go.Proofs.YtbafgmicpopnoaaGreatDoor
open Go.RowKit

theorem TmsSort.PH.rd {w : World} {blk off : Nat} {d : Array Tm} (h : TmsSort.PH w blk off d) : RdT w (Option.some ⟨blk, off, none⟩) d.toList := fun j hj => by
  have hj' : j < d.size := by simpa using hj
  obtain ⟨h1, h2, h3, _⟩ := h j hj'
  have e : d[j]! = d.toList.getD j default := (TmsSort.getD_toListM d j).symm
  rw [e] at h1 h2 h3
  exact ⟨blk, off, rfl, h.lt (by omega), h1, h2, h3⟩
/-- A row of one's own as the sort wants it. -/
theorem RowT.ph {w : World} {B g n cap : Nat} {l : List Tm} (h : RowT w B (.slice (some ⟨g, 0, none⟩) n cap) l) (hbd : ∀ p ∈ l, TmsSort.Bd p) : TmsSort.PH w g 0 l.toArray := fun t ht => by
  have ht' : t < l.length := by simpa using ht
  obtain ⟨c0, c1, c2⟩ := h.rd.at ht'
  rcases h.2 with ⟨e, e2⟩ | ⟨g', cap', cur, e, hb, hg, _⟩
  · cases e
  · injection e with e1 _ _
    injection e1 with e1
    injection e1 with e1
    subst e1
    rw [getD_toArrayT]
    refine ⟨c0, c1, c2, by simp [World.frozen?, hg], by simp [World.frozen?, hg], by simp [World.frozen?, hg], ?_⟩
    rw [List.getD_eq_getElem?_getD, List.getElem?_eq_getElem ht', Option.getD_some]
    exact hbd _ (List.getElem_mem _)
theorem reads_of {w : World} {ad : Option Addr} {c : Nat} {l : List Tm} (h : RdT w ad l) (h0 : 0 < l.length) : ReadsT w (.slice ad l.length c) l := by
  obtain ⟨b, off, rfl, _⟩ := h.some h0
  exact Or.inr ⟨b, off, c, rfl, h⟩
/-- append of terms in the list of a plain region, whatever is appended. -/
theorem wpList_appT {w : World} {ops : Array Oper} {rest : List Oper} {o : Oper} {a : Act} {Q : Exit → Act → World → Prop} (hgd : o.guard = none) (s x : Operand)
    (ho : o.op = .call { callee := .builtin .append, args := #[s, x], argTypes := #[24, 24] })
    (B : Nat) (v X : Value) (l m : List Tm) (hs : a.eval s = v) (hx : a.eval x = X) (hown : RowT w B v l) (hX : ReadsT w X m) (hl : l.length ≤ 100000) (hm : m.length ≤ 100000) (hB : B ≤ w.heap.size)
    (h : ∀ ad' cap' N w', N = l.length + m.length → RowT w' B (.slice ad' N cap') (l ++ m) → Below B w w' → w.heap.size ≤ w'.heap.size → wpList Tryz.prog ops Q rest (a.put o.dst (.slice ad' N cap')) w') : wpList Tryz.prog ops Q (o :: rest) a w := by
  refine wpList_plain hgd fun _ hK => ?_
  obtain ⟨iP, hiP, hzP, hsP, hbP⟩ := info_parts Tryz.infoT
  have key : ∀ v' w', RowT w' B v' (l ++ m) → Below B w w' → ∃ ad' cap', v' = .slice ad' (l.length + m.length) cap' ∧ RowT w' B (.slice ad' (l.length + m.length) cap') (l ++ m) := fun v' w' h1 _ => by
    obtain ⟨ad', cap', e, _⟩ := h1.shape
    rw [List.length_append] at e
    subst e
    exact ⟨_, _, rfl, h1⟩
  rcases hX with ⟨rfl, rfl⟩ | ⟨b, off, c, rfl, hrd⟩
  · have hr := run_append_owned_none (P := Tryz.prog) w B 24 o.type 43 iP 3 Tryz.underlyingT hiP v l.length (tmsV l) hown
    have h1 : RowT w B v (l ++ []) := by rw [List.append_nil]; exact hown
    obtain ⟨ad', cap', e, h2⟩ := key _ _ h1 (Below.refl _ _)
    subst e
    unfold Oper.wp execOp
    simp only [ho, resolve, invoke, builtin, Sem.run_bind, Sem.run_pure, Result.andThen_ok, List.map_toArray, List.map_cons, List.map_nil, hs, hx, hr]
    exact hK _ _ (h _ _ _ w rfl h2 (Below.refl _ _) (Nat.le_refl _))
  · obtain ⟨v', w', hr, h2, h3, _, _⟩ := run_append_own_at (P := Tryz.prog) w B 24 o.type 43 iP _ 3 24 Tryz.underlyingT hiP hzP hsP hbP rfl (by omega) v l.length (tmsV l) hown ⟨b, off, none⟩ m.length c (tmsV m) (tmsV_length m) hrd.news (tmsV_one m) (by unfold maxLen; omega) (by omega) hB
    have hbl := (Below.refl B w).grown h3 hB (fun q e => (hown.lt q e).1)
    obtain ⟨ad', cap', e, h4⟩ := key v' w' (rowT_congr h2 (by simp) (tmsV_append l m).symm) hbl
    subst e
    unfold Oper.wp execOp
    simp only [ho, resolve, invoke, builtin, Sem.run_bind, Sem.run_pure, Result.andThen_ok, List.map_toArray, List.map_cons, List.map_nil, hs, hx, hr]
    exact hK _ _ (h _ _ _ w' rfl h4 hbl h3.size)

set_option maxHeartbeats 800000 in
theorem cloneT_c (ad : Option Addr) (cap : Nat) (l : List Tm) (w : World) (hr : RdT w ad l) (h0 : 0 < l.length) (hl : l.length ≤ 100000) :
    Calls Tryz.prog 55 #[.slice ad l.length cap] w fun e w' => ∃ g cap', e = .returned (.slice (some ⟨g, 0, none⟩) l.length cap') ∧ RowT w' w.heap.size (.slice (some ⟨g, 0, none⟩) l.length cap') l ∧ l.length ≤ cap' ∧ Below w.heap.size w w' := by
  have hnl := fun (w : World) (a : Option Addr) (l c : Nat) => Lib.run_eql_slice_nil (P := Tryz.prog) w 24 43 a l c 0 0 Tryz.underlyingT
  obtain ⟨b, off, rfl, hb⟩ := hr.some h0
  have HO := Lib.hid (rowY_new w w.heap.size w.heap.size (Nat.le_refl _) rfl)
  have HX := Lib.hid (show ReadsT (w.alloc (.cells #[] 43)) (.slice (some ⟨b, off, none⟩) l.length cap) l from ReadsT.alloc' (Or.inr ⟨b, off, cap, rfl, hr⟩))
  clear hr
  go_enter Tryz.func55, Tryz.ntmps55
  go_wp2_with (at_builtin; refine wpList_appT rfl _ _ rfl w.heap.size _ _ [] l rfl rfl HO.out HX.out (by simp) hl (by simp) ?_; intro ad5 cap5 N5 wm hN5 hown hbm hgr)
  have hN6 : N5 = l.length := by simpa using hN5
  rw [List.nil_append, hN6] at hown
  clear hN5 hN6
  have hsh : ∃ g, ad5 = some ⟨g, 0, none⟩ ∧ l.length ≤ cap5 := by
    rcases hown.2 with ⟨e, e2⟩ | ⟨g, cap', cur, e, _, _, h1, _⟩
    · omega
    · injection e with e1 _ e3; subst e3; exact ⟨g, e1, h1⟩
  obtain ⟨g, rfl, hc⟩ := hsh
  have HOW := Lib.hid hown; clear hown
  go_wp2_with fail
  go_ret
  exact ⟨g, cap5, rfl, HOW.out, hc, ((Below.refl _ _).alloc (Nat.le_refl _) _).trans hbm⟩

set_option maxHeartbeats 800000 in
set_option maxRecDepth 100000 in
theorem growT_c (k : Nat) (w : World) (h1 : k ≤ 1000) :
    Calls Tryz.prog 63 #[.slice none 0 0, .int .i64 k] w fun e w' => ∃ v, e = .returned v ∧ RowT w' w.heap.size v [] ∧ Below w.heap.size w w' := by
  obtain ⟨i0, hi0, hz0, hz1, hz2⟩ := info_parts Tryz.infoT
  by_cases h0 : 0 < k
  · go_enter Tryz.func63, Tryz.ntmps63
    go_wp2_with (at_builtin; (refine Lib.wpList_append_run _ rfl _ _ 24 3 rfl (.slice none 0 0) (.int .i64 k) rfl rfl _ _ (Lib.run_append_nil_zeros (P := Tryz.prog) w 24 3 _ 43 i0 _ .i64 .i64 Tryz.underlyingT Tryz.underlying3 hi0 hz0 k h0 (by rw [hz1]; omega) (by omega) (by rw [hz2]; omega)) ?_))
    go_ret
    have h2 := grownCap_ge w k 0 43
    have h3 := grownCap_le_maxLen w k 0 43 (by unfold maxLen; omega)
    refine ⟨_, rfl, ?_, ?_⟩
    · exact World.ownsRow_made w _ (grownCap w k 0 43) (Nat.le_refl _) h3 (by simp only [Array.size_append, size_zeroCells]; simp; omega)
    · exact ((Below.refl _ _).alloc (Nat.le_refl _) _).drew
  · obtain rfl : k = 0 := by omega
    go_enter Tryz.func63, Tryz.ntmps63
    go_wp2_with fail
    go_ret
    exact ⟨_, rfl, RowT.nil _ _, Below.refl _ _⟩

set_option maxHeartbeats 1600000 in
set_option maxRecDepth 100000 in
theorem concatT_c (g cap : Nat) (ad1 ad2 : Option Addr) (c1 c2 : Nat) (xs ys : List Tm) (w : World) (ho : Own w g 24 [.slice ad1 xs.length c1, .slice ad2 ys.length c2])
    (hr1 : RdT w ad1 xs) (hs1 : 0 < xs.length) (hr2 : RdT w ad2 ys) (hs2 : 0 < ys.length) (h1 : xs.length + ys.length ≤ 1000) :
    Calls Tryz.prog 31 #[.slice (some ⟨g, 0, none⟩) 2 cap] w fun e w' => ∃ ar cr, e = .returned (.slice ar (xs ++ ys).length cr) ∧ RdT w' ar (xs ++ ys) ∧ Below w.heap.size w w' := by
  have k0 := ho.cell? (i := 0) rfl
  have k1 := ho.cell? (i := 1) rfl
  have HOW := Lib.hid ho; clear ho
  have HX1 := Lib.hid (fun (u : World) (h : Below w.heap.size w u) => reads_of (c := c1) (hr1.below h) hs1)
  have HX2 := Lib.hid (fun (u : World) (h : Below w.heap.size w u) => reads_of (c := c2) (hr2.below h) hs2)
  clear hr1 hr2 hs1 hs2
  go_enter Tryz.func31, Tryz.ntmps31
  go_wp2_with fail
  go_loop [3, 11] (fun sz i => ∃ k : Nat, ∃ s : Nat, k ≤ 2 ∧ i = .int .i64 k ∧ sz = .int .i64 s ∧ (k = 0 → s = 0) ∧ (k = 1 → s = xs.length) ∧ (k = 2 → s = xs.length + ys.length)) (fun _ i => 2 - (intOf i).toNat)
  case atStart => exact ⟨0, 0, by omega, rfl, rfl, fun _ => rfl, fun h => by omega, fun h => by omega⟩
  case round =>
    obtain ⟨k, s, hk, rfl, rfl, a0, a1, a2⟩ := hrel
    have h3 : k = 0 ∨ k = 1 ∨ k = 2 := by omega
    rcases h3 with rfl | rfl | rfl
    · obtain rfl := a0 rfl
      clear a1 a2 a0
      go_wp2_with fail
      go_round
      case rel => exact ⟨1, xs.length, by omega, rfl, by go_num, fun h => by omega, fun _ => rfl, fun h => by omega⟩
      case measure => simp [intOf]
    · obtain rfl := a1 rfl
      clear a0 a2 a1
      go_wp2_with fail
      go_round
      case rel => exact ⟨2, xs.length + ys.length, by omega, rfl, by go_num, fun h => by omega, fun h => by omega, fun _ => rfl⟩
      case measure => simp [intOf]
    · obtain rfl := a2 rfl
      clear a0 a1 a2
      have hgw := growT_c (xs.length + ys.length) w h1
      rw [Int.natCast_add] at hgw
      go_wp2_with fail
      refine hgw.mono ?_
      clear hgw
      rintro e w1 ⟨v, rfl, hown1, hb1⟩
      have HO1 := Lib.hid hown1; clear hown1
      go_wp2_with fail
      go_loopw [6, 27] (fun v i wr => ∃ k : Nat, ∃ zs : List Tm, k ≤ 2 ∧ i = .int .i64 k ∧ RowT wr w.heap.size v zs ∧ Below w.heap.size w wr ∧ (k = 0 → zs = []) ∧ (k = 1 → zs = xs) ∧ (k = 2 → zs = xs ++ ys)) (fun _ i _ => 2 - (intOf i).toNat)
      case atStart => exact ⟨0, [], by omega, rfl, HO1.out, hb1, fun _ => rfl, fun h => by omega, fun h => by omega⟩
      case round =>
        obtain ⟨k, zs, hk, rfl, hown, hbel, a0, a1, a2⟩ := hrel
        have h3 : k = 0 ∨ k = 1 ∨ k = 2 := by omega
        rcases h3 with rfl | rfl | rfl
        · obtain rfl := a0 rfl
          clear a0 a1 a2
          have HO := Lib.hid hown; clear hown
          have HB := Lib.hid hbel
          have hsz := hbel.size
          have cc := bcell hbel HOW.out.lt k0
          go_wp2_with (at_builtin; refine wpList_appT rfl _ _ rfl w.heap.size _ _ [] xs rfl rfl HO.out (HX1.out _ HB.out) (by simp) (by omega) hsz ?_; intro ad5 cap5 N5 w2 hN5 hown2 hbm hgr)
          have hN6 : N5 = xs.length := by simpa using hN5
          rw [List.nil_append, hN6] at hown2
          clear hN6
          have HO2 := Lib.hid hown2; clear hown2
          have hb2 := hbel.trans hbm
          clear hbm hN5
          go_roundw
          case rel => exact ⟨1, xs, by omega, rfl, HO2.out, hb2, fun h => by omega, fun _ => rfl, fun h => by omega⟩
          case measure => simp [intOf]
        · obtain rfl := a1 rfl
          clear a0 a1 a2
          have HO := Lib.hid hown; clear hown
          have HB := Lib.hid hbel
          have hsz := hbel.size
          have cc := bcell hbel HOW.out.lt k1
          go_wp2_with (at_builtin; refine wpList_appT rfl _ _ rfl w.heap.size _ _ zs ys rfl rfl HO.out (HX2.out _ HB.out) (by omega) (by omega) hsz ?_; intro ad5 cap5 N5 w2 hN5 hown2 hbm hgr)
          rw [hN5] at hown2
          have HO2 := Lib.hid hown2; clear hown2
          have hb2 := hbel.trans hbm
          clear hbm hN5
          go_roundw
          case rel => exact ⟨2, _, by omega, rfl, HO2.out, hb2, fun h => by omega, fun h => by omega, fun _ => rfl⟩
          case measure => simp [intOf]
        · obtain rfl := a2 rfl
          clear a0 a1 a2
          obtain ⟨ar, cr, rfl, _⟩ := hown.shape
          have HO := Lib.hid (RowT.rd hown); clear hown
          go_wp2_with fail
          go_ret
          exact ⟨ar, cr, rfl, HO.out, hbel⟩

/-! ### The sort, and what it gives -/
theorem ltTm_eq {a b : Tm} (h1 : ltTm a b = false) (h2 : ltTm b a = false) : a = b := by
  obtain ⟨i, j, c⟩ := a
  obtain ⟨x, y, z⟩ := b
  unfold ltTm at h1 h2
  simp only [Bool.or_eq_false_iff, Bool.and_eq_false_iff, decide_eq_false_iff_not] at h1 h2
  simp only [Tm.mk.injEq]
  omega
def srtT (l : List Tm) : List Tm := l.mergeSort (fun x y => !ltTm y x)
theorem sort_eqT (d : Array Tm) : (Sort.sort ltTm d).toList = srtT d.toList :=
  Sort.sorted_unique_holds TmsSort.swo_ltTm (fun x y h1 h2 => ltTm_eq h1 h2) d (Sort.sort ltTm d) (Sort.sort_sorts ltTm TmsSort.swo_ltTm d).1 (by
    have h := (Sort.sort_sorts ltTm TmsSort.swo_ltTm d).2
    exact h)
theorem srtT_gth (l : List Tm) : compT (srtT l) = gth l := by
  refine comp_gth (List.mergeSort_perm _ _) ?_
  have h : (srtT l).Pairwise (fun a b => (!ltTm b a) = true) := by
    unfold srtT
    refine List.pairwise_mergeSort ?_ ?_ l
    · intro a b c h1 h2
      simp only [Bool.not_eq_true'] at *
      exact TmsSort.swo_ltTm.ntrans _ _ _ h2 h1
    · intro a b
      simp only [Bool.or_eq_true, Bool.not_eq_true']
      cases h : ltTm b a
      · exact Or.inl rfl
      · refine Or.inr ?_
        unfold ltTm at *
        simp only [Bool.or_eq_true, Bool.and_eq_true, decide_eq_true_eq] at h
        simp only [Bool.or_eq_false_iff, Bool.and_eq_false_iff, decide_eq_false_iff_not]
        omega
  exact h.imp fun hh => by simpa using hh
/-- What gives terms in new memory. -/
def TmsTo (w : World) (l : List Tm) (e : Ending) (w' : World) : Prop := ∃ ad cap, e = .returned (.slice ad l.length cap) ∧ RdT w' ad l ∧ Below w.heap.size w w'

set_option maxHeartbeats 1600000 in
set_option maxRecDepth 100000 in
theorem gathered_c (ad : Option Addr) (cap : Nat) (l : List Tm) (w : World) (hr : RdT w ad l) (h0 : 0 < l.length) (hl : l.length ≤ 100000) (hbd : ∀ p ∈ l, TmsSort.Bd p) :
    Calls Tryz.prog 27 #[.slice ad l.length cap] w (TmsTo w (gth l)) := by
  have c1 := Lib.hid (cloneT_c ad cap l w hr h0 hl)
  clear hr
  have hcs := Lib.hid (show compT (Sort.sort ltTm l.toArray).toList = gth l by rw [sort_eqT]; exact srtT_gth l)
  generalize gth l = G at hcs ⊢
  go_enter Tryz.func27, Tryz.ntmps27
  go_wp2_with fail
  refine c1.out.mono ?_
  rintro e w1 ⟨g, cap1, rfl, hrow, hcl, hb1⟩
  have hgB := (World.ownsRow.lt hrow g rfl)
  have c2 := TmsSort.sortFunc_c g 0 cap1 l.toArray w1 (hrow.ph hbd) hgB.2 (by simp; omega)
  rw [List.size_toArray] at c2
  have C2 := Lib.hid c2; clear c2 hrow hbd
  unfold TmsSort.cmpV at C2
  go_wp2_with fail
  refine C2.out.mono ?_
  rintro e w2 ⟨rfl, hp2, hc2, hs2⟩
  have c3 := TmsSort.compactFunc_c g 0 cap1 (Sort.sort ltTm l.toArray) w2 hp2 (by omega) (by omega)
  rw [hs2, hcs.out] at c3
  unfold TmsSort.eqV at c3
  have C3 := Lib.hid c3; clear c3 hp2 hs2 hcs C2 c1
  have hB1 := hgB.1
  have HB1 := Lib.hid hb1; have HC2 := Lib.hid hc2; clear hb1 hc2
  go_wp2_with fail
  refine C3.out.mono ?_
  rintro e w3 ⟨rfl, hp3, hc3⟩
  have hb3 : Below w.heap.size w w3 := ((HB1.out.trans (HC2.out.below hB1 HB1.out.size)).trans (hc3.below hB1 (Nat.le_trans HB1.out.size HC2.out.size)))
  have hrd := Lib.hid hp3.rd
  clear hp3 hc3 C3 HC2 HB1
  go_wp2_with fail
  go_ret
  exact ⟨_, _, rfl, by simpa using hrd.out, hb3⟩
end Go.Proofs.YtbafgmicpopnoaaGreatDoor
