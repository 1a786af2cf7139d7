/-
  Rows of rays: append in a plain region, slices.Clone, slices.Grow, slices.Concat. By an AI agent.
-/
import Derived.Test.YtlplodkabeiimaaStF
import Derived.Lib.AppendZeros
namespace Go.Proofs.Ytlplodkabeiimaa
open Go.RowKit

theorem RowY.sy {w : World} {B : Nat} {v : Value} {l : List Ry} (h : RowY w B v l) : ∃ ad cap, v = .slice ad l.length cap ∧ SY ad l.length cap := by
  rcases h.2 with ⟨e, e2⟩ | ⟨g, cap, cur, e, _, _, h1, h2, _⟩
  · exact ⟨none, 0, by rw [e, e2], Or.inl ⟨rfl, e2, rfl⟩⟩
  · exact ⟨_, cap, e, Or.inr ⟨⟨_, _, rfl⟩, h1, h2⟩⟩
/-- append of rays in the list of a plain region, whatever is appended. -/
theorem wpList_appY {w : World} {ops : Array Oper} {rest : List Oper} {o : Oper} {a : Act} {Q : Exit → Act → World → Prop} (hgd : o.guard = none) (s x : Operand)
    (ho : o.op = .call { callee := .builtin .append, args := #[s, x], argTypes := #[24, 24] })
    (B : Nat) (v X : Value) (l m : List Ry) (N : Nat) (hN : l.length + m.length = N) (hs : a.eval s = v) (hx : a.eval x = X) (hown : RowY w B v l) (hX : ReadsY w X m) (hl : l.length ≤ 100000) (hm : m.length ≤ 100000) (hB : B ≤ w.heap.size)
    (h : ∀ ad' cap' w', RowY w' B (.slice ad' N cap') (l ++ m) → SY ad' N cap' → Below B w w' → wpList Try.prog ops Q rest (a.put o.dst (.slice ad' N cap')) w') : wpList Try.prog ops Q (o :: rest) a w := by
  refine wpList_plain hgd fun _ hK => ?_
  obtain ⟨iP, hiP, hzP, hsP, hbP⟩ := info_parts Try.infoY
  have key : ∀ v' w', RowY w' B v' (l ++ m) → Below B w w' → ∃ ad' cap', v' = .slice ad' N cap' ∧ RowY w' B (.slice ad' N cap') (l ++ m) ∧ SY ad' N cap' := fun v' w' h1 _ => by
    obtain ⟨ad', cap', e, hsy⟩ := h1.sy
    rw [List.length_append, hN] at e hsy
    subst e
    exact ⟨_, _, rfl, h1, hsy⟩
  rcases hX with ⟨rfl, rfl⟩ | ⟨b, off, c, rfl, hrd⟩
  · have hr := run_append_owned_none (P := Try.prog) w B 24 o.type 35 iP 3 Try.underlyingY hiP v l.length (rysV l) hown
    have h1 : RowY w B v (l ++ []) := by rw [List.append_nil]; exact hown
    obtain ⟨ad', cap', e, h2, h3⟩ := key _ _ h1 (Below.refl _ _)
    subst e
    unfold Oper.wp execOp
    simp only [ho, resolve, invoke, builtin, Sem.run_bind, Sem.run_pure, Result.andThen_ok, List.map_toArray, List.map_cons, List.map_nil, hs, hx, hr]
    exact hK _ _ (h _ _ w h2 h3 (Below.refl _ _))
  · obtain ⟨v', w', hr, h2, h3, _, _⟩ := run_append_own_at (P := Try.prog) w B 24 o.type 35 iP _ 3 24 Try.underlyingY hiP hzP hsP hbP rfl (by omega) v l.length (rysV l) hown ⟨b, off, none⟩ m.length c (rysV m) (rysV_length m) hrd.news (rysV_one m) (by unfold maxLen; omega) (by omega) hB
    have hbl := (Below.refl B w).grown h3 hB (fun q e => (hown.lt q e).1)
    obtain ⟨ad', cap', e, h4, h5⟩ := key v' w' (rowY_congr h2 (by simp) (rysV_append l m).symm) hbl
    subst e
    unfold Oper.wp execOp
    simp only [ho, resolve, invoke, builtin, Sem.run_bind, Sem.run_pure, Result.andThen_ok, List.map_toArray, List.map_cons, List.map_nil, hs, hx, hr]
    exact hK _ _ (h _ _ w' h4 h5 hbl)

set_option maxHeartbeats 800000 in
theorem cloneY_c (ad : Option Addr) (cap : Nat) (l : List Ry) (w : World) (hr : RdY w ad l) (hs : SY ad l.length cap) (hl : l.length ≤ 100000) :
    Calls Try.prog 50 #[.slice ad l.length cap] w fun e w' => ∃ ad' cap', e = .returned (.slice ad' l.length cap') ∧ RowY w' w.heap.size (.slice ad' l.length cap') l ∧ SY ad' l.length cap' ∧ Below w.heap.size w w' := by
  have hnl := fun (w : World) (a : Option Addr) (l c : Nat) => Lib.run_eql_slice_nil (P := Try.prog) w 24 35 a l c 0 0 Try.underlyingY
  rcases hs with ⟨rfl, h1, rfl⟩ | ⟨⟨b, off, rfl⟩, h1, h2⟩
  · obtain rfl := List.length_eq_zero_iff.1 h1
    rw [show ([] : List Ry).length = 0 from rfl]
    go_enter Try.func50, Try.ntmps50
    go_wp2_with fail
    go_ret
    exact ⟨none, 0, rfl, RowY.nil _ _, SY.nil, Below.refl _ _⟩
  · have HO := Lib.hid (rowY_new w w.heap.size w.heap.size (Nat.le_refl _) rfl)
    have HX := Lib.hid (show ReadsY (w.alloc (.cells #[] 35)) (.slice (some ⟨b, off, none⟩) l.length cap) l from ReadsY.alloc' (Or.inr ⟨b, off, cap, rfl, hr⟩))
    clear hr
    go_enter Try.func50, Try.ntmps50
    go_wp2_with (at_builtin; refine wpList_appY rfl _ _ rfl w.heap.size _ _ [] l l.length (by simp) rfl rfl HO.out HX.out (by simp) hl (by simp) ?_; intro ad5 cap5 wm hown hsy hbm)
    have HOW := Lib.hid hown; have HSY := Lib.hid hsy; clear hown hsy
    go_wp2_with fail
    go_ret
    exact ⟨ad5, cap5, rfl, HOW.out, HSY.out, ((Below.refl _ _).alloc (Nat.le_refl _) _).trans hbm⟩

set_option maxHeartbeats 800000 in
set_option maxRecDepth 100000 in
theorem growY_c (k : Nat) (w : World) (h1 : k ≤ 1000) :
    Calls Try.prog 56 #[.slice none 0 0, .int .i64 k] w fun e w' => ∃ v, e = .returned v ∧ RowY w' w.heap.size v [] ∧ Below w.heap.size w w' := by
  obtain ⟨i0, hi0, hz0, hz1, hz2⟩ := info_parts Try.infoY
  by_cases h0 : 0 < k
  · go_enter Try.func56, Try.ntmps56
    go_wp2_with (at_builtin; (refine Lib.wpList_append_run _ rfl _ _ 24 3 rfl (.slice none 0 0) (.int .i64 k) rfl rfl _ _ (Lib.run_append_nil_zeros (P := Try.prog) w 24 3 _ 35 i0 _ .i64 .i64 Try.underlyingY Try.underlying3 hi0 hz0 k h0 (by rw [hz1]; omega) (by omega) (by rw [hz2]; omega)) ?_))
    go_ret
    have h2 := grownCap_ge w k 0 35
    have h3 := grownCap_le_maxLen w k 0 35 (by unfold maxLen; omega)
    refine ⟨_, rfl, ?_, ?_⟩
    · exact World.ownsRow_made w _ (grownCap w k 0 35) (Nat.le_refl _) h3 (by simp only [Array.size_append, size_zeroCells]; simp; omega)
    · exact ((Below.refl _ _).alloc (Nat.le_refl _) _).drew
  · obtain rfl : k = 0 := by omega
    go_enter Try.func56, Try.ntmps56
    go_wp2_with fail
    go_ret
    exact ⟨_, rfl, RowY.nil _ _, Below.refl _ _⟩

set_option maxHeartbeats 1600000 in
set_option maxRecDepth 100000 in
theorem concatY_c (g cap : Nat) (ad1 ad2 : Option Addr) (c1 c2 : Nat) (xs ys : List Ry) (w : World) (ho : Own w g 24 [.slice ad1 xs.length c1, .slice ad2 ys.length c2])
    (hr1 : RdY w ad1 xs) (hs1 : SY ad1 xs.length c1) (hr2 : RdY w ad2 ys) (hs2 : SY ad2 ys.length c2) (h1 : xs.length + ys.length ≤ 1000) :
    Calls Try.prog 28 #[.slice (some ⟨g, 0, none⟩) 2 cap] w fun e w' => ∃ ar cr, e = .returned (.slice ar (xs ++ ys).length cr) ∧ RowY w' w.heap.size (.slice ar (xs ++ ys).length cr) (xs ++ ys) ∧ SY ar (xs ++ ys).length cr ∧ Below w.heap.size w w' := by
  have k0 := ho.cell? (i := 0) rfl
  have k1 := ho.cell? (i := 1) rfl
  have HOW := Lib.hid ho; clear ho
  have HX1 := Lib.hid (fun (u : World) (h : Below w.heap.size w u) => readsOf (hr1.below h) rfl hs1)
  have HX2 := Lib.hid (fun (u : World) (h : Below w.heap.size w u) => readsOf (hr2.below h) rfl hs2)
  clear hr1 hr2 hs1 hs2
  go_enter Try.func28, Try.ntmps28
  go_wp2_with fail
  go_loop [3, 11] (fun sz i => ∃ k : Nat, ∃ s : Nat, k ≤ 2 ∧ i = .int .i64 k ∧ sz = .int .i64 s ∧ (k = 0 → s = 0) ∧ (k = 1 → s = xs.length) ∧ (k = 2 → s = xs.length + ys.length)) (fun _ i => 2 - (intOf i).toNat)
  case atStart => exact ⟨0, 0, by omega, rfl, rfl, fun _ => rfl, fun h => by omega, fun h => by omega⟩
  case round =>
    obtain ⟨k, s, hk, rfl, rfl, a0, a1, a2⟩ := hrel
    have h3 : k = 0 ∨ k = 1 ∨ k = 2 := by omega
    rcases h3 with rfl | rfl | rfl
    · obtain rfl := a0 rfl
      clear a1 a2 a0
      go_wp2_with fail
      go_round
      case rel => exact ⟨1, xs.length, by omega, rfl, by go_num, fun h => by omega, fun _ => rfl, fun h => by omega⟩
      case measure => simp [intOf]
    · obtain rfl := a1 rfl
      clear a0 a2 a1
      go_wp2_with fail
      go_round
      case rel => exact ⟨2, xs.length + ys.length, by omega, rfl, by go_num, fun h => by omega, fun h => by omega, fun _ => rfl⟩
      case measure => simp [intOf]
    · obtain rfl := a2 rfl
      clear a0 a1 a2
      have hgw := growY_c (xs.length + ys.length) w h1
      rw [Int.natCast_add] at hgw
      go_wp2_with fail
      refine hgw.mono ?_
      clear hgw
      rintro e w1 ⟨v, rfl, hown1, hb1⟩
      have HO1 := Lib.hid hown1; clear hown1
      go_wp2_with fail
      go_loopw [6, 27] (fun v i wr => ∃ k : Nat, ∃ zs : List Ry, k ≤ 2 ∧ i = .int .i64 k ∧ RowY wr w.heap.size v zs ∧ Below w.heap.size w wr ∧ (k = 0 → zs = []) ∧ (k = 1 → zs = xs) ∧ (k = 2 → zs = xs ++ ys)) (fun _ i _ => 2 - (intOf i).toNat)
      case atStart => exact ⟨0, [], by omega, rfl, HO1.out, hb1, fun _ => rfl, fun h => by omega, fun h => by omega⟩
      case round =>
        obtain ⟨k, zs, hk, rfl, hown, hbel, a0, a1, a2⟩ := hrel
        have h3 : k = 0 ∨ k = 1 ∨ k = 2 := by omega
        rcases h3 with rfl | rfl | rfl
        · obtain rfl := a0 rfl
          clear a0 a1 a2
          have HO := Lib.hid hown; clear hown
          have HB := Lib.hid hbel
          have hsz := hbel.size
          have cc := bcell hbel HOW.out.lt k0
          go_wp2_with (at_builtin; refine wpList_appY rfl _ _ rfl w.heap.size _ _ [] xs xs.length (by simp) rfl rfl HO.out (HX1.out _ HB.out) (by simp) (by omega) hsz ?_; intro ad5 cap5 w2 hown2 hsy2 hbm)
          have HO2 := Lib.hid hown2; clear hown2 hsy2
          have hb2 := hbel.trans hbm
          clear hbm
          go_roundw
          case rel => exact ⟨1, xs, by omega, rfl, HO2.out, hb2, fun h => by omega, fun _ => rfl, fun h => by omega⟩
          case measure => simp [intOf]
        · obtain rfl := a1 rfl
          clear a0 a1 a2
          have HO := Lib.hid hown; clear hown
          have HB := Lib.hid hbel
          have hsz := hbel.size
          have cc := bcell hbel HOW.out.lt k1
          go_wp2_with (at_builtin; refine wpList_appY rfl _ _ rfl w.heap.size _ _ zs ys (zs.length + ys.length) rfl rfl rfl HO.out (HX2.out _ HB.out) (by omega) (by omega) hsz ?_; intro ad5 cap5 w2 hown2 hsy2 hbm)
          have HO2 := Lib.hid hown2; clear hown2 hsy2
          have hb2 := hbel.trans hbm
          clear hbm
          go_roundw
          case rel => exact ⟨2, _, by omega, rfl, HO2.out, hb2, fun h => by omega, fun h => by omega, fun _ => rfl⟩
          case measure => simp [intOf]
        · obtain rfl := a2 rfl
          clear a0 a1 a2
          obtain ⟨ar, cr, rfl, hsy⟩ := hown.sy
          have HO := Lib.hid hown; have HS := Lib.hid hsy; clear hown hsy
          go_wp2_with fail
          go_ret
          exact ⟨ar, cr, rfl, HO.out, HS.out, hbel⟩

end Go.Proofs.Ytlplodkabeiimaa
