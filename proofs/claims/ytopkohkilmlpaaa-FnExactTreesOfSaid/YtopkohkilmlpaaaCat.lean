/-
  slices.Grow of nil, slices.Concat of two lists of numbers.
-/
import Derived.Test.YtopkohkilmlpaaaStabR
import Derived.Lib.AppendZeros
namespace Go.Proofs.Ytopkohkilmlpaaa
open Go.RowKit

set_option maxHeartbeats 800000 in
set_option maxRecDepth 100000 in
theorem grow_nil (k : Nat) (w : World) (h0 : 0 < k) (h1 : k ≤ 1000) :
    Calls Try.prog 90 #[.slice none 0 0, .int .i64 k] w fun e w' => ∃ v, e = .returned v ∧ w'.ownsRow w.heap.size 3 1 v 0 [] ∧ Below w.heap.size w w' := by
  obtain ⟨i0, hi0, hz0, hz1, hz2⟩ := info_parts Try.infoI
  go_enter Try.func90, Try.ntmps90
  go_wp2_with (at_builtin; (refine Lib.wpList_append_run _ rfl _ _ 23 3 rfl (.slice none 0 0) (.int .i64 k) rfl rfl _ _ (Lib.run_append_nil_zeros (P := Try.prog) w 23 3 _ 3 i0 _ .i64 .i64 Try.underlying23 Try.underlying3 hi0 hz0 k h0 (by rw [hz1]; omega) (by omega) (by rw [hz2]; omega)) ?_))
  go_ret
  have h2 := grownCap_ge w k 0 3
  have h3 := grownCap_le_maxLen w k 0 3 (by unfold maxLen; omega)
  refine ⟨_, rfl, ?_, ?_⟩
  · exact World.ownsRow_made w _ (grownCap w k 0 3) (Nat.le_refl _) h3 (by simp only [Array.size_append, size_zeroCells, List.size_toArray, List.length_singleton]; omega)
  · exact ((Below.refl _ _).alloc (Nat.le_refl _) _).drew

set_option maxHeartbeats 1600000 in
set_option maxRecDepth 100000 in
theorem concat_any (g cap : Nat) (b1 off1 c1 : Nat) (xs : List Int) (b2 off2 c2 : Nat) (ys : List Int) (w : World) (ho : Own w g 23 [.slice (some ⟨b1, off1, none⟩) xs.length c1, .slice (some ⟨b2, off2, none⟩) ys.length c2])
    (hr1 : RdI w (some ⟨b1, off1, none⟩) xs) (hr2 : RdI w (some ⟨b2, off2, none⟩) ys) (h0 : 0 < xs.length + ys.length) (h1 : xs.length + ys.length ≤ 1000) :
    Calls Try.prog 83 #[.slice (some ⟨g, 0, none⟩) 2 cap] w fun e w' => ∃ gr cr, e = .returned (.slice (some ⟨gr, 0, none⟩) (xs.length + ys.length) cr) ∧ xs.length + ys.length ≤ cr ∧ w.heap.size ≤ gr ∧ Own w' gr 3 (ints (xs ++ ys)) ∧ Below w.heap.size w w' := by
  obtain ⟨i0, hi0, hz0, hz1, hz2⟩ := info_parts Try.infoI
  have k0 := ho.cell? (i := 0) rfl
  have k1 := ho.cell? (i := 1) rfl
  have HOW := Lib.hid ho; clear ho
  have HR1 := Lib.hid hr1; clear hr1
  have HR2 := Lib.hid hr2; clear hr2
  go_enter Try.func83, Try.ntmps83
  go_wp2_with fail
  go_loop [3, 11] (fun sz i => ∃ k : Nat, ∃ s : Nat, k ≤ 2 ∧ i = .int .i64 k ∧ sz = .int .i64 s ∧ (k = 0 → s = 0) ∧ (k = 1 → s = xs.length) ∧ (k = 2 → s = xs.length + ys.length)) (fun _ i => 2 - (intOf i).toNat)
  case atStart => exact ⟨0, 0, by omega, rfl, rfl, fun _ => rfl, fun h => by omega, fun h => by omega⟩
  case round =>
    obtain ⟨k, s, hk, rfl, rfl, a0, a1, a2⟩ := hrel
    have h3 : k = 0 ∨ k = 1 ∨ k = 2 := by omega
    rcases h3 with rfl | rfl | rfl
    · obtain rfl := a0 rfl
      clear a1 a2 a0
      go_wp2_with fail
      go_round
      case rel => exact ⟨1, xs.length, by omega, rfl, by go_num, fun h => by omega, fun _ => rfl, fun h => by omega⟩
      case measure => simp [intOf]
    · obtain rfl := a1 rfl
      clear a0 a2 a1
      go_wp2_with fail
      go_round
      case rel => exact ⟨2, xs.length + ys.length, by omega, rfl, by go_num, fun h => by omega, fun h => by omega, fun _ => rfl⟩
      case measure => simp [intOf]
    · obtain rfl := a2 rfl
      clear a0 a1 a2
      have hgw := grow_nil (xs.length + ys.length) w h0 h1
      rw [Int.natCast_add] at hgw
      go_wp2_with fail
      refine hgw.mono ?_
      clear hgw
      rintro e w1 ⟨v, rfl, hown1, hb1⟩
      have HO1 := Lib.hid hown1; clear hown1
      go_wp2_with fail
      go_loopw [6, 27] (fun v i wr => ∃ k : Nat, ∃ zs : List Int, k ≤ 2 ∧ i = .int .i64 k ∧ wr.ownsRow w.heap.size 3 1 v zs.length (ints zs) ∧ Below w.heap.size w wr ∧ (k = 0 → zs = []) ∧ (k = 1 → zs = xs) ∧ (k = 2 → zs = xs ++ ys)) (fun _ i _ => 2 - (intOf i).toNat)
      case atStart => exact ⟨0, [], by omega, rfl, HO1.out, hb1, fun _ => rfl, fun h => by omega, fun h => by omega⟩
      case round =>
        obtain ⟨k, zs, hk, rfl, hown, hbel, a0, a1, a2⟩ := hrel
        have h3 : k = 0 ∨ k = 1 ∨ k = 2 := by omega
        rcases h3 with rfl | rfl | rfl
        · obtain rfl := a0 rfl
          clear a0 a1 a2
          have HO := Lib.hid hown; clear hown
          have HB := Lib.hid hbel
          have hsz := hbel.size
          have cc := bcell hbel HOW.out.lt k0
          have HN := Lib.hid (HR1.out.below hbel).news
          go_wp2_with (at_builtin; refine wpList_append_own _ rfl _ _ 23 rfl w.heap.size 3 i0 _ 1 8 Try.underlying23 hi0 hz0 hz1 hz2 rfl (by decide) _ _ _ rfl HO.out ⟨b1, off1, none⟩ xs.length c1 (ints xs) rfl (by rw [ints_length]; omega) HN.out (ints_oneCell _) (by unfold maxLen; simp only [List.length_nil]; omega) (by simp only [List.length_nil]; omega) hsz ?_; intro v' w2 hown2 hgrow2 hnil2)
          clear hnil2
          have HO2 := Lib.hid hown2; clear hown2
          have hb2 := hbel.grown hgrow2 hsz (fun q e => (HO.out.lt _ e).1)
          go_roundw
          case rel => exact ⟨1, xs, by omega, rfl, row_congr HO2.out (by simp) (by simp [ints]), hb2, fun h => by omega, fun _ => rfl, fun h => by omega⟩
          case measure => simp [intOf]
        · obtain rfl := a1 rfl
          clear a0 a1 a2
          have HO := Lib.hid hown; clear hown
          have HB := Lib.hid hbel
          have hsz := hbel.size
          have cc := bcell hbel HOW.out.lt k1
          have HN := Lib.hid (HR2.out.below hbel).news
          go_wp2_with (at_builtin; refine wpList_append_own _ rfl _ _ 23 rfl w.heap.size 3 i0 _ 1 8 Try.underlying23 hi0 hz0 hz1 hz2 rfl (by decide) _ _ _ rfl HO.out ⟨b2, off2, none⟩ ys.length c2 (ints ys) rfl (by rw [ints_length]; omega) HN.out (ints_oneCell _) (by unfold maxLen; omega) (by omega) hsz ?_; intro v' w2 hown2 hgrow2 hnil2)
          clear hnil2
          have HO2 := Lib.hid hown2; clear hown2
          have hb2 := hbel.grown hgrow2 hsz (fun q e => (HO.out.lt _ e).1)
          go_roundw
          case rel => exact ⟨2, _, by omega, rfl, row_congr HO2.out (by simp) (by simp [ints]), hb2, fun h => by omega, fun h => by omega, fun _ => rfl⟩
          case measure => simp [intOf]
        · obtain rfl := a2 rfl
          clear a0 a1 a2
          rcases Own.of_row hown with ⟨_, h2, _⟩ | ⟨gr, cr, rfl, hgr, hcr, _, hor⟩
          · rw [List.length_append] at h2; omega
          rw [List.length_append] at hcr ⊢
          have HO := Lib.hid hor; clear hor hown
          go_wp2_with fail
          go_ret
          exact ⟨gr, cr, rfl, hcr, hgr, HO.out, hbel⟩

end Go.Proofs.Ytopkohkilmlpaaa
