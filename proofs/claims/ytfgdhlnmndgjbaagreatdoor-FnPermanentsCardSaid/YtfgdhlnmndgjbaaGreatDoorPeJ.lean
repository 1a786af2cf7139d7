/-
  Matrices of numbers that the cursor draws. Printed by gen_peJ.py. By an AI agent.
-/
import Derived.Test.YtfgdhlnmndgjbaaGreatDoorWyU
import Derived.Test.YtfgdhlnmndgjbaaGreatDoorPeH
namespace Go.Proofs.YtfgdhlnmndgjbaaGreatDoor
open Go.RowKit

def numsM (M : List (List Int)) : Prop := ∀ r ∈ M, ∀ n ∈ r, numB n = true
theorem numsM_snoc {M : List (List Int)} {r : List Int} (h : numsM M) (hr : ∀ n ∈ r, numB n = true) : numsM (M ++ [r]) := fun s hs => by
  rcases List.mem_append.1 hs with h1 | h1
  · exact h s h1
  · rw [List.mem_singleton.1 h1]; exact hr
theorem numsL_snoc {xs : List Int} {x : Int} (h : ∀ n ∈ xs, numB n = true) (hx : numB x = true) : ∀ n ∈ xs ++ [x], numB n = true := fun n hn => by
  rcases List.mem_append.1 hn with h1 | h1
  · exact h n h1
  · rw [List.mem_singleton.1 h1]; exact hx

set_option maxHeartbeats 3200000 in
set_option maxRecDepth 100000 in
theorem matrixN_c (R C c n : Nat) (w : World) (h : Cur w c n) (hn : n ≤ 4611686018427360000) (hR : R ≤ 7) (hC : C ≤ 7) :
    Calls Tryz.prog 55 #[.pointer (some ⟨c, 0, none⟩), .int .i64 R, .int .i64 C] w (MatD (fun M _ => shM R C M ∧ numsM M) c (n + 200) w) := by
  have hcl := h.lt
  have H := Lib.hid h; clear h
  have HF0 := Lib.hid (Chg.refl c w)
  go_enter Tryz.func55, Tryz.ntmps55
  go_wp2_with fail
  go_loopw [7, 8] (fun v i wr => ∃ (k : Nat) (M : List (List Int)) (vs : List Value), k ≤ R ∧ i = .int .i64 k ∧ (shM k C M ∧ numsM M) ∧ MatO wr w.heap.size v M vs ∧ Cur wr c (n + 28 * k) ∧ Chg c w wr) (fun _ i _ => R - (intOf i).toNat)
  case atStart => exact ⟨0, [], [], Nat.zero_le _, rfl, ⟨⟨rfl, fun i hi => absurd hi (Nat.not_lt_zero _)⟩, fun r hr => by simp at hr⟩, MatO.nil _ _, H.out, HF0.out⟩
  case round =>
    obtain ⟨wE, rfl⟩ : ∃ x : World, x = wr := ⟨_, rfl⟩
    obtain ⟨k, M, vs, hk, rfl, hsh, hmat, hcu, hch⟩ := hrel
    obtain ⟨adv, cav, rfl, _⟩ := hmat.shape
    have hsz := hch.size
    rw [hsh.1.1] at hmat ⊢
    have HSH := Lib.hid hsh; have HM := Lib.hid hmat; have HU := Lib.hid hcu; have HF := Lib.hid hch
    clear hsh hmat hcu hch
    by_cases hlt : k < R
    case neg =>
      obtain rfl : k = R := by omega
      go_wp2_with fail
      go_ret
      exact ⟨adv, cav, M, ⟨vs, by rw [HSH.out.1.1]; rfl, HSH.out, by rw [HSH.out.1.1]; exact HM.out, HU.out.mono (by omega), HF.out⟩⟩
    case pos =>
      go_wp2_with fail
      go_loopw [9, 10] (fun v i wr => ∃ (j : Nat) (xs : List Int), j ≤ C ∧ i = .int .i64 j ∧ (xs.length = j ∧ ∀ n ∈ xs, numB n = true) ∧ RowI wr wE.heap.size v xs ∧ Cur wr c (n + 28 * k + 4 * j) ∧ Chg c wE wr) (fun _ i _ => C - (intOf i).toNat)
      case atStart => exact ⟨0, [], Nat.zero_le _, rfl, ⟨rfl, fun n hn => by simp at hn⟩, RowI.nil _ _, HU.out, Chg.refl _ _⟩
      case round =>
        obtain ⟨wI, rfl⟩ : ∃ x : World, x = wr := ⟨_, rfl⟩
        obtain ⟨j, xs, hj, rfl, ⟨hxl, hxn⟩, hrow, hcu, hch⟩ := hrel
        have HXN := Lib.hid hxn; clear hxn
        obtain ⟨adr, car, rfl, _⟩ := row_cap hrow
        rw [hxl] at hrow ⊢
        have hsz2 := hch.size
        have HR := Lib.hid hrow; have HU2 := Lib.hid hcu; have HF2 := Lib.hid hch
        clear hrow hcu hch
        by_cases hlj : j < C
        case pos =>
          go_wp2_with fail
          refine (num_c c (n + 28 * k + 4 * j) wI HU2.out (by omega)).mono ?_
          rintro e w3 ⟨x3, rfl, hx3, hcu, hch⟩
          have HXN3 := Lib.hid (numsL_snoc HXN.out hx3); clear hx3
          have hsz3 := hch.size
          have HR3 := Lib.hid (row_chg HR.out hch (by omega))
          have HU3 := Lib.hid hcu
          have HF3 := Lib.hid (HF2.out.trans hch)
          clear hcu hch
          go_wp2_with (at_builtin; refine wpList_appN rfl _ _ rfl wE.heap.size _ 0 1 _ xs [x3] (j + 1) (by rw [hxl]; rfl) rfl rfl (RowI.alloc' (by exact HR3.out)) (rdI_one _ _ _ rfl) (by omega) (by simp) (by simp; omega) ?_; intro v5 wm hown hsh hbm hgr)
          have hb9 : Below wE.heap.size w3 wm := ((Below.refl wE.heap.size w3).alloc (by omega) (.cells #[.int .i64 x3] 3)).trans hbm
          have hsz5 : w3.heap.size ≤ wm.heap.size := by have := hgr.size; simp at this; omega
          have HR5 := Lib.hid hown
          have HU5 := Lib.hid (HU3.out.under hb9 (by omega))
          have HF5 := Lib.hid (HF3.out.under hb9 (Nat.le_refl _) hsz5)
          clear hown hsh hbm hgr hb9
          go_wp2_with fail
          go_roundw
          case rel => exact ⟨j + 1, xs ++ [x3], by omega, by go_num, ⟨by rw [List.length_append, hxl]; rfl, HXN3.out⟩, HR5.out, HU5.out.mono (by omega), HF5.out⟩
          case measure => simp [intOf]; omega
        case neg =>
          obtain rfl : j = C := by omega
          have HM2 := Lib.hid (HM.out.chg HF2.out hcl)
          have HLOW := Lib.hid HM.out.low
          have HX := Lib.hid (CellO.of_row (HR.out.low (B' := w.heap.size) hsz))
          have HB := Lib.hid (RowI.blk HR.out)
          go_wp2_with (at_builtin; refine wpList_appG rfl _ _ rfl w.heap.size wE.heap.size wI.heap.size _ (.slice adr j car) M vs xs (k + 1) (by rw [HSH.out.1.1]) rfl rfl (by simp [go_sem]) (HM2.out.below ((Below.refl _ _).alloc (Nat.le_refl _) _)) (HX.out.below ((Below.refl _ _).alloc (Nat.le_refl _) _)) HB.out HLOW.out (by have := HSH.out.1.1; omega) (by simp; omega) ?_; intro ad5 cap5 wm hmat5 hbm hgz)
          have hb9 : Below w.heap.size wI wm := ((Below.refl w.heap.size wI).alloc (by omega) (.cells #[.slice adr j car] 38)).trans hbm
          have hsz5 : wI.heap.size ≤ wm.heap.size := by simp at hgz; omega
          have HM5 := Lib.hid hmat5
          have HU5 := Lib.hid (HU2.out.under hb9 (by omega))
          have HF5 := Lib.hid ((HF.out.trans HF2.out).under hb9 (Nat.le_refl _) hsz5)
          have HSH5 := Lib.hid (And.intro (shM_snoc HSH.out.1 hxl) (numsM_snoc HSH.out.2 HXN.out))
          clear hmat5 hbm hb9
          go_wp2_with fail
          go_roundw
          case rel => exact ⟨k + 1, _, _, by omega, by go_num, HSH5.out, HM5.out, HU5.out.mono (by omega), HF5.out⟩
          case measure => simp [intOf]; omega

end Go.Proofs.YtfgdhlnmndgjbaaGreatDoor
