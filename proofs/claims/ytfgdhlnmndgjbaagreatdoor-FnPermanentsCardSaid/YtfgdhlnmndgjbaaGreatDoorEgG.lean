/-
  Shifted rows, and lists compared. By an AI agent.
-/
import Derived.Test.YtfgdhlnmndgjbaaGreatDoorWyG
import Derived.Test.YtfgdhlnmndgjbaaGreatDoorAsA
import Derived.Lib.JoinLaws
namespace Go.Proofs.YtfgdhlnmndgjbaaGreatDoor
open Go.RowKit

theorem takeN_snoc {a : List Int} {t : Nat} (h : t < a.length) : a.take (t + 1) = a.take t ++ [a.getD t 0] := by
  rw [List.take_succ_eq_append_getElem h, List.getD_eq_getElem?_getD, List.getElem?_eq_getElem h, Option.getD_some]
theorem row_madeI (w : World) (c : Nat) (hc : c ≤ 1000) : RowI (w.alloc (.cells (madeCells #[.int .i64 0] c) 3)) w.heap.size (.slice (some ⟨w.heap.size, 0, none⟩) 0 c) [] :=
  World.ownsRow_made w (madeCells #[.int .i64 0] c) c (Nat.le_refl _) (by unfold maxLen; omega) (by simp [size_madeCells])
set_option maxHeartbeats 1600000 in
set_option maxRecDepth 100000 in
theorem shifted_c (ad : Option Addr) (cap : Nat) (l : List Int) (b : Int) (w : World) (hr : RdI w ad l) (h0 : 0 < l.length) (hl : l.length ≤ 1000) (hb : -2000000000 ≤ b ∧ b ≤ 2000000000) (hn : ∀ i, i < l.length → -2000000000 ≤ l.getD i 0 ∧ l.getD i 0 ≤ 2000000000) :
    Calls Tryz.prog 39 #[.slice ad l.length cap, .int .i64 b] w fun e w' => ∃ g cap', e = .returned (.slice (some ⟨g, 0, none⟩) l.length cap') ∧ RowI w' w.heap.size (.slice (some ⟨g, 0, none⟩) l.length cap') (l.map fun x => prodZ x b) ∧ Below w.heap.size w w' := by
  have HR := Lib.hid hr; have HNB := Lib.hid hn
  obtain ⟨n, hnl⟩ : ∃ n, l.length = n := ⟨_, rfl⟩
  have HN := Lib.hid hnl
  rw [hnl] at h0 hl ⊢
  have hmk := fun (w : World) => run_make_room (P := Tryz.prog) 38 3 (.int .i64 0) 8 Tryz.underlying38 Tryz.infoI rfl .i64 .i64 n (by omega) (by omega) w
  have HO := Lib.hid (row_madeI w n hl)
  have hb0 := bal_alloc (o := .cells (madeCells #[.int .i64 0] n) 3) (Below.refl w.heap.size w)
  have HB0 := Lib.hid hb0
  clear hr hn hnl hb0
  go_enter Tryz.func39, Tryz.ntmps39
  go_wp2_with fail
  go_loopw [5, 13] (fun v i wr => ∃ k : Nat, k ≤ n ∧ i = .int .i64 k ∧ RowI wr w.heap.size v ((l.take k).map fun x => prodZ x b) ∧ Below w.heap.size w wr) (fun _ i _ => n - (intOf i).toNat)
  case atStart => exact ⟨0, Nat.zero_le _, rfl, HO.out, HB0.out⟩
  case round =>
    obtain ⟨wE, rfl⟩ : ∃ x : World, x = wr := ⟨_, rfl⟩
    obtain ⟨k, hk, rfl, hrow, hbel⟩ := hrel
    by_cases hlt : k < n
    case neg =>
      obtain rfl : k = n := by omega
      rw [List.take_of_length_le (by rw [HN.out]; exact Nat.le_refl _)] at hrow
      obtain ⟨g, c, rfl, _⟩ := RowI.shpA hrow (by rw [List.length_map, HN.out]; exact h0)
      rw [List.length_map, HN.out] at hrow ⊢
      have HROW := Lib.hid hrow
      clear hrow
      go_wp2_with fail
      go_ret
      exact ⟨g, c, rfl, HROW.out, hbel⟩
    case pos =>
      obtain ⟨bb, off, rfl, hbb, c1⟩ := HR.out k (by rw [HN.out]; exact hlt)
      have c1 := bcell hbel hbb c1
      have hx := HNB.out k (by rw [HN.out]; exact hlt)
      have hsn : (l.take (k + 1)).map (fun x => prodZ x b) = (l.take k).map (fun x => prodZ x b) ++ [prodZ (l.getD k 0) b] := by
        rw [takeN_snoc (by rw [HN.out]; exact hlt), List.map_append]
        rfl
      have CP := Lib.hid (fun w => product_c (l.getD k 0) b w (by omega))
      generalize prodZ (l.getD k 0) b = Z at hsn CP
      generalize l.getD k 0 = X at c1 hx CP
      have HSN := Lib.hid hsn
      have hlen : ((l.take k).map fun x => prodZ x b).length = k := by rw [List.length_map, List.length_take, HN.out]; omega
      generalize (l.take k).map (fun x => prodZ x b) = T at hrow HSN hlen
      obtain ⟨adr, car, rfl, _⟩ := hrow.shape
      rw [hlen] at hrow ⊢
      have HT := Lib.hid hlen
      have HRO := Lib.hid hrow
      have hsz := hbel.size
      have x1 : (0 : Int) ≤ (k : Int) := by omega
      have x2 : (k : Int) < (n : Int) := by omega
      clear hsn hrow hlen hx
      go_wp2_with fail
      refine (CP.out _).mono ?_
      rintro e w' ⟨rfl, rfl⟩
      go_wp2_with (at_builtin; refine wpList_appN rfl _ _ rfl w.heap.size _ 0 1 (.slice adr k car) T [Z] (k + 1) (by rw [HT.out]; rfl) rfl rfl (RowI.alloc' HRO.out) (rdI_one _ _ _ rfl) (by rw [HT.out]; omega) (by simp) (by simp; omega) ?_; intro v5 wm hown hsh hbm hgr)
      have hb3 := (bal_alloc (o := .cells #[.int .i64 Z] 3) hbel).trans hbm
      rw [← HSN.out] at hown
      have HO5 := Lib.hid hown; clear hown hsh hgr hbm
      go_wp2_with fail
      go_roundw
      case rel => exact ⟨k + 1, by omega, by go_num, HO5.out, hb3⟩
      case measure => simp [intOf]; omega
end Go.Proofs.YtfgdhlnmndgjbaaGreatDoor
