/-
  The points of the terms: the program's pointsOf. By an AI agent.
-/
import Derived.Test.YtcionneopgdebaaGreatCeG
import Derived.Test.YtcionneopgdebaaGreatHalf
namespace Go.Proofs.YtcionneopgdebaaGreat
open Go.RowKit

/-- the points of the first terms. -/
def ptsL (L : List Tm) : Nat → List Pt
  | 0 => []
  | k + 1 => ptsL L k ++ [pnt (tmAt L k)]
theorem ptsL_len (L : List Tm) : ∀ k, (ptsL L k).length = k
  | 0 => rfl
  | k + 1 => by unfold ptsL; rw [List.length_append, ptsL_len L k]; rfl

set_option maxHeartbeats 1600000 in
set_option maxRecDepth 100000 in
theorem pointsOf_c (ad : Option Addr) (cap : Nat) (L : List Tm) (w : World) (hr : RdT w ad L) (hl : L.length ≤ 12) :
    Calls Tryz.prog 33 #[.slice ad L.length cap] w fun e w' => ∃ v, e = .returned v ∧ RowP w' w.heap.size v (ptsL L L.length) ∧ Below w.heap.size w w' := by
  have HR := Lib.hid hr; clear hr
  obtain ⟨n, hn⟩ : ∃ n, L.length = n := ⟨_, rfl⟩
  have HN := Lib.hid hn
  rw [hn] at hl ⊢
  clear hn
  obtain ⟨RES, hRES⟩ : ∃ X, ptsL L n = X := ⟨_, rfl⟩
  rw [hRES]
  have HRES := Lib.hid hRES; clear hRES
  have hrow0 : RowP (w.alloc (.cells #[] 66)) w.heap.size (.slice (some ⟨w.heap.size, 0, none⟩) 0 0) [] := rowP_empty w
  have HROW := Lib.hid hrow0; clear hrow0
  go_enter Tryz.func33, Tryz.ntmps33
  go_wp2_with fail
  go_loopw [3, 9] (fun s i wr => ∃ (k : Nat) (xs : List Pt), k ≤ n ∧ i = .int .i64 k ∧ ptsL L k = xs ∧ RowP wr w.heap.size s xs ∧ Below w.heap.size w wr) (fun _ i _ => n - (intOf i).toNat)
  case atStart => exact ⟨0, [], Nat.zero_le _, rfl, rfl, HROW.out, bal_alloc (Below.refl _ _)⟩
  case round =>
    obtain ⟨wE, rfl⟩ : ∃ x : World, x = wr := ⟨_, rfl⟩
    obtain ⟨k, xs, hk, rfl, hxs, hrow, hbel⟩ := hrel
    obtain ⟨adx, cpx, rfl, _, _⟩ := hrow.shape
    have hxl : xs.length = k := by rw [← hxs]; exact ptsL_len L k
    rw [hxl] at hrow ⊢
    have HXS := Lib.hid hxs; have HRW := Lib.hid hrow; have HXL := Lib.hid hxl
    have hsz := hbel.size
    clear hxs hrow hxl
    by_cases hlt : k < n
    case neg =>
      obtain rfl : k = n := by omega
      have HE := Lib.hid (HRES.out.symm.trans HXS.out)
      go_wp2_with fail
      go_ret
      exact ⟨_, rfl, by rw [HE.out]; exact HRW.out, hbel⟩
    case pos =>
      obtain ⟨bp, op, rfl, hbp, c0, c1, c2⟩ := HR.out k (by rw [HN.out]; exact hlt)
      have c0 := bcell hbel hbp c0
      have c1 := bcell hbel hbp c1
      have c2 := bcell hbel hbp c2
      have x1 : (0 : Int) ≤ (k : Int) := by omega
      have x2 : (k : Int) < (n : Int) := by omega
      obtain ⟨T, hT⟩ : ∃ T, tmAt L k = T := ⟨_, rfl⟩
      have hT2 : L.getD k default = T := hT
      rw [hT2] at c0 c1 c2
      have HS := Lib.hid (show ptsL L (k + 1) = xs ++ [⟨T.i, T.j⟩] from by show ptsL L k ++ [pnt (tmAt L k)] = _; rw [HXS.out, hT]; rfl)
      clear hT hT2
      have hbA := bal_alloc (o := .cells #[.int .i64 T.i, .int .i64 T.j, .int .i64 T.c] 73) hbel
      have HRA := Lib.hid (HRW.out.below ((Below.refl wE.heap.size wE).alloc (Nat.le_refl _) (.cells #[.int .i64 T.i, .int .i64 T.j, .int .i64 T.c] 73)))
      go_wp2_with (at_builtin; refine wpList_appP rfl _ _ rfl w.heap.size _ 0 1 _ xs [⟨T.i, T.j⟩] rfl rfl (HRA.out.below ((Below.refl _ _).alloc (Nat.le_refl _) _)) (rdP_one _ _ _ _ (by simp)) (by rw [HXL.out]; omega) (by simp) (by simp; omega) ?_; intro v5 wm hown hbm)
      have hb3 := (bal_alloc (o := .cells #[.int .i64 T.i, .int .i64 T.j] 66) hbA).trans hbm
      have HO5 := Lib.hid hown; clear hown hbm
      go_wp2_with fail
      go_roundw
      case rel => exact ⟨k + 1, _, by omega, by go_num, HS.out, HO5.out, hb3⟩
      case measure => simp [intOf]; omega
end Go.Proofs.YtcionneopgdebaaGreat
