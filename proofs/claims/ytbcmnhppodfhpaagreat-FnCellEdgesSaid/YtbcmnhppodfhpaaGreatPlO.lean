/-
  Plane polynomials: what the law draws, and the small calls of the law. By an AI agent.
-/
import Derived.Test.YtbcmnhppodfhpaaGreatPlM
import Derived.Test.YtbcmnhppodfhpaaGreatPlN
import Derived.Test.YtbcmnhppodfhpaaGreatLaws
import Derived.Laws.BytesArg
import Derived.WalkSpells
import Derived.WalkLawsBesides
import Derived.Deep.RegionHeld3
import Derived.Lib.ItoaNum
import Derived.Lib.ItoaLen
import Derived.Lib.ItoaWalk
import Derived.Lib.AtoiTie
import Derived.Laws.Concat
import Derived.Test.YtbcmnhppodfhpaaGreatOpen
import Derived.Deep.QuietTactic
namespace Go.Proofs.YtbcmnhppodfhpaaGreat
open Go.RowKit

def DrwTwo (w : World) (e : Ending) (w' : World) : Prop := ∃ ad1 cap1 l1 ad2 cap2 l2, e = .returned (.tuple #[.slice ad1 (List.length l1) cap1, .slice ad2 (List.length l2) cap2]) ∧ (List.length l1 ≤ 13 ∧ List.length l2 ≤ 13) ∧ RdT w' ad1 l1 ∧ RdT w' ad2 l2 ∧ Below w.heap.size w w'
set_option maxHeartbeats 800000 in
theorem pSameT_c (ad1 ad2 : Option Addr) (c1 c2 : Nat) (l : List Tm) (w : World) (hr1 : RdT w ad1 l) (hr2 : RdT w ad2 l) (hb : l.length ≤ 1048576) :
    Calls Tryz.prog 19 #[.slice ad1 l.length c1, .slice ad2 l.length c2] w fun e w' => e = .returned (.bool true) ∧ Below w.heap.size w w' := by
  have H1 := Lib.hid hr1; have H2 := Lib.hid hr2
  clear hr1 hr2
  obtain ⟨n, hn⟩ : ∃ n, l.length = n := ⟨_, rfl⟩
  have HN := Lib.hid hn
  rw [hn] at hb ⊢
  clear hn
  go_enter Tryz.func19, Tryz.ntmps19
  go_wp2_with fail
  go_loopw [13] (fun i wr => ∃ j : Nat, j ≤ n ∧ i = .int .i64 j ∧ Below w.heap.size w wr) (fun i _ => n - (intOf i).toNat)
  case atStart => exact ⟨0, Nat.zero_le _, rfl, Below.refl _ _⟩
  case round =>
    obtain ⟨wE, rfl⟩ : ∃ x : World, x = wr := ⟨_, rfl⟩
    obtain ⟨j, hj, rfl, hbel⟩ := hrel
    by_cases hlt : j < n
    case neg =>
      go_wp2_with fail
      go_ret
      exact ⟨rfl, hbel⟩
    case pos =>
      obtain ⟨b1, o1, rfl, hb1, x0, x1, x2⟩ := H1.out j (by rw [HN.out]; exact hlt)
      obtain ⟨b2, o2, rfl, hb2, y0, y1, y2⟩ := H2.out j (by rw [HN.out]; exact hlt)
      have x0 := bcell hbel hb1 x0
      have x1 := bcell hbel hb1 x1
      have x2 := bcell hbel hb1 x2
      have y0 := bcell hbel hb2 y0
      have y1 := bcell hbel hb2 y1
      have y2 := bcell hbel hb2 y2
      generalize l.getD j default = r at x0 x1 x2 y0 y1 y2
      obtain ⟨rx, ry, rw'⟩ := r
      simp only at x0 x1 x2 y0 y1 y2
      have z1 : (0 : Int) ≤ (j : Int) := by omega
      have z2 : (j : Int) < (n : Int) := by omega
      go_wp2_with fail
      go_quiet (fail)
      go_wp2_with fail
      go_roundw
      case rel => exact ⟨j + 1, by omega, by go_num, bdrewN hbel nq⟩
      case measure => simp [intOf]; omega

end Go.Proofs.YtbcmnhppodfhpaaGreat
