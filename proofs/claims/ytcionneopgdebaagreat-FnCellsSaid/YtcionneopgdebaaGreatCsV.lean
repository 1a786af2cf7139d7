/-
  DrawEdgeLength and DrawInnerEdges. By an AI agent.
-/
import Derived.Test.YtcionneopgdebaaGreatCnA
import Derived.Test.YtcionneopgdebaaGreatPtB
import Derived.Test.YtcionneopgdebaaGreatPlJ
import Derived.Test.YtcionneopgdebaaGreatRowI
import Derived.Test.YtcionneopgdebaaGreatPlM
import Derived.Test.YtcionneopgdebaaGreatCpW
import Derived.Test.YtcionneopgdebaaGreatCpZ
import Derived.Test.YtcionneopgdebaaGreatCsB
import Derived.Test.YtcionneopgdebaaGreatCpQ
import Derived.Deep.QuietTactic
import Derived.Test.YtcionneopgdebaaGreatPlO
import Derived.Deep.RegionLaw
namespace Go.Proofs.YtcionneopgdebaaGreat
open Go.RowKit

def DrwPln (w : World) (e : Ending) (w' : World) : Prop := ∃ ad1 cap1 l, e = .returned (.slice ad1 (List.length l) cap1) ∧ List.length l ≤ 13 ∧ RdT w' ad1 l ∧ Below w.heap.size w w'

set_option maxHeartbeats 3200000 in
set_option maxRecDepth 100000 in
theorem drawCellsOf_c (ad : Option Addr) (len cap : Nat) (w : World) (hl : len ≤ 9223372036854775807) (hr : RdB w ad len) :
    Calls Tryz.prog 5 #[.slice ad len cap] w (DrwPln w) := by
  have hc := cur_new (cap := cap) hr hl
  have hb1 : Below w.heap.size w (w.alloc (.cells #[.slice ad len cap, .int .i64 0, .int .u64 0] 49)) := (Below.refl _ _).alloc (Nat.le_refl _) _
  have hs1 : (w.alloc (.cells #[.slice ad len cap, .int .i64 0, .int .u64 0] 49)).heap.size = w.heap.size + 1 := by simp
  clear hr hl
  obtain ⟨c, hcd⟩ : ∃ c, w.heap.size = c := ⟨_, rfl⟩
  rw [hcd] at hc hs1
  have hwc : w.heap.size ≤ c := by omega
  have HC := Lib.hid hc; have HB := Lib.hid hb1; clear hc hb1
  go_enter Tryz.func5, Tryz.ntmps5
  go_wp2_with fail
  refine (anyPlane_c c 0 _ HC.out (by omega)).mono ?_
  rintro e w1 ⟨v, l, rfl, hrow, hll, hcu, hch⟩
  have hll : l.length ≤ 13 := hll
  obtain ⟨ad1, cap1, rfl, hcap1, _⟩ := hrow.shape
  have B1 := Lib.hid (bchg HB.out hch hwc HB.out.size)
  have R1 := Lib.hid (RowT.rd hrow)
  clear hcu hch HC HB hrow hs1
  go_wp2_with fail
  go_ret
  exact ⟨ad1, cap1, l, rfl, hll, R1.out, B1.out⟩
end Go.Proofs.YtcionneopgdebaaGreat
