/-
  The draws of FnAreas: two polygons, one, one and a point. By an AI agent.
-/
import Derived.Test.YtnapcjfemlhkmaaGreatDoorArC
import Derived.Test.YtnapcjfemlhkmaaGreatDoorOpenB
namespace Go.Proofs.YtnapcjfemlhkmaaGreatDoor
open Go.RowKit

def TwoPD (w : World) (e : Ending) (w' : World) : Prop := ∃ (ad1 : Option Addr) (c1 : Nat) (l1 : List Pt) (ad2 : Option Addr) (c2 : Nat) (l2 : List Pt), e = .returned (.tuple #[.slice ad1 l1.length c1, .slice ad2 l2.length c2]) ∧ l1.length ≤ 80 ∧ l2.length ≤ 80 ∧ RdP w' ad1 l1 ∧ RdP w' ad2 l2 ∧ Below w.heap.size w w'

def OnePD (w : World) (e : Ending) (w' : World) : Prop := ∃ (ad1 : Option Addr) (c1 : Nat) (l1 : List Pt), e = .returned (.slice ad1 l1.length c1) ∧ l1.length ≤ 80 ∧ RdP w' ad1 l1 ∧ Below w.heap.size w w'
set_option maxHeartbeats 3200000 in
set_option maxRecDepth 100000 in
theorem drawIsPolygon_c (ad : Option Addr) (len cap : Nat) (w : World) (hl : len ≤ 9223372036854775807) (hr : RdB w ad len) :
    Calls Tryz.prog 16 #[.slice ad len cap] w (OnePD w) := by
  have hc := cur_new (cap := cap) hr hl
  have hb1 : Below w.heap.size w (w.alloc (.cells #[.slice ad len cap, .int .i64 0, .int .u64 0] 45)) := (Below.refl _ _).alloc (Nat.le_refl _) _
  clear hr hl
  obtain ⟨c, hcd⟩ : ∃ c, w.heap.size = c := ⟨_, rfl⟩
  rw [hcd] at hc
  have hwc : w.heap.size ≤ c := by omega
  have HC := Lib.hid hc; have HB := Lib.hid hb1; clear hc hb1
  go_enter Tryz.func16, Tryz.ntmps16
  go_wp2_with fail
  refine (anyPolygon_c c 0 _ HC.out (by omega)).mono ?_
  rintro e w1 ⟨v, l, rfl, hrow, hll, hcu, hch⟩
  have hll : l.length ≤ 80 := hll
  obtain ⟨ad1, cap1, rfl, hcap1, _⟩ := hrow.shape
  have B1 := Lib.hid (bchg HB.out hch hwc HB.out.size)
  have R1 := Lib.hid (RowP.rd hrow)
  clear hcu hch HC HB hrow
  go_wp2_with fail
  go_ret
  exact ⟨_, _, l, rfl, hll, R1.out, B1.out⟩
/-- A polygon and a point. -/
def WidD (w : World) (e : Ending) (w' : World) : Prop := ∃ (ad1 : Option Addr) (c1 : Nat) (l1 : List Pt) (x y : Int), e = .returned (.tuple #[.slice ad1 l1.length c1, .agg #[.int .i64 x, .int .i64 y]]) ∧ l1.length ≤ 80 ∧ RdP w' ad1 l1 ∧ Below w.heap.size w w'
end Go.Proofs.YtnapcjfemlhkmaaGreatDoor
