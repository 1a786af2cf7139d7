/-
  Plane polynomials: what the law draws, and the small calls of the law. By an AI agent.
-/
import Derived.Test.YtcionneopgdebaaGreatPlM
import Derived.Test.YtcionneopgdebaaGreatPlJ
import Derived.Test.YtcionneopgdebaaGreatRowI
import Derived.Test.YtcionneopgdebaaGreatLaws
import Derived.Laws.BytesArg
import Derived.WalkSpells
import Derived.WalkLawsBesides
import Derived.Deep.RegionHeld3
import Derived.Lib.ItoaNum
import Derived.Lib.ItoaLen
import Derived.Lib.ItoaWalk
import Derived.Lib.AtoiTie
import Derived.Laws.Concat
import Derived.Test.YtcionneopgdebaaGreatOpen
import Derived.Deep.QuietTactic
namespace Go.Proofs.YtcionneopgdebaaGreat
open Go.RowKit

set_option maxHeartbeats 400000 in
theorem iIsPlane_c (ad : Option Addr) (cap : Nat) (L : List Tm) (w : World) (hr : RdT w ad L) (hl : L.length ≤ 1048576) :
    Calls Tryz.prog 17 #[.slice ad L.length cap] w fun e w' => e = .returned (.bool (planeB L)) ∧ Below w.heap.size w w' := by
  have C := Lib.hid (isPlane_c ad cap L w hr hl); clear hr hl
  go_enter Tryz.func17, Tryz.ntmps17
  go_wp2_with fail
  refine C.out.mono ?_
  rintro e w1 ⟨rfl, hw⟩
  go_wp2_with fail
  go_ret
  exact ⟨rfl, hw⟩
end Go.Proofs.YtcionneopgdebaaGreat
