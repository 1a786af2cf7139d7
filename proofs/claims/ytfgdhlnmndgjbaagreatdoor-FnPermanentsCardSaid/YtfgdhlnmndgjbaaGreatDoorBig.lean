/-
  Whether the bytes of a law are too many.
-/
import Derived.Test.YtfgdhlnmndgjbaaGreatDoorLaws
namespace Go.Proofs.YtfgdhlnmndgjbaaGreatDoor
open Go.RowKit

def bigB (a b : Nat) : Bool := decide (1048576 < (a : Int)) || decide (1048576 - (a : Int) < (b : Int))
end Go.Proofs.YtfgdhlnmndgjbaaGreatDoor
