/-
  Greatest common divisors of wide numbers: program and reference.
-/
import Derived.Test.YtfcdmdamniijbaaGreatDoorGood
import Derived.Deep.RegionHeld3
namespace Go.Proofs.YtfcdmdamniijbaaGreatDoor
open Go.RowKit

/-! ### Divisors -/
def gcdN (a b : Int) : Int := (Int.gcd a b : Nat)

end Go.Proofs.YtfcdmdamniijbaaGreatDoor
