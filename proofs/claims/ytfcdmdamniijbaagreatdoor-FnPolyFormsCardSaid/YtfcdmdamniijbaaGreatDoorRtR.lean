/-
  The roots of a polynomial: program and reference. Printed by gen_rtR.py.
-/
import Derived.Test.YtfcdmdamniijbaaGreatDoorRtM
import Derived.Test.YtfcdmdamniijbaaGreatDoorFrK
import Derived.Test.YtfcdmdamniijbaaGreatDoorFrS
namespace Go.Proofs.YtfcdmdamniijbaaGreatDoor
open Go.RowKit
end Go.Proofs.YtfcdmdamniijbaaGreatDoor
