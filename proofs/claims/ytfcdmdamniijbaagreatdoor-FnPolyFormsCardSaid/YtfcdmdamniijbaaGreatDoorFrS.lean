/-
  Fractions: the reference's side. Printed by gen_frK.py.
-/
import Derived.Test.YtfcdmdamniijbaaGreatDoorFrK
namespace Go.Proofs.YtfcdmdamniijbaaGreatDoor
open Go.RowKit
end Go.Proofs.YtfcdmdamniijbaaGreatDoor
