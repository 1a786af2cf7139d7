/-
  Corners and roots asked for, how often a fraction is a root, comparing: program and reference. Printed by gen_rtT.py.
-/
import Derived.Test.YtfcdmdamniijbaaGreatDoorRtR
namespace Go.Proofs.YtfcdmdamniijbaaGreatDoor
open Go.RowKit

def timesF : List Rt → Fr → Int
  | [], _ => 0
  | r :: rs, f => if r.f.n = f.n ∧ r.f.d = f.d then r.t else timesF rs f
theorem drop_cons {l : List Rt} {j : Nat} (h : j < l.length) : l.drop j = l.getD j Rt.z :: l.drop (j + 1) := by
  rw [List.drop_eq_getElem_cons h, List.getD_eq_getElem?_getD, List.getElem?_eq_getElem h, Option.getD_some]
def cmpF (f g : Fr) : Int := if f.n * g.d - g.n * f.d < 0 then -1 else if f.n * g.d - g.n * f.d > 0 then 1 else 0
end Go.Proofs.YtfcdmdamniijbaaGreatDoor
