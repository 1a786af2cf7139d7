/-
  Fractions that the cursor draws. Printed by gen_frD.py.
-/
import Derived.Test.YtfcdmdamniijbaaGreatDoorFrS
import Derived.Test.YtfcdmdamniijbaaGreatDoorDrawM
namespace Go.Proofs.YtfcdmdamniijbaaGreatDoor
open Go.RowKit

def SomeF (P : Fr → Prop) (c n : Nat) (w : World) (e : Ending) (w' : World) : Prop := ∃ f : Fr, e = .returned (frV f) ∧ P f ∧ Cur w' c n ∧ Chg c w w'
theorem mk_small {n d : Int} (hd : 1 ≤ d) (hdb : d ≤ 1000000000) (hn : -1000000000 ≤ n ∧ n ≤ 1000000000) : mkB n d = true ∧ ((lowF n d).n.natAbs ≤ n.natAbs) ∧ (lowF n d).d ≤ d := by
  obtain ⟨s, hs, hs0, h1, h2, h3, h4⟩ := low_spec (n := n) (d := d) (by omega)
  have x1 := tdiv_bd n (sgG n d)
  have x2 := tdiv_bd d (sgG n d)
  have y1 : (lowF n d).n.natAbs ≤ n.natAbs := x1
  have y2 : (lowF n d).d.natAbs ≤ d.natAbs := x2
  refine ⟨mkB_t.2 ⟨by omega, frB_t.2 ⟨by omega, by omega, h4⟩⟩, y1, by omega⟩
/-- A small valid fraction. -/
def SmallF (f : Fr) : Prop := frB f = true ∧ (-20 ≤ f.n ∧ f.n ≤ 20) ∧ f.d ≤ 12

def TwoF (w : World) (e : Ending) (w' : World) : Prop := ∃ f g : Fr, e = .returned (.tuple #[frV f, frV g]) ∧ Below w.heap.size w w'
end Go.Proofs.YtfcdmdamniijbaaGreatDoor
