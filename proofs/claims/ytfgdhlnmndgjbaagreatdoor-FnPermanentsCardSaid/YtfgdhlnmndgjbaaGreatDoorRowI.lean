/-
  Lists of numbers in memory of one's own.
-/
import Derived.Test.YtfgdhlnmndgjbaaGreatDoorCur
import Derived.Deep.AppendLies
namespace Go.Proofs.YtfgdhlnmndgjbaaGreatDoor
open Go.RowKit

def RowI (w : World) (B : Nat) (v : Value) (xs : List Int) : Prop := w.ownsRow B 3 1 v xs.length (ints xs)
theorem RowI.nil (w : World) (B : Nat) : RowI w B (.slice none 0 0) [] := ⟨rfl, Or.inl ⟨rfl, rfl⟩⟩
theorem app_below {B : Nat} {u wr w2 : World} {E : TypeId} {size n : Nat} {v : Value} {xs : List Value} {o : Obj} (hb : Below B u wr) (hB : B ≤ wr.heap.size) (ho : wr.ownsRow B E size v n xs) (hg : (wr.alloc o).grownBy w2 v.ownBlock) : Below B u w2 :=
  (hb.alloc hB o).grown hg (by simp; omega) (fun q e => (ho.lt q e).1)
theorem row_empty (w : World) (E : TypeId) : (w.alloc (.cells #[] E)).ownsRow w.heap.size E 1 (.slice (some ⟨w.heap.size, 0, none⟩) 0 0) 0 [] :=
  World.ownsRow_made w #[] 0 (Nat.le_refl _) (by decide) rfl
theorem row_congr {w : World} {B : Nat} {E : TypeId} {size n m : Nat} {v : Value} {xs ys : List Value} (h : w.ownsRow B E size v n xs) (e : n = m) (e' : xs = ys) : w.ownsRow B E size v m ys := by subst e; subst e'; exact h
theorem RowI.shape {w : World} {B : Nat} {v : Value} {xs : List Int} (h : RowI w B v xs) : ∃ ad cap, v = .slice ad xs.length cap ∧ RdI w ad xs := by
  rcases Own.of_row h with ⟨h1, h0, h2⟩ | ⟨g, cap, h1, _, _, _, ho⟩
  · have : xs = [] := by simpa [ints] using h2
    subst this
    exact ⟨none, 0, h1, RdI.nil _ _⟩
  · exact ⟨_, cap, h1, ho.rd⟩
theorem RowI.below {w w' : World} {B : Nat} {v : Value} {xs : List Int} (h : RowI w B v xs) (hb : Below w.heap.size w w') : RowI w' B v xs := row_below h hb
def slen (v : Value) : Nat := match v with
  | .slice _ n _ => n
  | _ => 0
theorem RowI.slen {w : World} {B : Nat} {v : Value} {xs : List Int} (h : RowI w B v xs) : slen v = xs.length := by
  obtain ⟨ad, cap, rfl, _⟩ := h.shape
  rfl

end Go.Proofs.YtfgdhlnmndgjbaaGreatDoor
