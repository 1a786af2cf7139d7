/-
  Valences and canonical divisors: reference and program.
-/
import Derived.Test.YtkbkemcigcdoaaaLap
namespace Go.Proofs.Ytkbkemcigcdoaaa
open Go.RowKit

/-- Behind an append to a slice of the call's own. -/
theorem app_below {B : Nat} {u wr w2 : World} {E : TypeId} {size n : Nat} {v : Value} {xs : List Value} {o : Obj} (hb : Below B u wr) (hB : B ≤ wr.heap.size) (ho : wr.ownsRow B E size v n xs) (hg : (wr.alloc o).grownBy w2 v.ownBlock) : Below B u w2 :=
  (hb.alloc hB o).grown hg (by simp; omega) (fun q e => (ho.lt q e).1)
theorem row_empty (w : World) (E : TypeId) : (w.alloc (.cells #[] E)).ownsRow w.heap.size E 1 (.slice (some ⟨w.heap.size, 0, none⟩) 0 0) 0 [] :=
  World.ownsRow_made w #[] 0 (Nat.le_refl _) (by decide) rfl
theorem row_congr {w : World} {B : Nat} {E : TypeId} {size n m : Nat} {v : Value} {xs ys : List Value} (h : w.ownsRow B E size v n xs) (e : n = m) (e' : xs = ys) : w.ownsRow B E size v m ys := by subst e; subst e'; exact h

def valR (n : Int) (ls : List Lk) : List Int × Bool := if goodL n ls = true then (tab n.toNat (valF ls), true) else ([], false)
def canR (n : Int) (ls : List Lk) : List Int × Bool := if goodL n ls = true then (tab n.toNat (fun i => valF ls i - 2), true) else ([], false)
theorem valR_len (n : Int) (ls : List Lk) : (valR n ls).1.length ≤ 1048576 := by
  unfold valR
  split
  · rename_i h
    have := good_n h
    rw [tab_length]; omega
  · simp
theorem canR_len (n : Int) (ls : List Lk) : (canR n ls).1.length ≤ 1048576 := by
  unfold canR
  split
  · rename_i h
    have := good_n h
    rw [tab_length]; omega
  · simp

end Go.Proofs.Ytkbkemcigcdoaaa
