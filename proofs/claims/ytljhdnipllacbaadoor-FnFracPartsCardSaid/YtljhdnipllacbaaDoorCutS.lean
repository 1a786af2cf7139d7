/-
  Cutting a text and reading a number: the library's, with what they ask of the world.
-/
import Derived.Test.YtljhdnipllacbaaDoorNumI
import Derived.Test.YtljhdnipllacbaaDoorDrawN
import Derived.Deep.AppendLies
namespace Go.Proofs.YtljhdnipllacbaaDoor
open Go.RowKit

structure LaidL (w : World) : Prop where
  s : LaidS w
  m : ∃ m, w.cell? ⟨0, 0, none⟩ = some (.int .i64 m)
theorem LaidL.below {w w' : World} (h : LaidL w) (hb : Below w.heap.size w w') : LaidL w' := by
  obtain ⟨m, hm⟩ := h.m
  exact ⟨h.s.below hb, m, bcell' hb hm⟩
theorem Tryd.infoS : (Tryd.prog.info? 9).map (fun i => (i.zero, i.size, i.bytes)) = some (some (.string ⟨#[]⟩), 1, 16) := by kernel_rfl

theorem cut_g (R S : List UInt8) (w : World) (hs : R.length ≤ 1000) (hL : LaidL w) :
    Calls Tryd.prog 38 #[.string ⟨R.toArray⟩, .string ⟨S.toArray⟩] w fun e w' => e = .returned (.tuple #[.string ⟨(Lib.cut R S).1.toArray⟩, .string ⟨(Lib.cut R S).2.1.toArray⟩, .bool (Lib.cut R S).2.2]) ∧ Below w.heap.size w w' := by
  obtain ⟨m, hm⟩ := hL.m
  refine (Tryd.strings_Cut ⟨R.toArray⟩ ⟨S.toArray⟩ m w (by simp [ByteArray.size]; omega) hm).mono ?_
  rintro e w' ⟨rfl, n, rfl⟩
  exact ⟨rfl, bdrewN (Below.refl _ _) n⟩
theorem atoi_e (P : List UInt8) (w : World) (hs : P.length ≤ 18) (hL : LaidL w) :
    Calls Tryd.prog 39 #[.string ⟨P.toArray⟩] w fun e w' => (∃ v, e = .returned v ∧ AtoiV P v) ∧ Below w.heap.size w w' := by
  have h := atoi_c ⟨P.toArray⟩ w (by simpa [ByteArray.size] using hs) hL.s
  rw [ByteArray.toList_mk] at h
  exact h

theorem appB {B : Nat} {u wr w2 : World} {E : TypeId} {size n : Nat} {v : Value} {xs : List Value} {o : Obj} (hb : Below B u wr) (hB : B ≤ wr.heap.size) (ho : wr.ownsRow B E size v n xs) (hg : (wr.alloc o).grownBy w2 v.ownBlock) : Below B u w2 :=
  (hb.alloc hB o).grown hg (by simp; omega) (fun q e => (ho.lt q e).1)
theorem rowE (w : World) (E : TypeId) : (w.alloc (.cells #[] E)).ownsRow w.heap.size E 1 (.slice (some ⟨w.heap.size, 0, none⟩) 0 0) 0 [] :=
  World.ownsRow_made w #[] 0 (Nat.le_refl _) (by decide) rfl
theorem rowC {w : World} {B : Nat} {E : TypeId} {size n m : Nat} {v : Value} {xs ys : List Value} (h : w.ownsRow B E size v n xs) (e : n = m) (e' : xs = ys) : w.ownsRow B E size v m ys := by subst e; subst e'; exact h

end Go.Proofs.YtljhdnipllacbaaDoor
