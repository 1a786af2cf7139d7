/-
  Fractions' floors, texts, products, means: the program's side. Printed by gen_frK.py.
-/
import Derived.Test.YtfcdmdamniijbaaGreatDoorFrQ
import Derived.Test.YtfcdmdamniijbaaGreatDoorAll
import Derived.Test.YtfcdmdamniijbaaGreatDoorNumI
namespace Go.Proofs.YtfcdmdamniijbaaGreatDoor
open Go.RowKit

theorem bytes3 (A B : List UInt8) (c : UInt8) : (⟨A.toArray⟩ : ByteArray) ++ ⟨#[c]⟩ ++ ⟨B.toArray⟩ = ⟨(A ++ c :: B).toArray⟩ := by
  apply ByteArray.ext
  simp
theorem add_strF (a b : ByteArray) (h : a.size + b.size ≤ 9223372036854775807) (w : World) : (Op.stringOp .add a b).run Tryz.prog w = .ok (.string (a ++ b)) w := run_string_add_sum w a b h
theorem sizeC (c : UInt8) : (⟨#[c]⟩ : ByteArray).size = 1 := rfl
theorem RdI.shape' {w : World} {ad : Option Addr} {xs : List Int} (h : RdI w ad xs) {j : Nat} (hj : j < xs.length) : ∃ b off, ad = some ⟨b, off, none⟩ ∧ b < w.heap.size ∧ w.cell? ⟨b, off + j, none⟩ = some (.int .i64 (xs.getD j 0)) := h j hj
end Go.Proofs.YtfcdmdamniijbaaGreatDoor
