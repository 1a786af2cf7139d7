/-
  Numbers as text over the library's Itoa alone.
-/
import Derived.Test.YthkgdiicldiahaaDoorNumI
namespace Go.Proofs.YthkgdiicldiahaaDoor
open Go.RowKit

/-- What the listed variables of the library give to Itoa. -/
structure LaidT (w : World) : Prop where
  tab : Lib.TabIs Tryd.prog w "internal/strconv.uint64pow10" .u64 Lib.pow10Tab
theorem LaidT.below {w w' : World} (h : LaidT w) (hb : Below w.heap.size w w') : LaidT w' :=
  ⟨var?_below hb gPow (cell_lt (h.tab.cell gPow 0 (by rw [Lib.pow10Tab_length]; omega))) h.tab⟩
theorem itoaT_c (n : Int) (w : World) (h0 : -9223372036854775808 ≤ n) (h1 : n ≤ 9223372036854775807) (hL : LaidT w) :
    Calls Tryd.prog 29 #[.int .i64 n] w fun e w' => e = .returned (strV (Lib.itoa n)) ∧ Below w.heap.size w w' := by
  refine (Tryd.strconv_Itoa n h0 h1 w hL.tab).mono ?_
  rintro e w' ⟨he, k, os, rfl⟩
  exact ⟨he, Lib.below_grow _ _ (Nat.le_refl _) _ _⟩

end Go.Proofs.YthkgdiicldiahaaDoor
