/-
  Numbers as text: the program's, over the library's Itoa and Atoi.
-/
import Derived.Test.YtbafgmicpopnoaaGreatDoorNumT
import Derived.Test.YtbafgmicpopnoaaGreatDoorShelf
import Derived.WalkSmall
import Derived.Lib.AppendIntMem
import Derived.Lib.LaidTab
namespace Go.Proofs.YtbafgmicpopnoaaGreatDoor
open Go.RowKit

/-- What the listed variables of the library give. -/
structure LaidS (w : World) : Prop where
  tab : Lib.TabIs Tryz.prog w "internal/strconv.uint64pow10" .u64 Lib.pow10Tab
  syn : ∃ tp p, w.cell? ⟨1, 0, none⟩ = some (.iface tp p)
  rng : ∃ tp p, w.cell? ⟨2, 0, none⟩ = some (.iface tp p)
theorem gPow : Tryz.prog.globalNamed "internal/strconv.uint64pow10" = some 3 := by kernel_rfl
theorem LaidS.below {w w' : World} (h : LaidS w) (hb : Below w.heap.size w w') : LaidS w' := by
  refine ⟨?_, ?_, ?_⟩
  · exact var?_below hb gPow (cell_lt (h.tab.cell gPow 0 (by rw [Lib.pow10Tab_length]; omega))) h.tab
  · obtain ⟨tp, p, hc⟩ := h.syn
    exact ⟨tp, p, bcell' hb hc⟩
  · obtain ⟨tp, p, hc⟩ := h.rng
    exact ⟨tp, p, bcell' hb hc⟩

theorem itoa_c (n : Int) (w : World) (h0 : -9223372036854775808 ≤ n) (h1 : n ≤ 9223372036854775807) (hL : LaidS w) :
    Calls Tryz.prog 68 #[.int .i64 n] w fun e w' => e = .returned (strV (Lib.itoa n)) ∧ Below w.heap.size w w' := by
  refine (Tryz.strconv_Itoa n h0 h1 w hL.tab).mono ?_
  rintro e w' ⟨he, k, os, rfl⟩
  exact ⟨he, Lib.below_grow _ _ (Nat.le_refl _) _ _⟩
/-- What Atoi gives at a short string. -/
def AtoiV (l : List UInt8) (v : Value) : Prop := match Lib.atoi l with
  | some n => v = .tuple #[.int .i64 n, .nilIface]
  | none => ∃ tp p, v = .tuple #[.int .i64 0, .iface tp p]
theorem atoi_c (s : ByteArray) (w : World) (hs : s.size ≤ 18) (hL : LaidS w) :
    Calls Tryz.prog 76 #[.string s] w fun e w' => (∃ v, e = .returned v ∧ AtoiV s.toList v) ∧ Below w.heap.size w w' := by
  have hall := Lib.atoiAll_short s.data.toList (by rw [← ByteArray.toList_eq, len_str]; exact hs)
  unfold AtoiV
  rw [ByteArray.toList_eq]
  cases h : Lib.atoi s.data.toList with
  | some n =>
    refine (Tryz.strconv_Atoi_ok s (by omega) n (hall.trans (by rw [h]; rfl)) w).mono ?_
    rintro e w' ⟨he, hw⟩
    refine ⟨⟨_, he, rfl⟩, ?_⟩
    rcases hw with rfl | ⟨t, rfl⟩
    · exact Below.refl _ _
    · exact Lib.bytesWorld_below _ _ _
  | none =>
    obtain ⟨tp, p, hc⟩ := hL.syn
    refine (Any.strconv_Atoi_syntax Tryz.laysC172 s (by omega) (hall.trans (by rw [h]; rfl)) _ w hc (Or.inr ⟨tp, p, rfl⟩)).mono ?_
    rintro e w' ⟨N, he, _, _, hb⟩
    exact ⟨⟨_, he, _, _, rfl⟩, hb⟩

def finB' (n : Int) : Bool := inB n (-1000000) 1000000
def parseR (l : List UInt8) : Int × Bool := if l = infL then (1000000000, true) else match Lib.atoi l with
  | some n => if (finB' n && decide (Lib.itoa n = l)) = true then (n, true) else (0, false)
  | none => (0, false)

end Go.Proofs.YtbafgmicpopnoaaGreatDoor
