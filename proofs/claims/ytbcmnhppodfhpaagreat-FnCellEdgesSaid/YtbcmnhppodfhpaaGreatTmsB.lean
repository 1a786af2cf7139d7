/-
  Some texts of this proof in one: TmsB TmsQ TmsO. Each part tells what it proves. By an AI agent.
-/
import Derived.Test.YtbcmnhppodfhpaaGreatLaws
import Derived.Sort.AssemblyPlain
import Derived.WalkKit
import Derived.BigGuard
import Derived.BigCall
import Derived.Deep.Draws
import Derived.Deep.QuietTactic
import Derived.Deep.RegionHeld3
import Derived.BigQuiet
import Derived.StillTailTactics
import Derived.Deep.DeepCutAuto
import Derived.Sort.LotD5
import Derived.Sort.Row
import Derived.Laws.Bits64b
import Derived.Test.YtbcmnhppodfhpaaGreatLen

/-
  Terms and the sort of them: the comparer, the cells of a row of terms, the swap. By an AI agent. Printed by gen_tms.py.
-/
namespace Go.Proofs.YtbcmnhppodfhpaaGreat
def tmV (p : Tm) : Value := .agg #[.int .i64 p.i, .int .i64 p.j, .int .i64 p.c]
namespace TmsSort
open Go.RowKit
open Go.Sort (SWO swp swp_left swp_right swp_other size_swp)

end TmsSort
end Go.Proofs.YtbcmnhppodfhpaaGreat

/-
  The library's choice of a pivot, the reversal of a range. Printed by gen_sort.py.
-/
namespace Go.Proofs.YtbcmnhppodfhpaaGreat
namespace TmsSort
open Go.RowKit
open Go.Sort (SWO swp swp_left swp_right swp_other size_swp insInner insOuter Hint)

theorem reverseLoop_go {i j : Nat} {d : Array Tm} (h : i < j) : Sort.reverseLoop i j d = Sort.reverseLoop (i + 1) (j - 1) (swp d i j) := by rw [Sort.reverseLoop, if_pos h]
theorem reverseLoop_stop {i j : Nat} {d : Array Tm} (h : ¬ i < j) : Sort.reverseLoop i j d = d := by rw [Sort.reverseLoop, if_neg h]

end TmsSort
end Go.Proofs.YtbcmnhppodfhpaaGreat

/-
  The library's numbers of bits, its little generator and breakPatterns over terms. Printed by gen_sortO.py (bits.Len64, bits.Len: the shelf's contract texts, laid for this program).
-/
namespace Go.Proofs.YtbcmnhppodfhpaaGreat
namespace TmsSort
open Go.RowKit
open Go.Sort (SWO swp swp_left swp_right swp_other size_swp bitsLen bitsLen_le_iff two_pow_bitsLen_le xorNext xorNextN xorNextN_lt xorNext_toNat breakStep breakPatterns)


theorem _root_.Go.Proofs.YtbcmnhppodfhpaaGreat.Chg.over {u w w' : World} {B c : Nat} (h : Chg c u w) (hb : Below B w w') (hB : u.heap.size ≤ B) (hs : w.heap.size ≤ w'.heap.size) : Chg c u w' :=
  ⟨hb.os.trans h.os, hb.tape.trans h.tape, hb.output.trans h.output, Nat.le_trans h.size hs, fun k hk hne => by
    rw [← h.block k hk hne]
    exact hb.block k (by omega)⟩

end TmsSort
end Go.Proofs.YtbcmnhppodfhpaaGreat
