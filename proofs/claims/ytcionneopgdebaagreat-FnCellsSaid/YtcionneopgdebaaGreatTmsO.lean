/-
  The library's numbers of bits, its little generator and breakPatterns over terms. Printed by gen_sortO.py (bits.Len64, bits.Len: the shelf's contract texts, laid for this program).
-/
import Derived.Test.YtcionneopgdebaaGreatTmsB
import Derived.Deep.DeepCutAuto
import Derived.Sort.LotD5
import Derived.Sort.Row
import Derived.Laws.Bits64b
import Derived.Test.YtcionneopgdebaaGreatLen
namespace Go.Proofs.YtcionneopgdebaaGreat
namespace TmsSort
open Go.RowKit
open Go.Sort (SWO swp swp_left swp_right swp_other size_swp bitsLen bitsLen_le_iff two_pow_bitsLen_le xorNext xorNextN xorNextN_lt xorNext_toNat breakStep breakPatterns)


theorem _root_.Go.Proofs.YtcionneopgdebaaGreat.Chg.over {u w w' : World} {B c : Nat} (h : Chg c u w) (hb : Below B w w') (hB : u.heap.size ≤ B) (hs : w.heap.size ≤ w'.heap.size) : Chg c u w' :=
  ⟨hb.os.trans h.os, hb.tape.trans h.tape, hb.output.trans h.output, Nat.le_trans h.size hs, fun k hk hne => by
    rw [← h.block k hk hne]
    exact hb.block k (by omega)⟩

end TmsSort
end Go.Proofs.YtcionneopgdebaaGreat
