/-
  Terms and the sort of them: the comparer, the cells of a row of terms, the swap. By an AI agent. Printed by gen_tms.py.
-/
import Derived.Test.YtcionneopgdebaaGreatLaws
import Derived.Sort.AssemblyPlain
import Derived.WalkKit
import Derived.BigGuard
import Derived.BigCall
import Derived.Deep.Draws
import Derived.Deep.QuietTactic
import Derived.Deep.RegionHeld3
import Derived.BigQuiet
import Derived.StillTailTactics
namespace Go.Proofs.YtcionneopgdebaaGreat
def tmV (p : Tm) : Value := .agg #[.int .i64 p.i, .int .i64 p.j, .int .i64 p.c]
namespace TmsSort
open Go.RowKit
open Go.Sort (SWO swp swp_left swp_right swp_other size_swp)

end TmsSort
end Go.Proofs.YtcionneopgdebaaGreat
