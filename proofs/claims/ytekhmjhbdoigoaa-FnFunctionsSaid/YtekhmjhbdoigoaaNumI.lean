/-
  Numbers as text: the program's, over the library's Itoa and Atoi.
-/
import Derived.Test.YtekhmjhbdoigoaaNumT
import Derived.Test.YtekhmjhbdoigoaaShelf
import Derived.WalkSmall
import Derived.Lib.AppendIntMem
import Derived.Lib.LaidTab
namespace Go.Proofs.Ytekhmjhbdoigoaa
open Go.RowKit

/-- What Atoi gives at a short string. -/
def AtoiV (l : List UInt8) (v : Value) : Prop := match Lib.atoi l with
  | some n => v = .tuple #[.int .i64 n, .nilIface]
  | none => ∃ tp p, v = .tuple #[.int .i64 0, .iface tp p]
def finB' (n : Int) : Bool := inB n (-1000000) 1000000
def parseR (l : List UInt8) : Int × Bool := if l = infL then (1000000000, true) else match Lib.atoi l with
  | some n => if (finB' n && decide (Lib.itoa n = l)) = true then (n, true) else (0, false)
  | none => (0, false)

end Go.Proofs.Ytekhmjhbdoigoaa
