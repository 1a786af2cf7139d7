/-
  Numbers as text over the library's Itoa alone.
-/
import Derived.Test.YtekhmjhbdoigoaaNumI
namespace Go.Proofs.Ytekhmjhbdoigoaa
open Go.RowKit

/-- What the listed variables of the library give to Itoa. -/
structure LaidT (w : World) : Prop where
  tab : Lib.TabIs Try.prog w "internal/strconv.uint64pow10" .u64 Lib.pow10Tab
end Go.Proofs.Ytekhmjhbdoigoaa
