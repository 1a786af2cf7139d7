/-
  The library's contracts that the shared texts ask for: none is in this dump.
-/
import Derived.Shelf.Strconv.Itoa3
import Derived.Test.YtjkfighooijblaaGreatProg
namespace Go.Proofs.YtjkfighooijblaaGreat
end Go.Proofs.YtjkfighooijblaaGreat
