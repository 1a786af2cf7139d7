/-
  Some texts of this proof in one: Shelf LineP. Each part tells what it proves. By an AI agent.
-/
import Derived.Shelf.Strconv.Itoa3
import Derived.Test.YtcionneopgdebaaGreatProg
import Derived.Test.YtcionneopgdebaaGreatLaws
import Derived.Laws.BytesArg
import Derived.WalkSpells
import Derived.WalkLawsBesides
import Derived.Deep.RegionHeld3
import Derived.Lib.ItoaNum
import Derived.Lib.ItoaLen
import Derived.Lib.ItoaWalk
import Derived.Lib.AtoiTie
import Derived.Laws.Concat
import Derived.WalkSmall
import Derived.Lib.AppendIntMem
import Derived.Lib.LaidTab
import Derived.Lib.IndexBytes
import Derived.Lib.IndexMore

/-
  The library's contracts that the shared texts ask for: none is in this dump.
-/
namespace Go.Proofs.YtcionneopgdebaaGreat
end Go.Proofs.YtcionneopgdebaaGreat

/-
  Lines, plain: where two lines meet, what moves with a line, texts of lines and their readings. No program in sight.
-/
namespace Go.Proofs.YtcionneopgdebaaGreat

structure Ln where
  a : Int
  b : Int
  c : Int
def Ln.z : Ln := ⟨0, 0, 0⟩
/-! ### Meeting, moving -/
/-! ### Texts -/
end Go.Proofs.YtcionneopgdebaaGreat
