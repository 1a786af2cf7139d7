/-
  Plane polynomials: sums, products, exchange of the reference. By an AI agent.
-/
import Derived.Test.YtcionneopgdebaaGreatPlH
import Derived.Test.YtcionneopgdebaaGreatLineP
import Derived.Test.YtcionneopgdebaaGreatLaws
import Derived.Laws.BytesArg
import Derived.WalkSpells
import Derived.WalkLawsBesides
import Derived.Deep.RegionHeld3
import Derived.Lib.ItoaNum
import Derived.Lib.ItoaLen
import Derived.Lib.ItoaWalk
import Derived.Lib.AtoiTie
import Derived.Laws.Concat
import Derived.WalkSmall
import Derived.Lib.AppendIntMem
import Derived.Lib.LaidTab
import Derived.Deep.AppendLies
import Derived.Lib.SplitLaws
import Derived.Test.YtcionneopgdebaaGreatCeA
import Derived.Shelf.Strconv.AtoiAll
import Derived.Shelf.Strings.Split
import Derived.Test.YtcionneopgdebaaGreatCeD
namespace Go.Proofs.YtcionneopgdebaaGreat
open Go.RowKit

/-! ### Plain -/
theorem RowT.full {w : World} {B : Nat} {v : Value} {l : List Tm} (h : RowT w B v l) : ∃ ad cap, v = .slice ad l.length cap ∧ ST ad l.length cap ∧ RdT w ad l := by
  obtain ⟨ad, cap, rfl, h1, h2⟩ := h.shape
  refine ⟨ad, cap, rfl, ?_, RowT.rd h⟩
  rcases h.2 with ⟨e, e2⟩ | ⟨g, cap', cur, e, _, _, _⟩
  · injection e with e1 _ e3
    exact Or.inl ⟨e1, e2, e3⟩
  · injection e with e1 _ _
    exact Or.inr ⟨⟨g, 0, e1⟩, h1, h2⟩

/-! ### The reference -/
end Go.Proofs.YtcionneopgdebaaGreat
