/-
  In a region that draws its order: an operation that is skipped may be taken first. By an AI agent.
-/
import Derived.Test.YtbafgmicpopnoaaGreatDoorLaws
import Derived.Deep.RegionHeld3
namespace Go.Proofs.YtbafgmicpopnoaaGreatDoor
open Go.RowKit

/-- Number i, whose guard is false, is taken first: its temporary d holds nothing. -/
theorem wpAnyH_skip {P : Program} {ops : Array Oper} {Q : Exit → Act → World → Prop} {md : Region.Mode} {S : World → Prop} (i d : Nat) {fuel : Nat} {listed : Array Bool} {a : Act} {w : World}
    (hd : (ops[i]?).map (fun o => (o.dst, Region.wanted o (yielded ops a.tmps))) = some (some d, false))
    (hs : Region.noSelect ops = true) (hf : Region.free md ops listed i = true) (hr : (Region.ready md ops listed).contains i = true)
    (hQ : ∀ c a w, Q (.panic c) (a.put (some d) undef) w → Q (.panic c) a w) (hS : S w)
    (h : wpAnyH P md ops Q S fuel (listed.setIfInBounds i true) (a.put (some d) undef) w) : wpAnyH P md ops Q S (fuel + 1) listed a w := by
  cases ho : ops[i]? with
  | none => rw [ho] at hd; cases hd
  | some o =>
    rw [ho] at hd
    have e := Option.some.inj hd
    have e1 : o.dst = some d := congrArg Prod.fst e
    have e2 : Region.wanted o (yielded ops a.tmps) = false := congrArg Prod.snd e
    exact wpAnyH_take ho hs hf hr (by rw [e1]; exact hQ) (Or.inr ⟨e2, rfl⟩) hS (by rw [e1]; exact h)

end Go.Proofs.YtbafgmicpopnoaaGreatDoor
