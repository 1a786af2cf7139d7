/-
  What the harness's own functions do: sizes, copies, comparisons, marks.
-/
import Derived.Test.YtfgdhlnmndgjbaaGreatDoorRows
import Derived.Test.YtfgdhlnmndgjbaaGreatDoorBase
import Derived.WalkSpells
import Derived.WalkLawsBesides
import Derived.Deep.QuietTactic
import Derived.BigQuiet
import Derived.StillTailTactics
namespace Go.Proofs.YtfgdhlnmndgjbaaGreatDoor
open Go.RowKit

theorem Tryz.infoI : (Tryz.prog.info? 3).map (fun i => (i.zero, i.size, i.bytes)) = some (some (.int .i64 0), 1, 8) := by kernel_rfl
/-! ### The same of values: a slice that reads as numbers -/
def RdV (w : World) (v : Value) (xs : List Int) : Prop := ∃ ad cap, v = .slice ad xs.length cap ∧ RdI w ad xs
theorem ResI.rdV {w : World} {B : Nat} {E : TypeId} {v : Value} {xs : List Int} (h : ResI w B E v xs) : RdV w v xs := h.rd
theorem ResI.chg {w w' : World} {B b : Nat} {E : TypeId} {v : Value} {xs : List Int} (h : ResI w B E v xs) (hc : Chg b w w') (hb : b < B) : ResI w' B E v xs := by
  rcases h with h | ⟨g, cap, rfl, hg, ho⟩
  · exact Or.inl h
  · exact Or.inr ⟨g, cap, rfl, hg, ho.chg hc (by omega)⟩
/-! ### What an exported function hands back -/
def RetB (r : Bool) (w : World) (e : Ending) (w' : World) : Prop := e = .returned (.bool r) ∧ Below w.heap.size w w'
def RetIB (r : Int × Bool) (w : World) (e : Ending) (w' : World) : Prop := e = .returned (.tuple #[.int .i64 r.1, .bool r.2]) ∧ Below w.heap.size w w'
def RetBB (r : Bool × Bool) (w : World) (e : Ending) (w' : World) : Prop := e = .returned (.tuple #[.bool r.1, .bool r.2]) ∧ Below w.heap.size w w'
def RetLB (r : List Int × Bool) (w : World) (e : Ending) (w' : World) : Prop := ∃ v, e = .returned (.tuple #[v, .bool r.2]) ∧ ResI w' w.heap.size 3 v r.1 ∧ Below w.heap.size w w'
def RetLLB (r : List Int × List Int × Bool) (w : World) (e : Ending) (w' : World) : Prop := ∃ v u, e = .returned (.tuple #[v, u, .bool r.2.2]) ∧ ResI w' w.heap.size 3 v r.1 ∧ ResI w' w.heap.size 3 u r.2.1 ∧ (∀ q, v.ownBlock = some q → u.ownBlock ≠ some q) ∧ Below w.heap.size w w'
theorem RetIB.of {r : Int × Bool} {w w' : World} {a : Int} {b : Bool} (h : r = (a, b)) (hb : Below w.heap.size w w') : RetIB r w (.returned (.tuple #[.int .i64 a, .bool b])) w' := by subst h; exact ⟨rfl, hb⟩
theorem RetBB.of {r : Bool × Bool} {w w' : World} {a : Bool} {b : Bool} (h : r = (a, b)) (hb : Below w.heap.size w w') : RetBB r w (.returned (.tuple #[.bool a, .bool b])) w' := by subst h; exact ⟨rfl, hb⟩
theorem RetLB.of {r : List Int × Bool} {w w' : World} {v : Value} {a : List Int} {b : Bool} (h : r = (a, b)) (hv : ResI w' w.heap.size 3 v a) (hb : Below w.heap.size w w') : RetLB r w (.returned (.tuple #[v, .bool b])) w' := by subst h; exact ⟨v, rfl, hv, hb⟩
theorem RetLB.no {r : List Int × Bool} {w w' : World} (h : r = ([], false)) (hb : Below w.heap.size w w') : RetLB r w (.returned (.tuple #[.slice none 0 0, .bool false])) w' := RetLB.of h (Or.inl ⟨rfl, rfl⟩) hb

end Go.Proofs.YtfgdhlnmndgjbaaGreatDoor
