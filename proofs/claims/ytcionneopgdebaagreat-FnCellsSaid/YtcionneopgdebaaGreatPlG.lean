/-
  Rows of terms: append in a plain region, slices.Clone, slices.Grow, slices.Concat, gathered. By an AI agent.
-/
import Derived.Test.YtcionneopgdebaaGreatTmsB
import Derived.Deep.DeepCutAuto
import Derived.Test.YtcionneopgdebaaGreatTmsO
import Derived.Sort.Walk13a
import Derived.Deep.LoopGhost
import Derived.Test.YtcionneopgdebaaGreatCeM
import Derived.Lib.SliceRun
import Derived.Laws.IdiomCopy
import Derived.Test.YtcionneopgdebaaGreatCeA
import Derived.Lib.AppendZeros
namespace Go.Proofs.YtcionneopgdebaaGreat
open Go.RowKit

/-- append of terms in the list of a plain region, whatever is appended. -/
theorem wpList_appT {w : World} {ops : Array Oper} {rest : List Oper} {o : Oper} {a : Act} {Q : Exit → Act → World → Prop} (hgd : o.guard = none) (s x : Operand)
    (ho : o.op = .call { callee := .builtin .append, args := #[s, x], argTypes := #[24, 24] })
    (B : Nat) (v X : Value) (l m : List Tm) (hs : a.eval s = v) (hx : a.eval x = X) (hown : RowT w B v l) (hX : ReadsT w X m) (hl : l.length ≤ 100000) (hm : m.length ≤ 100000) (hB : B ≤ w.heap.size)
    (h : ∀ ad' cap' N w', N = l.length + m.length → RowT w' B (.slice ad' N cap') (l ++ m) → Below B w w' → w.heap.size ≤ w'.heap.size → wpList Tryz.prog ops Q rest (a.put o.dst (.slice ad' N cap')) w') : wpList Tryz.prog ops Q (o :: rest) a w := by
  refine wpList_plain hgd fun _ hK => ?_
  obtain ⟨iP, hiP, hzP, hsP, hbP⟩ := info_parts Tryz.infoT
  have key : ∀ v' w', RowT w' B v' (l ++ m) → Below B w w' → ∃ ad' cap', v' = .slice ad' (l.length + m.length) cap' ∧ RowT w' B (.slice ad' (l.length + m.length) cap') (l ++ m) := fun v' w' h1 _ => by
    obtain ⟨ad', cap', e, _⟩ := h1.shape
    rw [List.length_append] at e
    subst e
    exact ⟨_, _, rfl, h1⟩
  rcases hX with ⟨rfl, rfl⟩ | ⟨b, off, c, rfl, hrd⟩
  · have hr := run_append_owned_none (P := Tryz.prog) w B 24 o.type 73 iP 3 Tryz.underlyingT hiP v l.length (tmsV l) hown
    have h1 : RowT w B v (l ++ []) := by rw [List.append_nil]; exact hown
    obtain ⟨ad', cap', e, h2⟩ := key _ _ h1 (Below.refl _ _)
    subst e
    unfold Oper.wp execOp
    simp only [ho, resolve, invoke, builtin, Sem.run_bind, Sem.run_pure, Result.andThen_ok, List.map_toArray, List.map_cons, List.map_nil, hs, hx, hr]
    exact hK _ _ (h _ _ _ w rfl h2 (Below.refl _ _) (Nat.le_refl _))
  · obtain ⟨v', w', hr, h2, h3, _, _⟩ := run_append_own_at (P := Tryz.prog) w B 24 o.type 73 iP _ 3 24 Tryz.underlyingT hiP hzP hsP hbP rfl (by omega) v l.length (tmsV l) hown ⟨b, off, none⟩ m.length c (tmsV m) (tmsV_length m) hrd.news (tmsV_one m) (by unfold maxLen; omega) (by omega) hB
    have hbl := (Below.refl B w).grown h3 hB (fun q e => (hown.lt q e).1)
    obtain ⟨ad', cap', e, h4⟩ := key v' w' (rowT_congr h2 (by simp) (tmsV_append l m).symm) hbl
    subst e
    unfold Oper.wp execOp
    simp only [ho, resolve, invoke, builtin, Sem.run_bind, Sem.run_pure, Result.andThen_ok, List.map_toArray, List.map_cons, List.map_nil, hs, hx, hr]
    exact hK _ _ (h _ _ _ w' rfl h4 hbl h3.size)

/-! ### The sort, and what it gives -/
end Go.Proofs.YtcionneopgdebaaGreat
