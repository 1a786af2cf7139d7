/-
  Rows of terms: append in a plain region, slices.Clone, slices.Grow, slices.Concat, gathered. By an AI agent.
-/
import Derived.Test.YtbcmnhppodfhpaaGreatTmsB
import Derived.Deep.DeepCutAuto
import Derived.Sort.Walk13a
import Derived.Deep.LoopGhost
import Derived.Test.YtbcmnhppodfhpaaGreatCeM
import Derived.Lib.SliceRun
import Derived.Laws.IdiomCopy
import Derived.Test.YtbcmnhppodfhpaaGreatCeA
import Derived.Lib.AppendZeros
namespace Go.Proofs.YtbcmnhppodfhpaaGreat
open Go.RowKit

/-- append of terms in the list of a plain region, whatever is appended. -/
theorem wpList_appT {w : World} {ops : Array Oper} {rest : List Oper} {o : Oper} {a : Act} {Q : Exit → Act → World → Prop} (hgd : o.guard = none) (s x : Operand)
    (ho : o.op = .call { callee := .builtin .append, args := #[s, x], argTypes := #[24, 24] })
    (B : Nat) (v X : Value) (l m : List Tm) (hs : a.eval s = v) (hx : a.eval x = X) (hown : RowT w B v l) (hX : ReadsT w X m) (hl : l.length ≤ 100000) (hm : m.length ≤ 100000) (hB : B ≤ w.heap.size)
    (h : ∀ ad' cap' N w', N = l.length + m.length → RowT w' B (.slice ad' N cap') (l ++ m) → Below B w w' → w.heap.size ≤ w'.heap.size → wpList Tryz.prog ops Q rest (a.put o.dst (.slice ad' N cap')) w') : wpList Tryz.prog ops Q (o :: rest) a w := by
  refine wpList_plain hgd fun _ hK => ?_
  obtain ⟨iP, hiP, hzP, hsP, hbP⟩ := info_parts Tryz.infoT
  have key : ∀ v' w', RowT w' B v' (l ++ m) → Below B w w' → ∃ ad' cap', v' = .slice ad' (l.length + m.length) cap' ∧ RowT w' B (.slice ad' (l.length + m.length) cap') (l ++ m) := fun v' w' h1 _ => by
    obtain ⟨ad', cap', e, _⟩ := h1.shape
    rw [List.length_append] at e
    subst e
    exact ⟨_, _, rfl, h1⟩
  rcases hX with ⟨rfl, rfl⟩ | ⟨b, off, c, rfl, hrd⟩
  · have hr := run_append_owned_none (P := Tryz.prog) w B 24 o.type 68 iP 3 Tryz.underlyingT hiP v l.length (tmsV l) hown
    have h1 : RowT w B v (l ++ []) := by rw [List.append_nil]; exact hown
    obtain ⟨ad', cap', e, h2⟩ := key _ _ h1 (Below.refl _ _)
    subst e
    unfold Oper.wp execOp
    simp only [ho, resolve, invoke, builtin, Sem.run_bind, Sem.run_pure, Result.andThen_ok, List.map_toArray, List.map_cons, List.map_nil, hs, hx, hr]
    exact hK _ _ (h _ _ _ w rfl h2 (Below.refl _ _) (Nat.le_refl _))
  · obtain ⟨v', w', hr, h2, h3, _, _⟩ := run_append_own_at (P := Tryz.prog) w B 24 o.type 68 iP _ 3 24 Tryz.underlyingT hiP hzP hsP hbP rfl (by omega) v l.length (tmsV l) hown ⟨b, off, none⟩ m.length c (tmsV m) (tmsV_length m) hrd.news (tmsV_one m) (by unfold maxLen; omega) (by omega) hB
    have hbl := (Below.refl B w).grown h3 hB (fun q e => (hown.lt q e).1)
    obtain ⟨ad', cap', e, h4⟩ := key v' w' (rowT_congr h2 (by simp) (tmsV_append l m).symm) hbl
    subst e
    unfold Oper.wp execOp
    simp only [ho, resolve, invoke, builtin, Sem.run_bind, Sem.run_pure, Result.andThen_ok, List.map_toArray, List.map_cons, List.map_nil, hs, hx, hr]
    exact hK _ _ (h _ _ _ w' rfl h4 hbl h3.size)

set_option maxHeartbeats 800000 in
theorem cloneT_c (ad : Option Addr) (cap : Nat) (l : List Tm) (w : World) (hr : RdT w ad l) (h0 : 0 < l.length) (hl : l.length ≤ 100000) :
    Calls Tryz.prog 43 #[.slice ad l.length cap] w fun e w' => ∃ g cap', e = .returned (.slice (some ⟨g, 0, none⟩) l.length cap') ∧ RowT w' w.heap.size (.slice (some ⟨g, 0, none⟩) l.length cap') l ∧ l.length ≤ cap' ∧ Below w.heap.size w w' := by
  have hnl := fun (w : World) (a : Option Addr) (l c : Nat) => Lib.run_eql_slice_nil (P := Tryz.prog) w 24 68 a l c 0 0 Tryz.underlyingT
  obtain ⟨b, off, rfl, hb⟩ := hr.some h0
  have HO := Lib.hid (rowY_new w w.heap.size w.heap.size (Nat.le_refl _) rfl)
  have HX := Lib.hid (show ReadsT (w.alloc (.cells #[] 68)) (.slice (some ⟨b, off, none⟩) l.length cap) l from ReadsT.alloc' (Or.inr ⟨b, off, cap, rfl, hr⟩))
  clear hr
  go_enter Tryz.func43, Tryz.ntmps43
  go_wp2_with (at_builtin; refine wpList_appT rfl _ _ rfl w.heap.size _ _ [] l rfl rfl HO.out HX.out (by simp) hl (by simp) ?_; intro ad5 cap5 N5 wm hN5 hown hbm hgr)
  have hN6 : N5 = l.length := by simpa using hN5
  rw [List.nil_append, hN6] at hown
  clear hN5 hN6
  have hsh : ∃ g, ad5 = some ⟨g, 0, none⟩ ∧ l.length ≤ cap5 := by
    rcases hown.2 with ⟨e, e2⟩ | ⟨g, cap', cur, e, _, _, h1, _⟩
    · omega
    · injection e with e1 _ e3; subst e3; exact ⟨g, e1, h1⟩
  obtain ⟨g, rfl, hc⟩ := hsh
  have HOW := Lib.hid hown; clear hown
  go_wp2_with fail
  go_ret
  exact ⟨g, cap5, rfl, HOW.out, hc, ((Below.refl _ _).alloc (Nat.le_refl _) _).trans hbm⟩

/-! ### The sort, and what it gives -/
end Go.Proofs.YtbcmnhppodfhpaaGreat
