/-
  append of points at a step of a region that draws its order. By an AI agent.
-/
import Derived.Test.YtpnnmdkhkjenmaaHalfS
import Derived.Maps.AppendAt
import Derived.Laws.OwnMore
namespace Go.Proofs.Ytpnnmdkhkjenmaa
open Go.RowKit

theorem RdP.news {w : World} {b off : Nat} {l : List Pt} (h : RdP w (Option.some ⟨b, off, none⟩) l) : ∀ j u, (ptsV l)[j]? = Option.some u → w.cell? ((⟨b, off, none⟩ : Addr).add j) = Option.some u := fun j u hu => by
  have hj : j < l.length * 2 := by
    have := (List.getElem?_eq_some_iff.1 hu).1
    rwa [ptsV_length] at this
  obtain ⟨c0, c1⟩ := h.at (show j / 2 < l.length by omega)
  obtain ⟨v0, v1⟩ := ptsV_get (show j / 2 < l.length by omega)
  have ea : (⟨b, off, none⟩ : Addr).add j = ⟨b, off + j, none⟩ := by unfold Addr.add; split <;> simp [*]
  rw [ea]
  by_cases hp : j % 2 = 0
  · have : j = j / 2 * 2 := by omega
    rw [this] at hu ⊢
    rw [v0] at hu
    rw [c0]; exact hu
  · have : j = j / 2 * 2 + 1 := by omega
    rw [this] at hu ⊢
    rw [v1] at hu
    rw [← Nat.add_assoc, c1]; exact hu
theorem ptsV_one (l : List Pt) : ∀ u ∈ ptsV l, u.oneCell' = true := fun u hu => by
  unfold ptsV at hu
  obtain ⟨p, _, hp⟩ := List.mem_flatMap.1 hu
  simp at hp
  rcases hp with h | h <;> subst h <;> rfl

/-- What is appended: nothing, or a row that is read. -/
def ReadsP (w : World) (X : Value) (l : List Pt) : Prop := (X = .slice none 0 0 ∧ l = []) ∨ ∃ b off c, X = .slice (some ⟨b, off, none⟩) l.length c ∧ RdP w (some ⟨b, off, none⟩) l
theorem ReadsP.below {w w' : World} {X : Value} {l : List Pt} (h : ReadsP w X l) (hb : Below w.heap.size w w') : ReadsP w' X l := by
  rcases h with h | ⟨b, off, c, h1, h2⟩
  · exact Or.inl h
  · exact Or.inr ⟨b, off, c, h1, h2.below hb⟩
/-- append at a step of a region that draws its order, whatever is appended. -/
theorem step_app {w : World} {ops : Array Oper} {o : Oper} {a : Act} {K : Act → World → Prop} {Q : Exit → Act → World → Prop} {E : Prop} (hgd : o.guard = none) (s x : Operand)
    (ho : o.op = .call { callee := .builtin .append, args := #[s, x], argTypes := #[26, 26] })
    (B : Nat) (v X : Value) (l m : List Pt) (hs : a.eval s = v) (hx : a.eval x = X) (hown : RowP w B v l) (hX : ReadsP w X m) (hl : l.length ≤ 100000) (hm : m.length ≤ 100000) (hB : B ≤ w.heap.size)
    (h : ∀ v' w', RowP w' B v' (l ++ m) → Below B w w' → w.grownBy w' v.ownBlock → K (a.put o.dst v') w') :
    if Region.wanted o (yielded ops a.tmps) = true then Oper.wp Try.prog o a w K Q else E := by
  have hw : Region.wanted o (yielded ops a.tmps) = true := by simp [Region.wanted, hgd]
  rw [if_pos hw]
  obtain ⟨iP, hiP, hzP, hsP, hbP⟩ := info_parts Try.infoP
  rcases hX with ⟨rfl, rfl⟩ | ⟨b, off, c, rfl, hrd⟩
  · have hr := run_append_owned_none (P := Try.prog) w B 26 o.type 33 iP 2 Try.underlyingP hiP v l.length (ptsV l) hown
    unfold Oper.wp execOp
    simp only [ho, resolve, invoke, builtin, Sem.run_bind, Sem.run_pure, Result.andThen_ok, List.map_toArray, List.map_cons, List.map_nil, hs, hx, hr]
    exact h v w (by rw [List.append_nil]; exact hown) (Below.refl _ _) ⟨rfl, rfl, rfl, Nat.le_refl _, fun _ _ _ => rfl⟩
  · obtain ⟨v', w', hr, h2, h3, _, _⟩ := run_append_own_at (P := Try.prog) w B 26 o.type 33 iP _ 2 16 Try.underlyingP hiP hzP hsP hbP rfl (by omega) v l.length (ptsV l) hown ⟨b, off, none⟩ m.length c (ptsV m) (ptsV_length m) hrd.news (ptsV_one m) (by unfold maxLen; omega) (by omega) hB
    unfold Oper.wp execOp
    simp only [ho, resolve, invoke, builtin, Sem.run_bind, Sem.run_pure, Result.andThen_ok, List.map_toArray, List.map_cons, List.map_nil, hs, hx, hr]
    exact h v' w' (rowP_congr h2 (by simp) (ptsV_append l m).symm) ((Below.refl _ _).grown h3 hB (fun q e => (hown.lt q e).1)) h3
theorem rowP_new (u : World) (B H : Nat) (hB : B ≤ u.heap.size) (hH : u.heap.size = H) : RowP (u.alloc (.cells #[] 33)) B (.slice (some ⟨H, 0, none⟩) 0 0) [] := by
  subst hH
  exact World.ownsRow_made u #[] 0 hB (by decide) rfl
theorem readsP_one (u : World) (H : Nat) (x y : Int) (hH : u.heap.size = H) : ReadsP (u.alloc (.cells #[.int .i64 x, .int .i64 y] 33)) (.slice (some ⟨H, 0, none⟩) 1 1) [⟨x, y⟩] := by
  subst hH
  refine Or.inr ⟨_, _, 1, rfl, fun j hj => ?_⟩
  obtain rfl : j = 0 := by simpa using hj
  exact ⟨_, _, rfl, by simp, by simp [go_sem], by simp [go_sem]⟩

theorem readsP_nil (w : World) : ReadsP w (.slice none 0 0) [] := Or.inl ⟨rfl, rfl⟩
theorem ReadsP.alloc' {w : World} {X : Value} {l : List Pt} {o : Obj} (h : ReadsP w X l) : ReadsP (w.alloc o) X l := h.below ((Below.refl _ _).alloc (Nat.le_refl _) _)
theorem ReadsP.drew' {w : World} {X : Value} {l : List Pt} (h : ReadsP w X l) : ReadsP w.drew X l := h.below (Below.refl _ _).drew
theorem RowP.alloc' {w : World} {B : Nat} {v : Value} {l : List Pt} {o : Obj} (h : RowP w B v l) : RowP (w.alloc o) B v l := h.below ((Below.refl _ _).alloc (Nat.le_refl _) _)
theorem RowP.drew' {w : World} {B : Nat} {v : Value} {l : List Pt} (h : RowP w B v l) : RowP w.drew B v l := h.below (Below.refl _ _).drew
theorem ReadsP.grown {w w' : World} {row : Option Nat} {H : Nat} {x : List Pt} (h : ReadsP w (.slice (some ⟨H, 0, none⟩) 1 1) x) (hg : w.grownBy w' row) (hne : some H ≠ row) : ReadsP w' (.slice (some ⟨H, 0, none⟩) 1 1) x := by
  rcases h with ⟨h, _⟩ | ⟨b, off, c, h1, h2⟩
  · cases h
  · refine Or.inr ⟨b, off, c, h1, fun j hj => ?_⟩
    injection h1 with h1 _ _
    injection h1 with h1
    injection h1 with h1 h1' _
    subst h1; subst h1'
    obtain ⟨b', off', e, hl, c0, c1⟩ := h2 j hj
    cases e
    exact ⟨_, _, rfl, Nat.lt_of_lt_of_le hl hg.size, by rw [World.grownBy.cell_far hg _ hl hne]; exact c0, by rw [World.grownBy.cell_far hg _ hl hne]; exact c1⟩
theorem RowP.mono {w : World} {B B' : Nat} {v : Value} {l : List Pt} (h : RowP w B v l) (hB : B' ≤ B) : RowP w B' v l := by
  refine ⟨h.1, ?_⟩
  rcases h.2 with hn | ⟨g, cap, cur, rfl, hb, hgg, rest⟩
  · exact .inl hn
  · exact .inr ⟨g, cap, cur, rfl, Nat.le_trans hB hb, hgg, rest⟩
theorem RdP.takeDrop {w : World} {b off : Nat} {l : List Pt} (h : RdP w (Option.some ⟨b, off, none⟩) l) (k : Nat) : RdP w (Option.some ⟨b, off, none⟩) (l.take k) ∧ RdP w (Option.some ⟨b, off + k * 2, none⟩) (l.drop k) := by
  refine ⟨fun j hj => ?_, fun j hj => ?_⟩
  · have hj' : j < k ∧ j < l.length := by rw [List.length_take] at hj; omega
    obtain ⟨b', off', e, hl, c0, c1⟩ := h j hj'.2
    have e' : (l.take k).getD j default = l.getD j default := by simp [List.getD_eq_getElem?_getD, hj'.1]
    exact ⟨b', off', e, hl, by rw [e']; exact c0, by rw [e']; exact c1⟩
  · have hj' : k + j < l.length := by rw [List.length_drop] at hj; omega
    obtain ⟨b', off', e, hl, c0, c1⟩ := h (k + j) hj'
    have e' : (l.drop k).getD j default = l.getD (k + j) default := by simp [List.getD_eq_getElem?_getD]
    cases e
    exact ⟨b, off + k * 2, rfl, hl, by rw [e', show off + k * 2 + j * 2 = off + (k + j) * 2 by omega]; exact c0, by rw [e', show off + k * 2 + j * 2 + 1 = off + (k + j) * 2 + 1 by omega]; exact c1⟩
theorem ptEq_ne {o : List Pt} {k : Nat} {a b c d : Int} (h : o.getD k default = ⟨a, b⟩) (hne : ¬ (a = c ∧ b = d)) : ¬ o.getD k default = ⟨c, d⟩ := by
  rw [h]; intro e; injection e with e1 e2; exact hne ⟨e1, e2⟩

end Go.Proofs.Ytpnnmdkhkjenmaa
