/-
  Terms in memory: rows that are read, rows of one's own; append of terms. Turned from RyB. By an AI agent.
-/
import Derived.Test.YtcionneopgdebaaGreatLaws
import Derived.Deep.AppendLies
import Derived.Maps.AppendAt
import Derived.Laws.OwnMore
namespace Go.Proofs.YtcionneopgdebaaGreat
open Go.RowKit

theorem Tryz.infoT : (Tryz.prog.info? 73).map (fun i => (i.zero, i.size, i.bytes)) = some (some (.agg #[.int .i64 0, .int .i64 0, .int .i64 0]), 3, 24) := by kernel_rfl
theorem Tryz.underlyingT : Tryz.prog.underlying 24 = some (.slice 73) := by kernel_rfl

def tmsV (l : List Tm) : List Value := l.flatMap fun p => [.int .i64 p.i, .int .i64 p.j, .int .i64 p.c]
theorem tmsV_length (l : List Tm) : (tmsV l).length = l.length * 3 := by
  induction l with
  | nil => rfl
  | cons x l ih => simp [tmsV] at ih ⊢; omega
theorem tmsV_cons (x : Tm) (l : List Tm) : tmsV (x :: l) = .int .i64 x.i :: .int .i64 x.j :: .int .i64 x.c :: tmsV l := rfl
theorem tmsV_append (l m : List Tm) : tmsV (l ++ m) = tmsV l ++ tmsV m := by simp [tmsV]
theorem tmsV_get : ∀ {l : List Tm} {i : Nat}, i < l.length → (tmsV l)[i * 3]? = some (.int .i64 (l.getD i default).i) ∧ (tmsV l)[i * 3 + 1]? = some (.int .i64 (l.getD i default).j) ∧ (tmsV l)[i * 3 + 2]? = some (.int .i64 (l.getD i default).c)
  | [], i, h => by simp at h
  | x :: l, 0, _ => by simp [tmsV]
  | x :: l, i + 1, h => by
    have := tmsV_get (l := l) (i := i) (by simpa using h)
    rw [tmsV_cons, show (i + 1) * 3 = i * 3 + 1 + 1 + 1 by omega]
    simpa using this
/-- A row of rays that is read. -/
def RdT (w : World) (ad : Option Addr) (l : List Tm) : Prop :=
  ∀ j, j < l.length → ∃ b off, ad = some ⟨b, off, none⟩ ∧ b < w.heap.size ∧ w.cell? ⟨b, off + j * 3, none⟩ = some (.int .i64 (l.getD j default).i) ∧ w.cell? ⟨b, off + j * 3 + 1, none⟩ = some (.int .i64 (l.getD j default).j) ∧ w.cell? ⟨b, off + j * 3 + 2, none⟩ = some (.int .i64 (l.getD j default).c)
theorem RdT.nil (w : World) (ad : Option Addr) : RdT w ad [] := fun _ h => by simp at h
theorem RdT.below {w w' : World} {ad : Option Addr} {l : List Tm} (h : RdT w ad l) (hb : Below w.heap.size w w') : RdT w' ad l := fun j hj => by
  obtain ⟨b', off', e, hl, c0, c1, c2⟩ := h j hj
  exact ⟨b', off', e, Nat.lt_of_lt_of_le hl hb.size, bcell hb hl c0, bcell hb hl c1, bcell hb hl c2⟩
theorem RdT.some {w : World} {ad : Option Addr} {l : List Tm} (h : RdT w ad l) (h0 : 0 < l.length) : ∃ b off, ad = Option.some ⟨b, off, none⟩ ∧ b < w.heap.size := by
  obtain ⟨b, off, e, hl, _⟩ := h 0 h0
  exact ⟨b, off, e, hl⟩
theorem RdT.at {w : World} {b off : Nat} {l : List Tm} (h : RdT w (Option.some ⟨b, off, none⟩) l) {j : Nat} (hj : j < l.length) : w.cell? ⟨b, off + j * 3, none⟩ = Option.some (.int .i64 (l.getD j default).i) ∧ w.cell? ⟨b, off + j * 3 + 1, none⟩ = Option.some (.int .i64 (l.getD j default).j) ∧ w.cell? ⟨b, off + j * 3 + 2, none⟩ = Option.some (.int .i64 (l.getD j default).c) := by
  obtain ⟨b', off', e, hl, c0, c1, c2⟩ := h j hj
  cases e
  exact ⟨c0, c1, c2⟩
/-- A row of rays of one's own. -/
def RowT (w : World) (B : Nat) (v : Value) (l : List Tm) : Prop := w.ownsRow B 73 3 v l.length (tmsV l)
theorem RowT.nil (w : World) (B : Nat) : RowT w B (.slice none 0 0) [] := ⟨rfl, Or.inl ⟨rfl, rfl⟩⟩
theorem RowT.shape {w : World} {B : Nat} {v : Value} {l : List Tm} (h : RowT w B v l) : ∃ ad cap, v = .slice ad l.length cap ∧ l.length ≤ cap ∧ cap ≤ maxLen := by
  rcases h.2 with ⟨e, e2⟩ | ⟨g, cap, cur, e, _, _, h1, h2, _⟩
  · exact ⟨none, 0, by rw [e, e2], by omega, by unfold maxLen; omega⟩
  · exact ⟨_, cap, e, h1, h2⟩
theorem RowT.rd {w : World} {B : Nat} {ad : Option Addr} {n cap : Nat} {l : List Tm} (h : RowT w B (.slice ad n cap) l) : RdT w ad l := fun j hj => by
  rcases h.2 with ⟨e, e2⟩ | ⟨g, cap', cur, e, hb, hg, h1, h2, h3, h4⟩
  · omega
  · injection e with e1 _ _
    subst e1
    obtain ⟨c0, c1, c2⟩ := tmsV_get hj
    have hc : ∀ i, i < l.length * 3 → w.cell? ⟨g, 0 + i, none⟩ = (tmsV l)[i]? := fun i hi => by
      rw [← h4, List.getElem?_take_of_lt hi]
      simp [World.cell?, hg]
    exact ⟨g, 0, rfl, (Array.getElem?_eq_some_iff.1 hg).1, by rw [hc _ (by omega), c0], by rw [show (0 + j * 3 + 1 : Nat) = 0 + (j * 3 + 1) by omega, hc _ (by omega), c1], by rw [show (0 + j * 3 + 2 : Nat) = 0 + (j * 3 + 2) by omega, hc _ (by omega), c2]⟩
theorem RowT.below {w w' : World} {B : Nat} {v : Value} {l : List Tm} (h : RowT w B v l) (hb : Below w.heap.size w w') : RowT w' B v l := by
  refine ⟨h.1, ?_⟩
  rcases h.2 with hn | ⟨g, cap, cur, rfl, hB, hgg, rest⟩
  · exact .inl hn
  · refine .inr ⟨g, cap, cur, rfl, hB, ?_, rest⟩
    rw [hb.block g (Array.getElem?_eq_some_iff.1 hgg).1]
    exact hgg
theorem RowT.mono {w : World} {B B' : Nat} {v : Value} {l : List Tm} (h : RowT w B v l) (hB : B' ≤ B) : RowT w B' v l := by
  refine ⟨h.1, ?_⟩
  rcases h.2 with hn | ⟨g, cap, cur, rfl, hb, hgg, rest⟩
  · exact .inl hn
  · exact .inr ⟨g, cap, cur, rfl, Nat.le_trans hB hb, hgg, rest⟩
theorem rowT_congr {w : World} {B : Nat} {E : TypeId} {size n m : Nat} {v : Value} {xs ys : List Value} (h : w.ownsRow B E size v n xs) (e : n = m) (e' : xs = ys) : w.ownsRow B E size v m ys := by subst e; subst e'; exact h

theorem RdT.news {w : World} {b off : Nat} {l : List Tm} (h : RdT w (Option.some ⟨b, off, none⟩) l) : ∀ j u, (tmsV l)[j]? = Option.some u → w.cell? ((⟨b, off, none⟩ : Addr).add j) = Option.some u := fun j u hu => by
  have hj : j < l.length * 3 := by
    have := (List.getElem?_eq_some_iff.1 hu).1
    rwa [tmsV_length] at this
  obtain ⟨c0, c1, c2⟩ := h.at (show j / 3 < l.length by omega)
  obtain ⟨v0, v1, v2⟩ := tmsV_get (show j / 3 < l.length by omega)
  have ea : (⟨b, off, none⟩ : Addr).add j = ⟨b, off + j, none⟩ := by unfold Addr.add; split <;> simp [*]
  rw [ea]
  rcases (show j % 3 = 0 ∨ j % 3 = 1 ∨ j % 3 = 2 by omega) with hp | hp | hp
  · have : j = j / 3 * 3 := by omega
    rw [this] at hu ⊢
    rw [v0] at hu
    rw [c0]; exact hu
  · have : j = j / 3 * 3 + 1 := by omega
    rw [this] at hu ⊢
    rw [v1] at hu
    rw [← Nat.add_assoc, c1]; exact hu
  · have : j = j / 3 * 3 + 2 := by omega
    rw [this] at hu ⊢
    rw [v2] at hu
    rw [← Nat.add_assoc, c2]; exact hu
theorem tmsV_one (l : List Tm) : ∀ u ∈ tmsV l, u.oneCell' = true := fun u hu => by
  unfold tmsV at hu
  obtain ⟨p, _, hp⟩ := List.mem_flatMap.1 hu
  simp at hp
  rcases hp with h | h | h <;> subst h <;> rfl

/-- What is appended: nothing, or a row that is read. -/
def ReadsT (w : World) (X : Value) (l : List Tm) : Prop := (X = .slice none 0 0 ∧ l = []) ∨ ∃ b off c, X = .slice (some ⟨b, off, none⟩) l.length c ∧ RdT w (some ⟨b, off, none⟩) l
theorem ReadsT.below {w w' : World} {X : Value} {l : List Tm} (h : ReadsT w X l) (hb : Below w.heap.size w w') : ReadsT w' X l := by
  rcases h with h | ⟨b, off, c, h1, h2⟩
  · exact Or.inl h
  · exact Or.inr ⟨b, off, c, h1, h2.below hb⟩
/-- append at a step of a region that draws its order, whatever is appended. -/
theorem step_appT {w : World} {ops : Array Oper} {o : Oper} {a : Act} {K : Act → World → Prop} {Q : Exit → Act → World → Prop} {E : Prop} (hgd : o.guard = none) (s x : Operand)
    (ho : o.op = .call { callee := .builtin .append, args := #[s, x], argTypes := #[24, 24] })
    (B : Nat) (v X : Value) (l m : List Tm) (hs : a.eval s = v) (hx : a.eval x = X) (hown : RowT w B v l) (hX : ReadsT w X m) (hl : l.length ≤ 100000) (hm : m.length ≤ 100000) (hB : B ≤ w.heap.size)
    (h : ∀ v' w', RowT w' B v' (l ++ m) → Below B w w' → w.grownBy w' v.ownBlock → K (a.put o.dst v') w') :
    if Region.wanted o (yielded ops a.tmps) = true then Oper.wp Tryz.prog o a w K Q else E := by
  have hw : Region.wanted o (yielded ops a.tmps) = true := by simp [Region.wanted, hgd]
  rw [if_pos hw]
  obtain ⟨iP, hiP, hzP, hsP, hbP⟩ := info_parts Tryz.infoT
  rcases hX with ⟨rfl, rfl⟩ | ⟨b, off, c, rfl, hrd⟩
  · have hr := run_append_owned_none (P := Tryz.prog) w B 24 o.type 73 iP 3 Tryz.underlyingT hiP v l.length (tmsV l) hown
    unfold Oper.wp execOp
    simp only [ho, resolve, invoke, builtin, Sem.run_bind, Sem.run_pure, Result.andThen_ok, List.map_toArray, List.map_cons, List.map_nil, hs, hx, hr]
    exact h v w (by rw [List.append_nil]; exact hown) (Below.refl _ _) ⟨rfl, rfl, rfl, Nat.le_refl _, fun _ _ _ => rfl⟩
  · obtain ⟨v', w', hr, h2, h3, _, _⟩ := run_append_own_at (P := Tryz.prog) w B 24 o.type 73 iP _ 3 24 Tryz.underlyingT hiP hzP hsP hbP rfl (by omega) v l.length (tmsV l) hown ⟨b, off, none⟩ m.length c (tmsV m) (tmsV_length m) hrd.news (tmsV_one m) (by unfold maxLen; omega) (by omega) hB
    unfold Oper.wp execOp
    simp only [ho, resolve, invoke, builtin, Sem.run_bind, Sem.run_pure, Result.andThen_ok, List.map_toArray, List.map_cons, List.map_nil, hs, hx, hr]
    exact h v' w' (rowT_congr h2 (by simp) (tmsV_append l m).symm) ((Below.refl _ _).grown h3 hB (fun q e => (hown.lt q e).1)) h3
theorem rowY_new (u : World) (B H : Nat) (hB : B ≤ u.heap.size) (hH : u.heap.size = H) : RowT (u.alloc (.cells #[] 73)) B (.slice (some ⟨H, 0, none⟩) 0 0) [] := by
  subst hH
  exact World.ownsRow_made u #[] 0 hB (by decide) rfl
theorem readsY_one (u : World) (H : Nat) (x y z : Int) (hH : u.heap.size = H) : ReadsT (u.alloc (.cells #[.int .i64 x, .int .i64 y, .int .i64 z] 73)) (.slice (some ⟨H, 0, none⟩) 1 1) [⟨x, y, z⟩] := by
  subst hH
  refine Or.inr ⟨_, _, 1, rfl, fun j hj => ?_⟩
  obtain rfl : j = 0 := by simpa using hj
  exact ⟨_, _, rfl, by simp, by simp [go_sem], by simp [go_sem], by simp [go_sem]⟩
theorem ReadsT.alloc' {w : World} {X : Value} {l : List Tm} {o : Obj} (h : ReadsT w X l) : ReadsT (w.alloc o) X l := h.below ((Below.refl _ _).alloc (Nat.le_refl _) _)
theorem ReadsT.drew' {w : World} {X : Value} {l : List Tm} (h : ReadsT w X l) : ReadsT w.drew X l := h.below (Below.refl _ _).drew
theorem RowT.alloc' {w : World} {B : Nat} {v : Value} {l : List Tm} {o : Obj} (h : RowT w B v l) : RowT (w.alloc o) B v l := h.below ((Below.refl _ _).alloc (Nat.le_refl _) _)
theorem RowT.drew' {w : World} {B : Nat} {v : Value} {l : List Tm} (h : RowT w B v l) : RowT w.drew B v l := h.below (Below.refl _ _).drew
theorem ReadsT.grown {w w' : World} {row : Option Nat} {H : Nat} {x : List Tm} (h : ReadsT w (.slice (some ⟨H, 0, none⟩) 1 1) x) (hg : w.grownBy w' row) (hne : some H ≠ row) : ReadsT w' (.slice (some ⟨H, 0, none⟩) 1 1) x := by
  rcases h with ⟨h, _⟩ | ⟨b, off, c, h1, h2⟩
  · cases h
  · refine Or.inr ⟨b, off, c, h1, fun j hj => ?_⟩
    injection h1 with h1 _ _
    injection h1 with h1
    injection h1 with h1 h1' _
    subst h1; subst h1'
    obtain ⟨b', off', e, hl, c0, c1, c2⟩ := h2 j hj
    cases e
    exact ⟨_, _, rfl, Nat.lt_of_lt_of_le hl hg.size, by rw [World.grownBy.cell_far hg _ hl hne]; exact c0, by rw [World.grownBy.cell_far hg _ hl hne]; exact c1, by rw [World.grownBy.cell_far hg _ hl hne]; exact c2⟩
theorem RdT.takeDrop {w : World} {b off : Nat} {l : List Tm} (h : RdT w (Option.some ⟨b, off, none⟩) l) (k : Nat) : RdT w (Option.some ⟨b, off, none⟩) (l.take k) ∧ RdT w (Option.some ⟨b, off + k * 3, none⟩) (l.drop k) := by
  refine ⟨fun j hj => ?_, fun j hj => ?_⟩
  · have hj' : j < k ∧ j < l.length := by rw [List.length_take] at hj; omega
    obtain ⟨b', off', e, hl, c0, c1, c2⟩ := h j hj'.2
    have e' : (l.take k).getD j default = l.getD j default := by simp [List.getD_eq_getElem?_getD, hj'.1]
    exact ⟨b', off', e, hl, by rw [e']; exact c0, by rw [e']; exact c1, by rw [e']; exact c2⟩
  · have hj' : k + j < l.length := by rw [List.length_drop] at hj; omega
    obtain ⟨b', off', e, hl, c0, c1, c2⟩ := h (k + j) hj'
    have e' : (l.drop k).getD j default = l.getD (k + j) default := by simp [List.getD_eq_getElem?_getD]
    cases e
    exact ⟨b, off + k * 3, rfl, hl, by rw [e', show off + k * 3 + j * 3 = off + (k + j) * 3 by omega]; exact c0, by rw [e', show off + k * 3 + j * 3 + 1 = off + (k + j) * 3 + 1 by omega]; exact c1, by rw [e', show off + k * 3 + j * 3 + 2 = off + (k + j) * 3 + 2 by omega]; exact c2⟩

end Go.Proofs.YtcionneopgdebaaGreat
