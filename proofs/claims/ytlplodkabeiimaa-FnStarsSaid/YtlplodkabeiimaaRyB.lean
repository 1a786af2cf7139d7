/-
  Rays in memory: rows that are read, rows of one's own; append of rays. By an AI agent.
-/
import Derived.Test.YtlplodkabeiimaaRayB
import Derived.Deep.AppendLies
import Derived.Maps.AppendAt
import Derived.Laws.OwnMore
namespace Go.Proofs.Ytlplodkabeiimaa
open Go.RowKit

theorem Try.infoY : (Try.prog.info? 35).map (fun i => (i.zero, i.size, i.bytes)) = some (some (.agg #[.int .i64 0, .int .i64 0, .int .i64 0]), 3, 24) := by kernel_rfl
theorem Try.underlyingY : Try.prog.underlying 24 = some (.slice 35) := by kernel_rfl

def rysV (l : List Ry) : List Value := l.flatMap fun p => [.int .i64 p.x, .int .i64 p.y, .int .i64 p.w]
theorem rysV_length (l : List Ry) : (rysV l).length = l.length * 3 := by
  induction l with
  | nil => rfl
  | cons x l ih => simp [rysV] at ih ⊢; omega
theorem rysV_cons (x : Ry) (l : List Ry) : rysV (x :: l) = .int .i64 x.x :: .int .i64 x.y :: .int .i64 x.w :: rysV l := rfl
theorem rysV_append (l m : List Ry) : rysV (l ++ m) = rysV l ++ rysV m := by simp [rysV]
theorem rysV_snoc (l : List Ry) (x : Ry) : rysV (l ++ [x]) = rysV l ++ [.int .i64 x.x, .int .i64 x.y, .int .i64 x.w] := by simp [rysV]
theorem rysV_get : ∀ {l : List Ry} {i : Nat}, i < l.length → (rysV l)[i * 3]? = some (.int .i64 (l.getD i default).x) ∧ (rysV l)[i * 3 + 1]? = some (.int .i64 (l.getD i default).y) ∧ (rysV l)[i * 3 + 2]? = some (.int .i64 (l.getD i default).w)
  | [], i, h => by simp at h
  | x :: l, 0, _ => by simp [rysV]
  | x :: l, i + 1, h => by
    have := rysV_get (l := l) (i := i) (by simpa using h)
    rw [rysV_cons, show (i + 1) * 3 = i * 3 + 1 + 1 + 1 by omega]
    simpa using this
theorem rysV_take (l : List Ry) (n : Nat) : (rysV l).take (n * 3) = rysV (l.take n) := by
  induction n generalizing l with
  | zero => simp [rysV]
  | succ n ih =>
    cases l with
    | nil => simp [rysV]
    | cons x l =>
      rw [rysV_cons, show (n + 1) * 3 = n * 3 + 1 + 1 + 1 by omega, List.take_succ_cons, List.take_succ_cons, List.take_succ_cons, ih, List.take_succ_cons, rysV_cons]

/-- A row of rays that is read. -/
def RdY (w : World) (ad : Option Addr) (l : List Ry) : Prop :=
  ∀ j, j < l.length → ∃ b off, ad = some ⟨b, off, none⟩ ∧ b < w.heap.size ∧ w.cell? ⟨b, off + j * 3, none⟩ = some (.int .i64 (l.getD j default).x) ∧ w.cell? ⟨b, off + j * 3 + 1, none⟩ = some (.int .i64 (l.getD j default).y) ∧ w.cell? ⟨b, off + j * 3 + 2, none⟩ = some (.int .i64 (l.getD j default).w)
theorem RdY.nil (w : World) (ad : Option Addr) : RdY w ad [] := fun _ h => by simp at h
theorem RdY.below {w w' : World} {ad : Option Addr} {l : List Ry} (h : RdY w ad l) (hb : Below w.heap.size w w') : RdY w' ad l := fun j hj => by
  obtain ⟨b', off', e, hl, c0, c1, c2⟩ := h j hj
  exact ⟨b', off', e, Nat.lt_of_lt_of_le hl hb.size, bcell hb hl c0, bcell hb hl c1, bcell hb hl c2⟩
theorem RdY.some {w : World} {ad : Option Addr} {l : List Ry} (h : RdY w ad l) (h0 : 0 < l.length) : ∃ b off, ad = Option.some ⟨b, off, none⟩ ∧ b < w.heap.size := by
  obtain ⟨b, off, e, hl, _⟩ := h 0 h0
  exact ⟨b, off, e, hl⟩
theorem RdY.at {w : World} {b off : Nat} {l : List Ry} (h : RdY w (Option.some ⟨b, off, none⟩) l) {j : Nat} (hj : j < l.length) : w.cell? ⟨b, off + j * 3, none⟩ = Option.some (.int .i64 (l.getD j default).x) ∧ w.cell? ⟨b, off + j * 3 + 1, none⟩ = Option.some (.int .i64 (l.getD j default).y) ∧ w.cell? ⟨b, off + j * 3 + 2, none⟩ = Option.some (.int .i64 (l.getD j default).w) := by
  obtain ⟨b', off', e, hl, c0, c1, c2⟩ := h j hj
  cases e
  exact ⟨c0, c1, c2⟩
theorem getD_toArrayY (l : List Ry) (i : Nat) : l.toArray[i]! = l.getD i default := by simp [List.getD_eq_getElem?_getD]
theorem RaySort.PH.rd {w : World} {blk off : Nat} {d : Array Ry} (h : RaySort.PH w blk off d) : RdY w (Option.some ⟨blk, off, none⟩) d.toList := fun j hj => by
  have hj' : j < d.size := by simpa using hj
  obtain ⟨h1, h2, h3, _⟩ := h j hj'
  have e : d[j]! = d.toList.getD j default := by rw [← getD_toArrayY]
  rw [e] at h1 h2 h3
  exact ⟨blk, off, rfl, h.lt (by omega), h1, h2, h3⟩

/-- A row of rays of one's own. -/
def RowY (w : World) (B : Nat) (v : Value) (l : List Ry) : Prop := w.ownsRow B 35 3 v l.length (rysV l)
theorem RowY.nil (w : World) (B : Nat) : RowY w B (.slice none 0 0) [] := ⟨rfl, Or.inl ⟨rfl, rfl⟩⟩
theorem RowY.shape {w : World} {B : Nat} {v : Value} {l : List Ry} (h : RowY w B v l) : ∃ ad cap, v = .slice ad l.length cap ∧ l.length ≤ cap ∧ cap ≤ maxLen := by
  rcases h.2 with ⟨e, e2⟩ | ⟨g, cap, cur, e, _, _, h1, h2, _⟩
  · exact ⟨none, 0, by rw [e, e2], by omega, by unfold maxLen; omega⟩
  · exact ⟨_, cap, e, h1, h2⟩
theorem RowY.rd {w : World} {B : Nat} {ad : Option Addr} {n cap : Nat} {l : List Ry} (h : RowY w B (.slice ad n cap) l) : RdY w ad l := fun j hj => by
  rcases h.2 with ⟨e, e2⟩ | ⟨g, cap', cur, e, hb, hg, h1, h2, h3, h4⟩
  · omega
  · injection e with e1 _ _
    subst e1
    obtain ⟨c0, c1, c2⟩ := rysV_get hj
    have hc : ∀ i, i < l.length * 3 → w.cell? ⟨g, 0 + i, none⟩ = (rysV l)[i]? := fun i hi => by
      rw [← h4, List.getElem?_take_of_lt hi]
      simp [World.cell?, hg]
    exact ⟨g, 0, rfl, (Array.getElem?_eq_some_iff.1 hg).1, by rw [hc _ (by omega), c0], by rw [show (0 + j * 3 + 1 : Nat) = 0 + (j * 3 + 1) by omega, hc _ (by omega), c1], by rw [show (0 + j * 3 + 2 : Nat) = 0 + (j * 3 + 2) by omega, hc _ (by omega), c2]⟩
theorem RowY.below {w w' : World} {B : Nat} {v : Value} {l : List Ry} (h : RowY w B v l) (hb : Below w.heap.size w w') : RowY w' B v l := by
  refine ⟨h.1, ?_⟩
  rcases h.2 with hn | ⟨g, cap, cur, rfl, hB, hgg, rest⟩
  · exact .inl hn
  · refine .inr ⟨g, cap, cur, rfl, hB, ?_, rest⟩
    rw [hb.block g (Array.getElem?_eq_some_iff.1 hgg).1]
    exact hgg
theorem RowY.mono {w : World} {B B' : Nat} {v : Value} {l : List Ry} (h : RowY w B v l) (hB : B' ≤ B) : RowY w B' v l := by
  refine ⟨h.1, ?_⟩
  rcases h.2 with hn | ⟨g, cap, cur, rfl, hb, hgg, rest⟩
  · exact .inl hn
  · exact .inr ⟨g, cap, cur, rfl, Nat.le_trans hB hb, hgg, rest⟩
/-- A row of one's own as the sort wants it. -/
theorem RowY.ph {w : World} {B g n cap : Nat} {l : List Ry} (h : RowY w B (.slice (some ⟨g, 0, none⟩) n cap) l) (hbd : ∀ p ∈ l, RaySort.Bd p) : RaySort.PH w g 0 l.toArray := fun t ht => by
  have ht' : t < l.length := by simpa using ht
  obtain ⟨c0, c1, c2⟩ := h.rd.at ht'
  rcases h.2 with ⟨e, e2⟩ | ⟨g', cap', cur, e, hb, hg, _⟩
  · cases e
  · injection e with e1 _ _
    injection e1 with e1
    injection e1 with e1
    subst e1
    rw [getD_toArrayY]
    refine ⟨c0, c1, c2, by simp [World.frozen?, hg], by simp [World.frozen?, hg], by simp [World.frozen?, hg], ?_⟩
    rw [List.getD_eq_getElem?_getD, List.getElem?_eq_getElem ht', Option.getD_some]
    exact hbd _ (List.getElem_mem _)

theorem appY_below {B : Nat} {u wr w2 : World} {E : TypeId} {size n : Nat} {v : Value} {xs : List Value} {o : Obj} (hb : Below B u wr) (hB : B ≤ wr.heap.size) (ho : wr.ownsRow B E size v n xs) (hg : (wr.alloc o).grownBy w2 v.ownBlock) : Below B u w2 :=
  (hb.alloc hB o).grown hg (by simp; omega) (fun q e => (ho.lt q e).1)
theorem rowY_congr {w : World} {B : Nat} {E : TypeId} {size n m : Nat} {v : Value} {xs ys : List Value} (h : w.ownsRow B E size v n xs) (e : n = m) (e' : xs = ys) : w.ownsRow B E size v m ys := by subst e; subst e'; exact h

theorem RdY.news {w : World} {b off : Nat} {l : List Ry} (h : RdY w (Option.some ⟨b, off, none⟩) l) : ∀ j u, (rysV l)[j]? = Option.some u → w.cell? ((⟨b, off, none⟩ : Addr).add j) = Option.some u := fun j u hu => by
  have hj : j < l.length * 3 := by
    have := (List.getElem?_eq_some_iff.1 hu).1
    rwa [rysV_length] at this
  obtain ⟨c0, c1, c2⟩ := h.at (show j / 3 < l.length by omega)
  obtain ⟨v0, v1, v2⟩ := rysV_get (show j / 3 < l.length by omega)
  have ea : (⟨b, off, none⟩ : Addr).add j = ⟨b, off + j, none⟩ := by unfold Addr.add; split <;> simp [*]
  rw [ea]
  rcases (show j % 3 = 0 ∨ j % 3 = 1 ∨ j % 3 = 2 by omega) with hp | hp | hp
  · have : j = j / 3 * 3 := by omega
    rw [this] at hu ⊢
    rw [v0] at hu
    rw [c0]; exact hu
  · have : j = j / 3 * 3 + 1 := by omega
    rw [this] at hu ⊢
    rw [v1] at hu
    rw [← Nat.add_assoc, c1]; exact hu
  · have : j = j / 3 * 3 + 2 := by omega
    rw [this] at hu ⊢
    rw [v2] at hu
    rw [← Nat.add_assoc, c2]; exact hu
theorem rysV_one (l : List Ry) : ∀ u ∈ rysV l, u.oneCell' = true := fun u hu => by
  unfold rysV at hu
  obtain ⟨p, _, hp⟩ := List.mem_flatMap.1 hu
  simp at hp
  rcases hp with h | h | h <;> subst h <;> rfl

/-- What is appended: nothing, or a row that is read. -/
def ReadsY (w : World) (X : Value) (l : List Ry) : Prop := (X = .slice none 0 0 ∧ l = []) ∨ ∃ b off c, X = .slice (some ⟨b, off, none⟩) l.length c ∧ RdY w (some ⟨b, off, none⟩) l
theorem ReadsY.below {w w' : World} {X : Value} {l : List Ry} (h : ReadsY w X l) (hb : Below w.heap.size w w') : ReadsY w' X l := by
  rcases h with h | ⟨b, off, c, h1, h2⟩
  · exact Or.inl h
  · exact Or.inr ⟨b, off, c, h1, h2.below hb⟩
/-- append at a step of a region that draws its order, whatever is appended. -/
theorem step_appY {w : World} {ops : Array Oper} {o : Oper} {a : Act} {K : Act → World → Prop} {Q : Exit → Act → World → Prop} {E : Prop} (hgd : o.guard = none) (s x : Operand)
    (ho : o.op = .call { callee := .builtin .append, args := #[s, x], argTypes := #[24, 24] })
    (B : Nat) (v X : Value) (l m : List Ry) (hs : a.eval s = v) (hx : a.eval x = X) (hown : RowY w B v l) (hX : ReadsY w X m) (hl : l.length ≤ 100000) (hm : m.length ≤ 100000) (hB : B ≤ w.heap.size)
    (h : ∀ v' w', RowY w' B v' (l ++ m) → Below B w w' → w.grownBy w' v.ownBlock → K (a.put o.dst v') w') :
    if Region.wanted o (yielded ops a.tmps) = true then Oper.wp Try.prog o a w K Q else E := by
  have hw : Region.wanted o (yielded ops a.tmps) = true := by simp [Region.wanted, hgd]
  rw [if_pos hw]
  obtain ⟨iP, hiP, hzP, hsP, hbP⟩ := info_parts Try.infoY
  rcases hX with ⟨rfl, rfl⟩ | ⟨b, off, c, rfl, hrd⟩
  · have hr := run_append_owned_none (P := Try.prog) w B 24 o.type 35 iP 3 Try.underlyingY hiP v l.length (rysV l) hown
    unfold Oper.wp execOp
    simp only [ho, resolve, invoke, builtin, Sem.run_bind, Sem.run_pure, Result.andThen_ok, List.map_toArray, List.map_cons, List.map_nil, hs, hx, hr]
    exact h v w (by rw [List.append_nil]; exact hown) (Below.refl _ _) ⟨rfl, rfl, rfl, Nat.le_refl _, fun _ _ _ => rfl⟩
  · obtain ⟨v', w', hr, h2, h3, _, _⟩ := run_append_own_at (P := Try.prog) w B 24 o.type 35 iP _ 3 24 Try.underlyingY hiP hzP hsP hbP rfl (by omega) v l.length (rysV l) hown ⟨b, off, none⟩ m.length c (rysV m) (rysV_length m) hrd.news (rysV_one m) (by unfold maxLen; omega) (by omega) hB
    unfold Oper.wp execOp
    simp only [ho, resolve, invoke, builtin, Sem.run_bind, Sem.run_pure, Result.andThen_ok, List.map_toArray, List.map_cons, List.map_nil, hs, hx, hr]
    exact h v' w' (rowY_congr h2 (by simp) (rysV_append l m).symm) ((Below.refl _ _).grown h3 hB (fun q e => (hown.lt q e).1)) h3
theorem rowY_new (u : World) (B H : Nat) (hB : B ≤ u.heap.size) (hH : u.heap.size = H) : RowY (u.alloc (.cells #[] 35)) B (.slice (some ⟨H, 0, none⟩) 0 0) [] := by
  subst hH
  exact World.ownsRow_made u #[] 0 hB (by decide) rfl
theorem readsY_one (u : World) (H : Nat) (x y z : Int) (hH : u.heap.size = H) : ReadsY (u.alloc (.cells #[.int .i64 x, .int .i64 y, .int .i64 z] 35)) (.slice (some ⟨H, 0, none⟩) 1 1) [⟨x, y, z⟩] := by
  subst hH
  refine Or.inr ⟨_, _, 1, rfl, fun j hj => ?_⟩
  obtain rfl : j = 0 := by simpa using hj
  exact ⟨_, _, rfl, by simp, by simp [go_sem], by simp [go_sem], by simp [go_sem]⟩
theorem readsY_nil (w : World) : ReadsY w (.slice none 0 0) [] := Or.inl ⟨rfl, rfl⟩
theorem ReadsY.alloc' {w : World} {X : Value} {l : List Ry} {o : Obj} (h : ReadsY w X l) : ReadsY (w.alloc o) X l := h.below ((Below.refl _ _).alloc (Nat.le_refl _) _)
theorem ReadsY.drew' {w : World} {X : Value} {l : List Ry} (h : ReadsY w X l) : ReadsY w.drew X l := h.below (Below.refl _ _).drew
theorem RowY.alloc' {w : World} {B : Nat} {v : Value} {l : List Ry} {o : Obj} (h : RowY w B v l) : RowY (w.alloc o) B v l := h.below ((Below.refl _ _).alloc (Nat.le_refl _) _)
theorem RowY.drew' {w : World} {B : Nat} {v : Value} {l : List Ry} (h : RowY w B v l) : RowY w.drew B v l := h.below (Below.refl _ _).drew
theorem ReadsY.grown {w w' : World} {row : Option Nat} {H : Nat} {x : List Ry} (h : ReadsY w (.slice (some ⟨H, 0, none⟩) 1 1) x) (hg : w.grownBy w' row) (hne : some H ≠ row) : ReadsY w' (.slice (some ⟨H, 0, none⟩) 1 1) x := by
  rcases h with ⟨h, _⟩ | ⟨b, off, c, h1, h2⟩
  · cases h
  · refine Or.inr ⟨b, off, c, h1, fun j hj => ?_⟩
    injection h1 with h1 _ _
    injection h1 with h1
    injection h1 with h1 h1' _
    subst h1; subst h1'
    obtain ⟨b', off', e, hl, c0, c1, c2⟩ := h2 j hj
    cases e
    exact ⟨_, _, rfl, Nat.lt_of_lt_of_le hl hg.size, by rw [World.grownBy.cell_far hg _ hl hne]; exact c0, by rw [World.grownBy.cell_far hg _ hl hne]; exact c1, by rw [World.grownBy.cell_far hg _ hl hne]; exact c2⟩
theorem RdY.takeDrop {w : World} {b off : Nat} {l : List Ry} (h : RdY w (Option.some ⟨b, off, none⟩) l) (k : Nat) : RdY w (Option.some ⟨b, off, none⟩) (l.take k) ∧ RdY w (Option.some ⟨b, off + k * 3, none⟩) (l.drop k) := by
  refine ⟨fun j hj => ?_, fun j hj => ?_⟩
  · have hj' : j < k ∧ j < l.length := by rw [List.length_take] at hj; omega
    obtain ⟨b', off', e, hl, c0, c1, c2⟩ := h j hj'.2
    have e' : (l.take k).getD j default = l.getD j default := by simp [List.getD_eq_getElem?_getD, hj'.1]
    exact ⟨b', off', e, hl, by rw [e']; exact c0, by rw [e']; exact c1, by rw [e']; exact c2⟩
  · have hj' : k + j < l.length := by rw [List.length_drop] at hj; omega
    obtain ⟨b', off', e, hl, c0, c1, c2⟩ := h (k + j) hj'
    have e' : (l.drop k).getD j default = l.getD (k + j) default := by simp [List.getD_eq_getElem?_getD]
    cases e
    exact ⟨b, off + k * 3, rfl, hl, by rw [e', show off + k * 3 + j * 3 = off + (k + j) * 3 by omega]; exact c0, by rw [e', show off + k * 3 + j * 3 + 1 = off + (k + j) * 3 + 1 by omega]; exact c1, by rw [e', show off + k * 3 + j * 3 + 2 = off + (k + j) * 3 + 2 by omega]; exact c2⟩

end Go.Proofs.Ytlplodkabeiimaa
