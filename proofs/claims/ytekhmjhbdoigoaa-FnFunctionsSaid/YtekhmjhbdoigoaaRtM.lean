/-
  Roots in memory: rows that are read, rows of one's own; append at a step of a region that draws its order.
-/
import Derived.Test.YtekhmjhbdoigoaaRtS
import Derived.Maps.AppendAt
import Derived.Laws.OwnMore
namespace Go.Proofs.Ytekhmjhbdoigoaa
open Go.RowKit

instance : Inhabited Rt := ⟨Rt.z⟩
theorem Try.infoR : (Try.prog.info? 70).map (fun i => (i.zero, i.size, i.bytes)) = some (some (.agg #[.int .i64 0, .int .i64 0, .int .i64 0]), 3, 24) := by kernel_rfl
def rtsV (l : List Rt) : List Value := l.flatMap fun r => [.int .i64 r.f.n, .int .i64 r.f.d, .int .i64 r.t]
theorem rtsV_length (l : List Rt) : (rtsV l).length = l.length * 3 := by
  induction l with
  | nil => rfl
  | cons x l ih => simp [rtsV] at ih ⊢; omega
theorem rtsV_cons (x : Rt) (l : List Rt) : rtsV (x :: l) = .int .i64 x.f.n :: .int .i64 x.f.d :: .int .i64 x.t :: rtsV l := rfl
theorem rtsV_append (l m : List Rt) : rtsV (l ++ m) = rtsV l ++ rtsV m := by simp [rtsV]
theorem rtsV_get : ∀ {l : List Rt} {i : Nat}, i < l.length → (rtsV l)[i * 3]? = some (.int .i64 (l.getD i Rt.z).f.n) ∧ (rtsV l)[i * 3 + 1]? = some (.int .i64 (l.getD i Rt.z).f.d) ∧ (rtsV l)[i * 3 + 2]? = some (.int .i64 (l.getD i Rt.z).t)
  | [], i, h => by simp at h
  | x :: l, 0, _ => by simp [rtsV]
  | x :: l, i + 1, h => by
    have := rtsV_get (l := l) (i := i) (by simpa using h)
    rw [rtsV_cons, show (i + 1) * 3 = i * 3 + 1 + 1 + 1 by omega, show i * 3 + 1 + 1 + 1 + 1 = (i * 3 + 1) + 1 + 1 + 1 by omega, show i * 3 + 1 + 1 + 1 + 2 = (i * 3 + 2) + 1 + 1 + 1 by omega]
    simpa using this
theorem rtsV_one (l : List Rt) : ∀ u ∈ rtsV l, u.oneCell' = true := fun u hu => by
  unfold rtsV at hu
  obtain ⟨p, _, hp⟩ := List.mem_flatMap.1 hu
  simp at hp
  rcases hp with h | h | h <;> subst h <;> rfl
/-- A row of roots that is read. -/
def RdR (w : World) (ad : Option Addr) (l : List Rt) : Prop :=
  ∀ j, j < l.length → ∃ b off, ad = some ⟨b, off, none⟩ ∧ b < w.heap.size ∧ w.cell? ⟨b, off + j * 3, none⟩ = some (.int .i64 (l.getD j Rt.z).f.n) ∧ w.cell? ⟨b, off + j * 3 + 1, none⟩ = some (.int .i64 (l.getD j Rt.z).f.d) ∧ w.cell? ⟨b, off + j * 3 + 2, none⟩ = some (.int .i64 (l.getD j Rt.z).t)
theorem RdR.below {w w' : World} {ad : Option Addr} {l : List Rt} (h : RdR w ad l) (hb : Below w.heap.size w w') : RdR w' ad l := fun j hj => by
  obtain ⟨b', off', e, hl, c0, c1, c2⟩ := h j hj
  exact ⟨b', off', e, Nat.lt_of_lt_of_le hl hb.size, bcell hb hl c0, bcell hb hl c1, bcell hb hl c2⟩
/-- A row of roots of one's own. -/
def RowR (w : World) (B : Nat) (v : Value) (l : List Rt) : Prop := w.ownsRow B 70 3 v l.length (rtsV l)
theorem RowR.nil (w : World) (B : Nat) : RowR w B (.slice none 0 0) [] := ⟨rfl, Or.inl ⟨rfl, rfl⟩⟩
theorem rowR_empty (w : World) : RowR (w.alloc (.cells #[] 70)) w.heap.size (.slice (some ⟨w.heap.size, 0, none⟩) 0 0) [] :=
  World.ownsRow_made w #[] 0 (Nat.le_refl _) (by decide) rfl
theorem RowR.shape {w : World} {B : Nat} {v : Value} {l : List Rt} (h : RowR w B v l) : ∃ ad cap, v = .slice ad l.length cap ∧ l.length ≤ cap ∧ cap ≤ maxLen := by
  rcases h.2 with ⟨e, e2⟩ | ⟨g, cap, cur, e, _, _, h1, h2, _⟩
  · exact ⟨none, 0, by rw [e, e2], by omega, by unfold maxLen; omega⟩
  · exact ⟨_, cap, e, h1, h2⟩
theorem RowR.rd {w : World} {B : Nat} {ad : Option Addr} {n cap : Nat} {l : List Rt} (h : RowR w B (.slice ad n cap) l) : RdR w ad l := fun j hj => by
  rcases h.2 with ⟨e, e2⟩ | ⟨g, cap', cur, e, hb, hg, h1, h2, h3, h4⟩
  · omega
  · injection e with e1 _ _
    subst e1
    obtain ⟨c0, c1, c2⟩ := rtsV_get hj
    have hc : ∀ i, i < l.length * 3 → w.cell? ⟨g, 0 + i, none⟩ = (rtsV l)[i]? := fun i hi => by
      rw [← h4, List.getElem?_take_of_lt hi]
      simp [World.cell?, hg]
    exact ⟨g, 0, rfl, (Array.getElem?_eq_some_iff.1 hg).1, by rw [hc _ (by omega), c0], by rw [show (0 + j * 3 + 1 : Nat) = 0 + (j * 3 + 1) by omega, hc _ (by omega), c1], by rw [show (0 + j * 3 + 2 : Nat) = 0 + (j * 3 + 2) by omega, hc _ (by omega), c2]⟩
theorem RowR.below {w w' : World} {B : Nat} {v : Value} {l : List Rt} (h : RowR w B v l) (hb : Below w.heap.size w w') : RowR w' B v l := by
  refine ⟨h.1, ?_⟩
  rcases h.2 with hn | ⟨g, cap, cur, rfl, hB, hgg, rest⟩
  · exact .inl hn
  · refine .inr ⟨g, cap, cur, rfl, hB, ?_, rest⟩
    rw [hb.block g (Array.getElem?_eq_some_iff.1 hgg).1]
    exact hgg
theorem RowR.mono {w : World} {B B' : Nat} {v : Value} {l : List Rt} (h : RowR w B v l) (hB : B' ≤ B) : RowR w B' v l := by
  refine ⟨h.1, ?_⟩
  rcases h.2 with hn | ⟨g, cap, cur, rfl, hb, hgg, rest⟩
  · exact .inl hn
  · exact .inr ⟨g, cap, cur, rfl, Nat.le_trans hB hb, hgg, rest⟩
theorem RowR.alloc' {w : World} {B : Nat} {v : Value} {l : List Rt} {o : Obj} (h : RowR w B v l) : RowR (w.alloc o) B v l := h.below ((Below.refl _ _).alloc (Nat.le_refl _) _)
theorem RowR.drew' {w : World} {B : Nat} {v : Value} {l : List Rt} (h : RowR w B v l) : RowR w.drew B v l := h.below (Below.refl _ _).drew

/-! ### The roots of a polynomial -/
def rootsP (p : List Int) : List Rt := rootsR (cof p) (corR (cof p) (finK p p.length))
theorem rootsP_len (p : List Int) : (rootsP p).length = (corP p).length - 1 := by
  unfold rootsP corP corL
  rw [rootsR_len, List.length_reverse]
theorem rootsR_get {c : Nat → Int} : ∀ (st : List Nat) (j : Nat), j + 1 < st.length → (rootsR c st).getD j Rt.z = rootOf c (st.getD (j + 1) 0) (st.getD j 0)
  | [], j, h => by simp at h
  | [a], j, h => by simp at h
  | d :: b :: t, 0, _ => rfl
  | d :: b :: t, j + 1, h => by
    have := rootsR_get (c := c) (b :: t) j (by simpa using h)
    rw [rootsR, List.getD_cons_succ, this]
    simp only [List.getD_cons_succ]
theorem getD_reverse {l : List Nat} {j : Nat} (h : j < l.length) : l.reverse.getD j 0 = l.getD (l.length - 1 - j) 0 := by
  rw [List.getD_eq_getElem?_getD, List.getD_eq_getElem?_getD, List.getElem?_reverse h]
theorem OkR.step {c : Nat → Int} : ∀ {st : List Nat} (_ : OkR c st) (j : Nat), j + 1 < st.length → st.getD (j + 1) 0 < st.getD j 0
  | [], _, j, h => by simp at h
  | [a], _, j, h => by simp at h
  | d :: b :: t, ho, 0, _ => ho.1
  | d :: b :: t, ho, j + 1, h => by
    have := OkR.step (st := b :: t) ho.2.2 j (by simpa using h)
    simp only [List.getD_cons_succ] at this ⊢
    exact this
/-- What is known of the corners of a valid polynomial. -/
theorem cor_facts {p : List Int} (hp : polyB p = true) : 1 ≤ (corP p).length ∧ (corP p).length ≤ 13 ∧ (∀ j, j < (corP p).length → (corP p).getD j 0 < p.length ∧ cof p ((corP p).getD j 0) ≠ 1000000000 ∧ -1000000 ≤ cof p ((corP p).getD j 0) ∧ cof p ((corP p).getD j 0) ≤ 1000000) ∧ ∀ j, j + 1 < (corP p).length → (corP p).getD j 0 < (corP p).getD (j + 1) 0 ∧ (rootsP p).getD ((corP p).length - 2 - j) Rt.z = rootOf (cof p) ((corP p).getD j 0) ((corP p).getD (j + 1) 0) := by
  obtain ⟨⟨h1, h2⟩, h3, h4⟩ := polyB_t hp
  have hinc := finK_inc p p.length
  obtain ⟨ho, hm, hl, hb, _⟩ := cor_all (c := cof p) (finK p p.length) hinc
  have hfl := finK_len p p.length
  have hfne : finK p p.length ≠ [] := by
    obtain ⟨m, hmm⟩ : ∃ m, p.length = m + 1 := ⟨p.length - 1, by omega⟩
    have h5 : cof p m ≠ 1000000000 := by
      have := h4
      rw [show p.length - 1 = m by omega] at this
      exact this
    rw [hmm, finK_hit h5]
    simp
  have hne := (hb hfne).1
  have hlen : (corP p).length = (corR (cof p) (finK p p.length)).length := by unfold corP corL; rw [List.length_reverse]
  have hpos : 0 < (corR (cof p) (finK p p.length)).length := List.length_pos_iff.2 hne
  refine ⟨by omega, by omega, fun j hj => ?_, fun j hj => ?_⟩
  · have hmem : (corP p).getD j 0 ∈ corP p := by rw [List.getD_eq_getElem?_getD, List.getElem?_eq_getElem hj]; exact List.getElem_mem hj
    have hmf := finK_mem (corL_mem hinc _ hmem)
    exact ⟨hmf.1, hmf.2, numB_fin (h3 _ hmf.1) hmf.2⟩
  · unfold corP corL rootsP
    rw [hlen] at hj
    rw [List.length_reverse, getD_reverse (by omega), getD_reverse (by omega)]
    generalize corR (cof p) (finK p p.length) = st at *
    have e1 : st.length - 1 - j = (st.length - 2 - j) + 1 := by omega
    have e2 : st.length - 1 - (j + 1) = st.length - 2 - j := by omega
    rw [e2, rootsR_get st _ (by omega), e1]
    exact ⟨ho.step _ (by omega), rfl⟩

/-- What is appended: one root. -/
theorem news_root (w : World) (H : Nat) (x y t : Int) (hH : w.heap.size = H) : ∀ j u, (rtsV [⟨⟨x, y⟩, t⟩])[j]? = Option.some u → (w.alloc (.cells #[.int .i64 x, .int .i64 y, .int .i64 t] 70)).cell? ((⟨H, 0, none⟩ : Addr).add j) = Option.some u := fun j u hu => by
  subst hH
  have hj : j < 3 := by
    have := (List.getElem?_eq_some_iff.1 hu).1
    simpa [rtsV_length] using this
  have h3 : j = 0 ∨ j = 1 ∨ j = 2 := by omega
  rcases h3 with rfl | rfl | rfl <;> (simp [rtsV] at hu; subst hu; simp [go_sem, Addr.add])
/-- append of one root at a step of a region that draws its order. -/
theorem step_appR {w : World} {ops : Array Oper} {o : Oper} {a : Act} {K : Act → World → Prop} {Q : Exit → Act → World → Prop} {E : Prop} (hgd : o.guard = none) (s x : Operand)
    (ho : o.op = .call { callee := .builtin .append, args := #[s, x], argTypes := #[67, 67] })
    (B : Nat) (v X : Value) (l : List Rt) (r : Rt) (H : Nat) (hs : a.eval s = v) (hx : a.eval x = X) (hX : X = .slice (some ⟨H, 0, none⟩) 1 1) (hown : RowR w B v l) (hnew : ∀ j u, (rtsV [r])[j]? = Option.some u → w.cell? ((⟨H, 0, none⟩ : Addr).add j) = Option.some u) (hl : l.length ≤ 100000) (hB : B ≤ w.heap.size)
    (h : ∀ v' w', RowR w' B v' (l ++ [r]) → Below B w w' → w.grownBy w' v.ownBlock → K (a.put o.dst v') w') :
    if Region.wanted o (yielded ops a.tmps) = true then Oper.wp Try.prog o a w K Q else E := by
  have hw : Region.wanted o (yielded ops a.tmps) = true := by simp [Region.wanted, hgd]
  rw [if_pos hw]
  subst hX
  obtain ⟨iP, hiP, hzP, hsP, hbP⟩ := info_parts Try.infoR
  obtain ⟨v', w', hr, h2, h3, _, _⟩ := run_append_own_at (P := Try.prog) w B 67 o.type 70 iP _ 3 24 Try.underlying67 hiP hzP hsP hbP rfl (by omega) v l.length (rtsV l) hown ⟨H, 0, none⟩ 1 1 (rtsV [r]) (rtsV_length [r]) hnew (rtsV_one [r]) (by unfold maxLen; omega) (by omega) hB
  unfold Oper.wp execOp
  simp only [ho, resolve, invoke, builtin, Sem.run_bind, Sem.run_pure, Result.andThen_ok, List.map_toArray, List.map_cons, List.map_nil, hs, hx, hr]
  exact h v' w' (row_congr h2 (by simp) (rtsV_append l [r]).symm) ((Below.refl _ _).grown h3 hB (fun q e => (hown.lt q e).1)) h3

end Go.Proofs.Ytekhmjhbdoigoaa
