/-
  Roots in memory: rows that are read, rows of one's own; append at a step of a region that draws its order.
-/
import Derived.Test.YtfcdmdamniijbaaGreatDoorRtS
import Derived.Maps.AppendAt
import Derived.Laws.OwnMore
namespace Go.Proofs.YtfcdmdamniijbaaGreatDoor
open Go.RowKit

instance : Inhabited Rt := ⟨Rt.z⟩
def rtsV (l : List Rt) : List Value := l.flatMap fun r => [.int .i64 r.f.n, .int .i64 r.f.d, .int .i64 r.t]
theorem rtsV_length (l : List Rt) : (rtsV l).length = l.length * 3 := by
  induction l with
  | nil => rfl
  | cons x l ih => simp [rtsV] at ih ⊢; omega
theorem rtsV_cons (x : Rt) (l : List Rt) : rtsV (x :: l) = .int .i64 x.f.n :: .int .i64 x.f.d :: .int .i64 x.t :: rtsV l := rfl
theorem rtsV_append (l m : List Rt) : rtsV (l ++ m) = rtsV l ++ rtsV m := by simp [rtsV]
theorem rtsV_get : ∀ {l : List Rt} {i : Nat}, i < l.length → (rtsV l)[i * 3]? = some (.int .i64 (l.getD i Rt.z).f.n) ∧ (rtsV l)[i * 3 + 1]? = some (.int .i64 (l.getD i Rt.z).f.d) ∧ (rtsV l)[i * 3 + 2]? = some (.int .i64 (l.getD i Rt.z).t)
  | [], i, h => by simp at h
  | x :: l, 0, _ => by simp [rtsV]
  | x :: l, i + 1, h => by
    have := rtsV_get (l := l) (i := i) (by simpa using h)
    rw [rtsV_cons, show (i + 1) * 3 = i * 3 + 1 + 1 + 1 by omega, show i * 3 + 1 + 1 + 1 + 1 = (i * 3 + 1) + 1 + 1 + 1 by omega, show i * 3 + 1 + 1 + 1 + 2 = (i * 3 + 2) + 1 + 1 + 1 by omega]
    simpa using this
theorem rtsV_one (l : List Rt) : ∀ u ∈ rtsV l, u.oneCell' = true := fun u hu => by
  unfold rtsV at hu
  obtain ⟨p, _, hp⟩ := List.mem_flatMap.1 hu
  simp at hp
  rcases hp with h | h | h <;> subst h <;> rfl
/-- A row of roots that is read. -/
def RdR (w : World) (ad : Option Addr) (l : List Rt) : Prop :=
  ∀ j, j < l.length → ∃ b off, ad = some ⟨b, off, none⟩ ∧ b < w.heap.size ∧ w.cell? ⟨b, off + j * 3, none⟩ = some (.int .i64 (l.getD j Rt.z).f.n) ∧ w.cell? ⟨b, off + j * 3 + 1, none⟩ = some (.int .i64 (l.getD j Rt.z).f.d) ∧ w.cell? ⟨b, off + j * 3 + 2, none⟩ = some (.int .i64 (l.getD j Rt.z).t)
theorem RdR.below {w w' : World} {ad : Option Addr} {l : List Rt} (h : RdR w ad l) (hb : Below w.heap.size w w') : RdR w' ad l := fun j hj => by
  obtain ⟨b', off', e, hl, c0, c1, c2⟩ := h j hj
  exact ⟨b', off', e, Nat.lt_of_lt_of_le hl hb.size, bcell hb hl c0, bcell hb hl c1, bcell hb hl c2⟩
/-! ### The roots of a polynomial -/
def rootsP (p : List Int) : List Rt := rootsR (cof p) (corR (cof p) (finK p p.length))
theorem rootsP_len (p : List Int) : (rootsP p).length = (corP p).length - 1 := by
  unfold rootsP corP corL
  rw [rootsR_len, List.length_reverse]
theorem rootsR_get {c : Nat → Int} : ∀ (st : List Nat) (j : Nat), j + 1 < st.length → (rootsR c st).getD j Rt.z = rootOf c (st.getD (j + 1) 0) (st.getD j 0)
  | [], j, h => by simp at h
  | [a], j, h => by simp at h
  | d :: b :: t, 0, _ => rfl
  | d :: b :: t, j + 1, h => by
    have := rootsR_get (c := c) (b :: t) j (by simpa using h)
    rw [rootsR, List.getD_cons_succ, this]
    simp only [List.getD_cons_succ]
theorem getD_reverse {l : List Nat} {j : Nat} (h : j < l.length) : l.reverse.getD j 0 = l.getD (l.length - 1 - j) 0 := by
  rw [List.getD_eq_getElem?_getD, List.getD_eq_getElem?_getD, List.getElem?_reverse h]
theorem OkR.step {c : Nat → Int} : ∀ {st : List Nat} (_ : OkR c st) (j : Nat), j + 1 < st.length → st.getD (j + 1) 0 < st.getD j 0
  | [], _, j, h => by simp at h
  | [a], _, j, h => by simp at h
  | d :: b :: t, ho, 0, _ => ho.1
  | d :: b :: t, ho, j + 1, h => by
    have := OkR.step (st := b :: t) ho.2.2 j (by simpa using h)
    simp only [List.getD_cons_succ] at this ⊢
    exact this
/-- What is known of the corners of a valid polynomial. -/
theorem cor_facts {p : List Int} (hp : polyB p = true) : 1 ≤ (corP p).length ∧ (corP p).length ≤ 13 ∧ (∀ j, j < (corP p).length → (corP p).getD j 0 < p.length ∧ cof p ((corP p).getD j 0) ≠ 1000000000 ∧ -1000000 ≤ cof p ((corP p).getD j 0) ∧ cof p ((corP p).getD j 0) ≤ 1000000) ∧ ∀ j, j + 1 < (corP p).length → (corP p).getD j 0 < (corP p).getD (j + 1) 0 ∧ (rootsP p).getD ((corP p).length - 2 - j) Rt.z = rootOf (cof p) ((corP p).getD j 0) ((corP p).getD (j + 1) 0) := by
  obtain ⟨⟨h1, h2⟩, h3, h4⟩ := polyB_t hp
  have hinc := finK_inc p p.length
  obtain ⟨ho, hm, hl, hb, _⟩ := cor_all (c := cof p) (finK p p.length) hinc
  have hfl := finK_len p p.length
  have hfne : finK p p.length ≠ [] := by
    obtain ⟨m, hmm⟩ : ∃ m, p.length = m + 1 := ⟨p.length - 1, by omega⟩
    have h5 : cof p m ≠ 1000000000 := by
      have := h4
      rw [show p.length - 1 = m by omega] at this
      exact this
    rw [hmm, finK_hit h5]
    simp
  have hne := (hb hfne).1
  have hlen : (corP p).length = (corR (cof p) (finK p p.length)).length := by unfold corP corL; rw [List.length_reverse]
  have hpos : 0 < (corR (cof p) (finK p p.length)).length := List.length_pos_iff.2 hne
  refine ⟨by omega, by omega, fun j hj => ?_, fun j hj => ?_⟩
  · have hmem : (corP p).getD j 0 ∈ corP p := by rw [List.getD_eq_getElem?_getD, List.getElem?_eq_getElem hj]; exact List.getElem_mem hj
    have hmf := finK_mem (corL_mem hinc _ hmem)
    exact ⟨hmf.1, hmf.2, numB_fin (h3 _ hmf.1) hmf.2⟩
  · unfold corP corL rootsP
    rw [hlen] at hj
    rw [List.length_reverse, getD_reverse (by omega), getD_reverse (by omega)]
    generalize corR (cof p) (finK p p.length) = st at *
    have e1 : st.length - 1 - j = (st.length - 2 - j) + 1 := by omega
    have e2 : st.length - 1 - (j + 1) = st.length - 2 - j := by omega
    rw [e2, rootsR_get st _ (by omega), e1]
    exact ⟨ho.step _ (by omega), rfl⟩

end Go.Proofs.YtfcdmdamniijbaaGreatDoor
