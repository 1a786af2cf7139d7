/-
  The plain law of the roots: strictly increasing, their times are the steps of the corners. By an AI agent.
-/
import Derived.Test.YtekhmjhbdoigoaaRtU
import Derived.Test.YtekhmjhbdoigoaaRtT
import Derived.Test.YtekhmjhbdoigoaaRtX
namespace Go.Proofs.Ytekhmjhbdoigoaa
open Go.RowKit

theorem ok_tri {c : Nat → Int} : ∀ {st : List Nat} (_ : OkR c st) (j : Nat), j + 2 < st.length →
    (c (st.getD (j + 1) 0) - c (st.getD (j + 2) 0)) * (((st.getD j 0 : Nat) : Int) - ((st.getD (j + 2) 0 : Nat) : Int)) < (c (st.getD j 0) - c (st.getD (j + 2) 0)) * (((st.getD (j + 1) 0 : Nat) : Int) - ((st.getD (j + 2) 0 : Nat) : Int))
  | [], _, j, h => by simp at h
  | [a], _, j, h => by simp at h
  | [a, b], _, j, h => by simp at h; omega
  | d :: b :: a :: t, ho, 0, _ => ho.2.1
  | d :: b :: a :: t, ho, j + 1, h => by
    have := ok_tri (st := b :: a :: t) ho.2.2 j (by simpa using h)
    simp only [List.getD_cons_succ] at this ⊢
    exact this
theorem tri_lt {P Q R d b a : Int} (h : (Q - R) * (d - a) < (P - R) * (b - a)) : (Q - P) * (b - a) < (R - Q) * (d - b) := by
  have e1 : (Q - R) * (d - a) - (P - R) * (b - a) = (Q - P) * (b - a) - (R - Q) * (d - b) := by grind
  omega
theorem root_t {p : List Int} (hp : polyB p = true) {j : Nat} (hj : j + 1 < (stP p).length) : ((rootsP p).getD j Rt.z).t = ((stP p).getD j 0 : Int) - ((stP p).getD (j + 1) 0 : Int) := by
  rw [((st_facts hp).2.2.2.2 j hj).2]
  rfl
theorem root_lt {p : List Int} (hp : polyB p = true) {j : Nat} (hj : j + 2 < (stP p).length) : ltF ((rootsP p).getD j Rt.z).f ((rootsP p).getD (j + 1) Rt.z).f := by
  have ho := (cor_all (c := cof p) _ (finK_inc p p.length)).1
  have h := ok_tri ho j hj
  have hs := (st_facts hp).2.2.2.2
  have h1 := hs j (by omega)
  have h2 := hs (j + 1) (by omega)
  rw [h1.2, h2.2]
  change ltF (lowF _ _) (lowF _ _)
  exact lt_low (by have := h1.1; omega) (by have := h2.1; omega) (tri_lt h)
theorem root_lts {p : List Int} (hp : polyB p = true) {i : Nat} : ∀ (k : Nat), i + k + 2 < (stP p).length + 0 → ltF ((rootsP p).getD i Rt.z).f ((rootsP p).getD (i + k + 1) Rt.z).f
  | 0, h => root_lt hp (by omega)
  | k + 1, h => by
    have h1 := root_lts hp (i := i) k (by omega)
    have h2 := root_lt hp (j := i + k + 1) (by omega)
    have hl := rootsP_len p
    have hst := (st_facts hp).1
    have hd : ∀ q, q < (rootsP p).length → 1 ≤ ((rootsP p).getD q Rt.z).f.d := fun q hq => (frB_t.1 ((root_facts hp).2 q hq).1).2.1.1
    exact ltF_trans (hd _ (by omega)) (hd _ (by omega)) (hd _ (by omega)) h1 h2
theorem times_at : ∀ (l : List Rt) (j : Nat), j < l.length → (∀ i, i < j → ¬ ((l.getD i Rt.z).f.n = (l.getD j Rt.z).f.n ∧ (l.getD i Rt.z).f.d = (l.getD j Rt.z).f.d)) → timesF l (l.getD j Rt.z).f = (l.getD j Rt.z).t
  | [], j, h, _ => by simp at h
  | r :: rs, 0, _, _ => by simp [timesF]
  | r :: rs, j + 1, h, hd => by
    have h0 := hd 0 (by omega)
    simp only [List.getD_cons_zero, List.getD_cons_succ] at h0 ⊢
    rw [timesF, if_neg h0]
    exact times_at rs j (by simpa using h) (fun i hi => by have := hd (i + 1) (by omega); simpa only [List.getD_cons_succ] using this)
theorem lt_ne {f g : Fr} (h : ltF f g) : ¬ (f.n = g.n ∧ f.d = g.d) := fun ⟨e1, e2⟩ => by
  unfold ltF at h
  rw [e1, e2] at h
  omega
theorem cmp_neg {f g : Fr} (h : ltF f g) : cmpF f g < 0 := by
  unfold ltF at h
  unfold cmpF
  rw [if_pos (by omega)]
  decide
theorem root_times {p : List Int} (hp : polyB p = true) {j : Nat} (hj : j < (rootsP p).length) : timesF (rootsP p) ((rootsP p).getD j Rt.z).f = ((rootsP p).getD j Rt.z).t := by
  have hl := rootsP_len p
  have hst := (st_facts hp).1
  refine times_at _ j hj (fun i hi => lt_ne ?_)
  have := root_lts hp (i := i) (j - i - 1) (by omega)
  rwa [show i + (j - i - 1) + 1 = j by omega] at this

end Go.Proofs.Ytekhmjhbdoigoaa
