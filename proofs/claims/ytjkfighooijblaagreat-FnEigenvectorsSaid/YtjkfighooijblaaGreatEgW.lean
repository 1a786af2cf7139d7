/-
  Fractions in lowest terms compare as their parts do: plain. By an AI agent.
-/
import Derived.Test.YtjkfighooijblaaGreatFrP
namespace Go.Proofs.YtjkfighooijblaaGreat

theorem low_pos {n d : Int} (hd : 0 < d) : ∃ s : Int, 0 < s ∧ n = s * (lowF n d).n ∧ d = s * (lowF n d).d ∧ 1 ≤ (lowF n d).d := by
  obtain ⟨s, _, h1, h2, h3, h4, _⟩ := low_spec (n := n) (d := d) (by omega)
  refine ⟨s, ?_, h2, h3, h4⟩
  rcases Int.lt_or_le 0 s with h | h
  · exact h
  · have : s * (lowF n d).d ≤ 0 := Int.mul_nonpos_of_nonpos_of_nonneg h (by omega)
    omega
theorem low_mul {n1 d1 n2 d2 : Int} (h1 : 0 < d1) (h2 : 0 < d2) : ∃ q : Int, 0 < q ∧ n1 * d2 = q * ((lowF n1 d1).n * (lowF n2 d2).d) ∧ n2 * d1 = q * ((lowF n2 d2).n * (lowF n1 d1).d) := by
  obtain ⟨s, s0, s1, s2, _⟩ := low_pos (n := n1) h1
  obtain ⟨t, t0, t1, t2, _⟩ := low_pos (n := n2) h2
  generalize (lowF n1 d1).n = a at s1 ⊢
  generalize (lowF n1 d1).d = b at s2 ⊢
  generalize (lowF n2 d2).n = c at t1 ⊢
  generalize (lowF n2 d2).d = e at t2 ⊢
  refine ⟨s * t, Int.mul_pos s0 t0, ?_, ?_⟩
  · rw [s1, t2]; ac_rfl
  · rw [t1, s2]; ac_rfl
theorem low_lt {n1 d1 n2 d2 : Int} (h1 : 0 < d1) (h2 : 0 < d2) : (lowF n1 d1).n * (lowF n2 d2).d < (lowF n2 d2).n * (lowF n1 d1).d ↔ n1 * d2 < n2 * d1 := by
  obtain ⟨q, hq, e1, e2⟩ := low_mul (n1 := n1) (n2 := n2) h1 h2
  rw [e1, e2]
  exact (Int.mul_lt_mul_left hq).symm
theorem low_cr {n1 d1 n2 d2 : Int} (h1 : 0 < d1) (h2 : 0 < d2) : (lowF n1 d1).n * (lowF n2 d2).d = (lowF n2 d2).n * (lowF n1 d1).d ↔ n1 * d2 = n2 * d1 := by
  obtain ⟨q, hq, e1, e2⟩ := low_mul (n1 := n1) (n2 := n2) h1 h2
  rw [e1, e2]
  exact ⟨fun h => by rw [h], fun h => Int.eq_of_mul_eq_mul_left (by omega) h⟩
theorem low_eq {n1 d1 n2 d2 : Int} (h1 : 0 < d1) (h2 : 0 < d2) (hb : frB (lowF n2 d2) = true) : lowF n1 d1 = lowF n2 d2 ↔ n1 * d2 = n2 * d1 := by
  constructor
  · intro h
    refine (low_cr h1 h2).1 ?_
    rw [h]
  · intro h
    obtain ⟨t, t0, t1, t2, _⟩ := low_pos (n := n2) h2
    refine low_unique (by omega) hb ?_
    refine Int.eq_of_mul_eq_mul_left (a := t) (by omega) ?_
    have e1 : t * (n1 * (lowF n2 d2).d) = n1 * (t * (lowF n2 d2).d) := by ac_rfl
    have e2 : t * (d1 * (lowF n2 d2).n) = (t * (lowF n2 d2).n) * d1 := by ac_rfl
    rw [e1, e2, ← t1, ← t2]
    exact h
end Go.Proofs.YtjkfighooijblaaGreat
