/-
  Least coefficients of a polynomial, plain: the hull lies below all points, and its corners are told by any numbers between it and the points. By an AI agent.
-/
import Derived.Test.YtekhmjhbdoigoaaRtY
namespace Go.Proofs.Ytekhmjhbdoigoaa
open Go.RowKit

/-! ### The chain's steps -/
/-- Step j of a chain: minus its slope, not reduced. -/
def rrF (c : Nat → Int) (st : List Nat) (j : Nat) : Fr := ⟨c (st.getD (j + 1) 0) - c (st.getD j 0), ((st.getD j 0 : Nat) : Int) - ((st.getD (j + 1) 0 : Nat) : Int)⟩
theorem ok_dec {c : Nat → Int} : ∀ {st : List Nat} (_ : OkR c st) (j : Nat), j + 1 < st.length → st.getD (j + 1) 0 < st.getD j 0
  | [], _, j, h => by simp at h
  | [a], _, j, h => by simp at h
  | d :: b :: t, ho, 0, _ => ho.1
  | d :: b :: t, ho, j + 1, h => by
    have := ok_dec (st := b :: t) ho.2.2 j (by simpa using h)
    simp only [List.getD_cons_succ] at this ⊢
    exact this
theorem rrF_pos {c : Nat → Int} {st : List Nat} (ho : OkR c st) {j : Nat} (h : j + 1 < st.length) : 1 ≤ (rrF c st j).d := by
  have := ok_dec ho j h
  unfold rrF
  simp only
  omega
theorem rr_lt {c : Nat → Int} {st : List Nat} (ho : OkR c st) {j : Nat} (h : j + 2 < st.length) : ltF (rrF c st j) (rrF c st (j + 1)) := by
  have := tri_lt (ok_tri ho j h)
  unfold ltF rrF
  simp only
  exact this
theorem rr_lts {c : Nat → Int} {st : List Nat} (ho : OkR c st) {i : Nat} : ∀ k, i + k + 2 < st.length → ltF (rrF c st i) (rrF c st (i + k + 1))
  | 0, h => rr_lt ho h
  | k + 1, h => ltF_trans (rrF_pos ho (by omega)) (rrF_pos ho (by omega)) (rrF_pos ho (by omega)) (rr_lts ho (i := i) k (by omega)) (rr_lt ho (j := i + k + 1) (by omega))
/-- How far a value v at y lies above the line through b and d, times d - b. -/
def tqv (c : Nat → Int) (b d y : Nat) (v : Int) : Int := (v - c b) * ((d : Int) - b) - (c d - c b) * ((y : Int) - b)
theorem tq_b (c : Nat → Int) (b d : Nat) : tqv c b d b (c b) = 0 := by unfold tqv; simp
theorem tq_d (c : Nat → Int) (b d : Nat) : tqv c b d d (c d) = 0 := by unfold tqv; simp
theorem tq_step (c : Nat → Int) (b d y z : Nat) : tqv c b d z (c z) = tqv c b d y (c y) + ((c z - c y) * ((d : Int) - b) - (c b - c d) * ((y : Int) - z)) := by
  unfold tqv
  grind
theorem tq_down {c : Nat → Int} {st : List Nat} (ho : OkR c st) {j : Nat} : ∀ k, j + 1 + k < st.length → 0 ≤ tqv c (st.getD (j + 1) 0) (st.getD j 0) (st.getD (j + 1 + k) 0) (c (st.getD (j + 1 + k) 0))
  | 0, _ => by rw [Nat.add_zero, tq_b]; exact Int.le_refl _
  | k + 1, h => by
    have ih := tq_down ho (j := j) k (by omega)
    have hl := rr_lts ho (i := j) k (by omega)
    rw [tq_step c _ _ (st.getD (j + 1 + k) 0) (st.getD (j + 1 + (k + 1)) 0)]
    unfold ltF rrF at hl
    simp only at hl
    rw [show j + k + 1 = j + 1 + k by omega, show j + 1 + k + 1 = j + 1 + (k + 1) by omega] at hl
    omega
theorem tq_up {c : Nat → Int} {st : List Nat} (ho : OkR c st) {j : Nat} (hj : j + 1 < st.length) : ∀ k, k ≤ j → 0 ≤ tqv c (st.getD (j + 1) 0) (st.getD j 0) (st.getD (j - k) 0) (c (st.getD (j - k) 0))
  | 0, _ => by rw [Nat.sub_zero, tq_d]; exact Int.le_refl _
  | k + 1, h => by
    have ih := tq_up ho hj k (by omega)
    obtain ⟨m, hm⟩ : ∃ m, j - (k + 1) = m := ⟨_, rfl⟩
    have hl := rr_lts ho (i := m) (j - m - 1) (by omega)
    rw [tq_step c _ _ (st.getD (j - k) 0) (st.getD (j - (k + 1)) 0), hm]
    rw [show j - k = m + 1 by omega] at ih ⊢
    unfold ltF rrF at hl
    simp only at hl
    rw [show m + (j - m - 1) + 1 = j by omega] at hl
    have e1 : (c (st.getD m 0) - c (st.getD (m + 1) 0)) * (((st.getD j 0 : Nat) : Int) - ((st.getD (j + 1) 0 : Nat) : Int)) - (c (st.getD (j + 1) 0) - c (st.getD j 0)) * (((st.getD (m + 1) 0 : Nat) : Int) - ((st.getD m 0 : Nat) : Int)) = (c (st.getD (j + 1) 0) - c (st.getD j 0)) * (((st.getD m 0 : Nat) : Int) - ((st.getD (m + 1) 0 : Nat) : Int)) - (c (st.getD (m + 1) 0) - c (st.getD m 0)) * (((st.getD j 0 : Nat) : Int) - ((st.getD (j + 1) 0 : Nat) : Int)) := by grind
    omega
/-- All corners lie on or above each step's line. -/
theorem tq_cor {c : Nat → Int} {st : List Nat} (ho : OkR c st) {j m : Nat} (hj : j + 1 < st.length) (hm : m < st.length) : 0 ≤ tqv c (st.getD (j + 1) 0) (st.getD j 0) (st.getD m 0) (c (st.getD m 0)) := by
  by_cases h : m ≤ j
  · have := tq_up ho hj (j - m) (by omega)
    rwa [show j - (j - m) = m by omega] at this
  · have := tq_down ho (j := j) (m - (j + 1)) (by omega)
    rwa [show j + 1 + (m - (j + 1)) = m by omega] at this

/-! ### .. and so do all points -/
theorem min_ex (c : Nat → Int) (x : Int) : ∀ l : List Nat, l ≠ [] → ∃ m, IsMin c x l m
  | [], h => absurd rfl h
  | [a], _ => ⟨ev c x a, ⟨a, by simp, rfl⟩, fun y hy => by simp at hy; subst hy; exact Int.le_refl _⟩
  | a :: b :: t, _ => by
    obtain ⟨m, ⟨y, hy, he⟩, hm⟩ := min_ex c x (b :: t) (by simp)
    by_cases h : m ≤ ev c x a
    · exact ⟨m, ⟨y, List.mem_cons_of_mem _ hy, he⟩, fun z hz => by
        rcases List.mem_cons.1 hz with rfl | hz
        · exact h
        · exact hm z hz⟩
    · exact ⟨ev c x a, ⟨a, by simp, rfl⟩, fun z hz => by
        rcases List.mem_cons.1 hz with rfl | hz
        · exact Int.le_refl _
        · have := hm z hz; omega⟩
theorem keep_scale {c : Nat → Int} {s : Int} (hs : 0 < s) (a b i : Nat) : keepQ (fun y => s * c y) a b i = keepQ c a b i := by
  unfold keepQ
  have e1 : (s * c b - s * c a) * ((i : Int) - a) = s * ((c b - c a) * ((i : Int) - a)) := by grind
  have e2 : (s * c i - s * c a) * ((b : Int) - a) = s * ((c i - c a) * ((b : Int) - a)) := by grind
  rw [e1, e2]
  exact decide_eq_decide.2 ⟨fun h => Int.lt_of_mul_lt_mul_left h (Int.le_of_lt hs), fun h => Int.mul_lt_mul_of_pos_left h hs⟩
theorem popR_scale {c : Nat → Int} {s : Int} (hs : 0 < s) (i : Nat) : ∀ st, popR (fun y => s * c y) i st = popR c i st
  | [] => rfl
  | [b] => rfl
  | b :: a :: t => by
    rw [popR, popR, keep_scale hs, popR_scale hs i (a :: t)]
theorem corR_scale {c : Nat → Int} {s : Int} (hs : 0 < s) (l : List Nat) : corR (fun y => s * c y) l = corR c l := by
  unfold corR
  have : (fun (st : List Nat) (i : Nat) => i :: popR (fun y => s * c y) i st) = fun st i => i :: popR c i st := by
    funext st i
    rw [popR_scale hs]
  rw [this]
theorem hull_le {c : Nat → Int} {l : List Nat} (hl : IncL l) {j : Nat} (hj : j + 1 < (corR c l).length) {y : Nat} (hy : y ∈ l) : 0 ≤ tqv c ((corR c l).getD (j + 1) 0) ((corR c l).getD j 0) y (c y) := by
  have ho := (cor_all (c := c) l hl).1
  have hd := ok_dec ho j hj
  obtain ⟨b, hb⟩ : ∃ b, (corR c l).getD (j + 1) 0 = b := ⟨_, rfl⟩
  obtain ⟨d, hdd⟩ : ∃ d, (corR c l).getD j 0 = d := ⟨_, rfl⟩
  have hs : 0 < (d : Int) - b := by rw [hb, hdd] at hd; omega
  obtain ⟨m, hm⟩ := min_ex (fun y => ((d : Int) - b) * c y) (c b - c d) l (by intro e; subst e; simp at hy)
  have hm2 := (cor_all (c := fun y => ((d : Int) - b) * c y) l hl).2.2.2.2 _ _ hm
  rw [corR_scale hs] at hm2
  have key : ∀ z, tqv c b d z (c z) = ev (fun y => ((d : Int) - b) * c y) (c b - c d) z - ev (fun y => ((d : Int) - b) * c y) (c b - c d) b := fun z => by
    unfold tqv ev
    grind
  have hbm : ev (fun y => ((d : Int) - b) * c y) (c b - c d) b = m := by
    obtain ⟨y0, hy0, he0⟩ := hm2.1
    obtain ⟨k, hk, rfl⟩ := List.mem_iff_getElem.1 hy0
    have h1 := tq_cor ho hj hk
    rw [hb, hdd, key] at h1
    have h2 := hm2.2 b (by rw [← hb, List.getD_eq_getElem?_getD, List.getElem?_eq_getElem hj, Option.getD_some]; exact List.getElem_mem _)
    rw [List.getD_eq_getElem?_getD, List.getElem?_eq_getElem hk, Option.getD_some, he0] at h1
    omega
  rw [hb, hdd, key]
  have := hm.2 y hy
  omega

/-! ### The height of the hull -/
def sgF (c : Nat → Int) (b d e : Nat) : Fr := ⟨c b * ((d : Int) - b) + (c d - c b) * ((e : Int) - b), (d : Int) - b⟩
/-- The height at e of the lower side of the hull, over a chain of corners, the greatest first. -/
def hgt (c : Nat → Int) : List Nat → Nat → Option Fr
  | d :: b :: t, e => if b < e ∧ e ≤ d then some (sgF c b d e) else hgt c (b :: t) e
  | [d], e => if e = d then some ⟨c d, 1⟩ else none
  | [], _ => none
theorem ok_pair {c : Nat → Int} : ∀ {st : List Nat}, OkR c st → st.Pairwise (· > ·)
  | [], _ => List.Pairwise.nil
  | [a], _ => by simp
  | d :: b :: t, ho => by
    have ih := ok_pair (st := b :: t) ho.2.2
    have hbd : b < d := ho.1
    refine List.pairwise_cons.2 ⟨fun y hy => ?_, ih⟩
    rcases List.mem_cons.1 hy with rfl | hy
    · exact hbd
    · have := (List.pairwise_cons.1 ih).1 y hy
      simp only [gt_iff_lt] at this ⊢
      omega
theorem hgt_some {c : Nat → Int} : ∀ {st : List Nat} (_ : OkR c st) {e : Nat} {f : Fr}, hgt c st e = some f →
    (∃ j, j + 1 < st.length ∧ st.getD (j + 1) 0 < e ∧ e ≤ st.getD j 0 ∧ f = sgF c (st.getD (j + 1) 0) (st.getD j 0) e) ∨ (st ≠ [] ∧ e = st.getD (st.length - 1) 0 ∧ f = ⟨c e, 1⟩)
  | [], _, e, f, h => by simp [hgt] at h
  | [a], _, e, f, h => by
    right
    rw [hgt] at h
    split at h
    · rename_i he
      subst he
      exact ⟨by simp, by simp, (Option.some.inj h).symm⟩
    · cases h
  | d :: b :: t, ho, e, f, h => by
    rw [hgt] at h
    split at h
    · rename_i he
      exact Or.inl ⟨0, by simp, he.1, he.2, (Option.some.inj h).symm⟩
    · rcases hgt_some (st := b :: t) ho.2.2 h with ⟨j, h1, h2, h3, h4⟩ | ⟨h1, h2, h3⟩
      · exact Or.inl ⟨j + 1, by simpa using h1, by simpa only [List.getD_cons_succ] using h2, by simpa only [List.getD_cons_succ] using h3, by simpa only [List.getD_cons_succ] using h4⟩
      · exact Or.inr ⟨by simp, by simpa using h2, h3⟩
theorem hgt_none {c : Nat → Int} : ∀ {st : List Nat} (_ : OkR c st) {e : Nat}, hgt c st e = none → st = [] ∨ e < st.getD (st.length - 1) 0 ∨ st.getD 0 0 < e
  | [], _, e, h => Or.inl rfl
  | [a], _, e, h => by
    rw [hgt] at h
    split at h
    · cases h
    · right
      simp
      omega
  | d :: b :: t, ho, e, h => by
    rw [hgt] at h
    split at h
    · cases h
    · rename_i hn
      have hbd : b < d := ho.1
      right
      rcases hgt_none (st := b :: t) ho.2.2 h with h1 | h1 | h1
      · cases h1
      · left
        simpa using h1
      · right
        simp only [List.getD_cons_zero] at h1 ⊢
        omega
theorem hgt_cor {c : Nat → Int} : ∀ {st : List Nat} (_ : OkR c st) {e : Nat}, e ∈ st → ∃ f, hgt c st e = some f ∧ 1 ≤ f.d ∧ f.n = c e * f.d
  | [], _, e, h => by simp at h
  | [a], _, e, h => by
    simp at h
    subst h
    exact ⟨⟨c e, 1⟩, by rw [hgt, if_pos rfl], by simp, by simp⟩
  | d :: b :: t, ho, e, h => by
    have hbd : b < d := ho.1
    by_cases he : e = d
    · subst he
      refine ⟨sgF c b e e, by rw [hgt, if_pos ⟨hbd, Nat.le_refl _⟩], ?_, ?_⟩
      · unfold sgF; simp only; omega
      · unfold sgF; simp only; grind
    · have hm : e ∈ b :: t := by
        rcases List.mem_cons.1 h with h | h
        · exact absurd h he
        · exact h
      have hle : ¬ (b < e ∧ e ≤ d) := fun hh => by
        have := ok_pair ho.2.2
        rcases List.mem_cons.1 hm with h1 | h1
        · omega
        · have := (List.pairwise_cons.1 this).1 e h1
          simp only [gt_iff_lt] at this
          omega
      rw [hgt, if_neg hle]
      exact hgt_cor ho.2.2 hm
theorem hgt_congr {c c' : Nat → Int} : ∀ (st : List Nat) (e : Nat), (∀ y ∈ st, c y = c' y) → hgt c st e = hgt c' st e
  | [], _, _ => rfl
  | [a], e, h => by rw [hgt, hgt, h a (by simp)]
  | d :: b :: t, e, h => by
    rw [hgt, hgt, hgt_congr (b :: t) e (fun y hy => h y (List.mem_cons_of_mem _ hy))]
    unfold sgF
    rw [h d (by simp), h b (by simp)]
theorem hgt_pos {c : Nat → Int} {st : List Nat} (ho : OkR c st) {e : Nat} {f : Fr} (h : hgt c st e = some f) : 1 ≤ f.d := by
  rcases hgt_some ho h with ⟨j, h1, _, _, rfl⟩ | ⟨_, _, rfl⟩
  · have := ok_dec ho j h1
    unfold sgF
    simp only
    omega
  · simp
theorem seg_line (c : Nat → Int) (b d b' d' e : Nat) : (sgF c b' d' e).n * ((d : Int) - b) - (sgF c b' d' e).d * (c b * ((d : Int) - b) + (c d - c b) * ((e : Int) - b)) = ((d' : Int) - e) * tqv c b d b' (c b') + ((e : Int) - b') * tqv c b d d' (c d') := by
  unfold sgF tqv
  grind
theorem getD_mem {st : List Nat} {j : Nat} (h : j < st.length) : st.getD j 0 ∈ st := by
  rw [List.getD_eq_getElem?_getD, List.getElem?_eq_getElem h, Option.getD_some]
  exact List.getElem_mem _
/-- The hull lies above each step's line. -/
theorem hgt_line {c : Nat → Int} {st : List Nat} (ho : OkR c st) {e : Nat} {f : Fr} (h : hgt c st e = some f) {j : Nat} (hj : j + 1 < st.length) : f.d * (c (st.getD (j + 1) 0) * (((st.getD j 0 : Nat) : Int) - ((st.getD (j + 1) 0 : Nat) : Int)) + (c (st.getD j 0) - c (st.getD (j + 1) 0)) * ((e : Int) - ((st.getD (j + 1) 0 : Nat) : Int))) ≤ f.n * (((st.getD j 0 : Nat) : Int) - ((st.getD (j + 1) 0 : Nat) : Int)) := by
  rcases hgt_some ho h with ⟨i, h1, h2, h3, rfl⟩ | ⟨h1, h2, rfl⟩
  · have e1 := seg_line c (st.getD (j + 1) 0) (st.getD j 0) (st.getD (i + 1) 0) (st.getD i 0) e
    have a1 := tq_cor ho hj h1
    have a2 := tq_cor ho hj (m := i) (by omega)
    have b1 := Int.mul_nonneg (show (0 : Int) ≤ ((st.getD i 0 : Nat) : Int) - e by omega) a1
    have b2 := Int.mul_nonneg (show (0 : Int) ≤ (e : Int) - ((st.getD (i + 1) 0 : Nat) : Int) by omega) a2
    omega
  · have a1 := tq_cor ho hj (m := st.length - 1) (by omega)
    rw [← h2] at a1
    unfold tqv at a1
    simp only [Int.one_mul]
    rw [Int.sub_mul] at a1
    omega
theorem hgt_bd {c : Nat → Int} {st : List Nat} (ho : OkR c st) {B : Int} (hB : ∀ y ∈ st, -B ≤ c y ∧ c y ≤ B) {e : Nat} {f : Fr} (h : hgt c st e = some f) : -B * f.d ≤ f.n ∧ f.n ≤ B * f.d := by
  rcases hgt_some ho h with ⟨j, h1, h2, h3, rfl⟩ | ⟨h1, h2, rfl⟩
  · obtain ⟨b1, b2⟩ := hB _ (getD_mem h1)
    obtain ⟨d1, d2⟩ := hB _ (getD_mem (j := j) (by omega))
    generalize st.getD (j + 1) 0 = b at *
    generalize st.getD j 0 = d at *
    have x1 := Int.mul_le_mul_of_nonneg_right b1 (show (0 : Int) ≤ (d : Int) - e by omega)
    have x2 := Int.mul_le_mul_of_nonneg_right b2 (show (0 : Int) ≤ (d : Int) - e by omega)
    have y1 := Int.mul_le_mul_of_nonneg_right d1 (show (0 : Int) ≤ (e : Int) - b by omega)
    have y2 := Int.mul_le_mul_of_nonneg_right d2 (show (0 : Int) ≤ (e : Int) - b by omega)
    have en : (sgF c b d e).n = c b * ((d : Int) - e) + c d * ((e : Int) - b) := by unfold sgF; grind
    have ed : (sgF c b d e).d = ((d : Int) - e) + ((e : Int) - b) := by unfold sgF; simp only; omega
    rw [en, ed, Int.mul_add, Int.mul_add]
    omega
  · have := hB e (h2 ▸ getD_mem (by cases st; exact absurd rfl h1; simp))
    simp only [Int.mul_one]
    exact this
/-- A point's own value is no less. -/
theorem hgt_le {c : Nat → Int} {l : List Nat} (hl : IncL l) {e : Nat} {f : Fr} (h : hgt c (corR c l) e = some f) (he : e ∈ l) : f.n ≤ c e * f.d := by
  rcases hgt_some (cor_all (c := c) l hl).1 h with ⟨j, h1, h2, h3, rfl⟩ | ⟨h1, h2, rfl⟩
  · have := hull_le hl h1 he
    unfold tqv at this
    unfold sgF
    simp only
    rw [Int.sub_mul] at this
    omega
  · simp

end Go.Proofs.Ytekhmjhbdoigoaa
