/-
  A polynomial from its roots, plain: sums of the least roots; its roots are the given ones, each as often as given. By an AI agent.
-/
import Derived.Test.YtekhmjhbdoigoaaFuQ
namespace Go.Proofs.Ytekhmjhbdoigoaa
open Go.RowKit

/-! ### Insertion, and the sums of the least -/
def insR (r : Int) : List Int → List Int
  | [] => [r]
  | s :: t => if s < r then s :: insR r t else r :: s :: t
def sortR (l : List Int) : List Int := l.foldl (fun s r => insR r s) []
theorem sortR_snoc (l : List Int) (r : Int) : sortR (l ++ [r]) = insR r (sortR l) := by simp [sortR]
theorem insR_len (r : Int) : ∀ s, (insR r s).length = s.length + 1
  | [] => rfl
  | s :: t => by
    rw [insR]
    split
    · simp [insR_len r t]
    · simp
theorem sortR_len (l : List Int) : (sortR l).length = l.length := by
  suffices H : ∀ (l s : List Int), (l.foldl (fun s r => insR r s) s).length = s.length + l.length by
    have := H l []
    unfold sortR
    rw [this]
    simp
  intro l
  induction l with
  | nil => intro s; simp
  | cons a t ih => intro s; rw [List.foldl_cons, ih, insR_len]; simp; omega
theorem insR_count (r v : Int) : ∀ s, (insR r s).count v = s.count v + (if r = v then 1 else 0)
  | [] => by simp [insR, List.count_cons]
  | s :: t => by
    rw [insR]
    split
    · rw [List.count_cons, insR_count r v t, List.count_cons]; omega
    · rw [List.count_cons]; simp
theorem sortR_count (v : Int) (l : List Int) : (sortR l).count v = l.count v := by
  suffices H : ∀ (l s : List Int), (l.foldl (fun s r => insR r s) s).count v = s.count v + l.count v by
    have := H l []
    unfold sortR
    rw [this]
    simp
  intro l
  induction l with
  | nil => intro s; simp
  | cons a t ih => intro s; rw [List.foldl_cons, ih, insR_count, List.count_cons]; simp; omega
theorem insR_mem {r v : Int} : ∀ {s : List Int}, v ∈ insR r s → v = r ∨ v ∈ s
  | [], h => by simp [insR] at h; exact Or.inl h
  | s :: t, h => by
    rw [insR] at h
    split at h
    · rcases List.mem_cons.1 h with h | h
      · exact Or.inr (by simp [h])
      · rcases insR_mem h with h | h
        · exact Or.inl h
        · exact Or.inr (List.mem_cons_of_mem _ h)
    · rcases List.mem_cons.1 h with h | h
      · exact Or.inl h
      · exact Or.inr h
theorem insR_sorted {r : Int} : ∀ {s : List Int}, s.Pairwise (· ≤ ·) → (insR r s).Pairwise (· ≤ ·)
  | [], _ => by simp [insR]
  | s :: t, h => by
    obtain ⟨h1, h2⟩ := List.pairwise_cons.1 h
    rw [insR]
    split
    · rename_i hs
      refine List.pairwise_cons.2 ⟨fun y hy => ?_, insR_sorted h2⟩
      rcases insR_mem hy with rfl | hy
      · omega
      · exact h1 y hy
    · rename_i hs
      refine List.pairwise_cons.2 ⟨fun y hy => ?_, h⟩
      rcases List.mem_cons.1 hy with rfl | hy
      · omega
      · have := h1 y hy; omega
theorem sortR_sorted (l : List Int) : (sortR l).Pairwise (· ≤ ·) := by
  suffices H : ∀ (l s : List Int), s.Pairwise (· ≤ ·) → (l.foldl (fun s r => insR r s) s).Pairwise (· ≤ ·) from H l [] List.Pairwise.nil
  intro l
  induction l with
  | nil => intro s h; exact h
  | cons a t ih => intro s h; exact ih _ (insR_sorted h)
theorem sortR_mem {v : Int} {l : List Int} (h : v ∈ sortR l) : v ∈ l := by
  have := List.count_pos_iff.2 h
  rw [sortR_count] at this
  exact List.count_pos_iff.1 this
/-- The sum of the first k. -/
def preS (s : List Int) (k : Nat) : Int := isum (s.take k)
theorem preS_zero (s : List Int) : preS s 0 = 0 := by simp [preS, isum]
theorem preS_cons (a : Int) (s : List Int) (k : Nat) : preS (a :: s) (k + 1) = a + preS s k := by simp [preS, isum]
theorem preS_succ : ∀ (s : List Int) (k : Nat), k < s.length → preS s (k + 1) = preS s k + s.getD k 0
  | [], k, h => by simp at h
  | a :: s, 0, _ => by rw [preS_cons, preS_zero, preS_zero]; simp
  | a :: s, k + 1, h => by
    rw [preS_cons, preS_succ s k (by simpa using h), preS_cons]
    simp only [List.getD_cons_succ]
    omega
theorem preS_ins {r : Int} : ∀ {s : List Int}, s.Pairwise (· ≤ ·) → ∀ k, preS (insR r s) k = (if k = 0 then 0 else if k ≤ s.length then min (preS s (k - 1) + r) (preS s k) else preS s s.length + r) ∨ s.length + 1 < k
  | [], _, 0 => Or.inl (by rw [if_pos rfl, preS_zero])
  | [], _, 1 => Or.inl (by simp [insR, preS, isum])
  | [], _, k + 2 => Or.inr (by simp)
  | a :: s, h, 0 => Or.inl (by rw [if_pos rfl, preS_zero])
  | a :: s, h, k + 1 => by
    obtain ⟨h1, h2⟩ := List.pairwise_cons.1 h
    rw [if_neg (by omega)]
    rcases Nat.lt_or_ge (s.length + 1 + 1) (k + 1) with hk | hk
    · exact Or.inr (by simpa using hk)
    left
    rw [insR]
    split
    · rename_i har
      rw [preS_cons]
      have ih := preS_ins h2 (r := r) k
      rcases ih with ih | ih
      · rw [ih]
        rcases Nat.eq_zero_or_pos k with h0 | h0
        · subst h0
          rw [if_pos rfl, if_pos (by simp), Nat.add_sub_cancel, preS_zero, preS_cons, preS_zero]
          omega
        · obtain ⟨j, rfl⟩ : ∃ j, k = j + 1 := ⟨k - 1, by omega⟩
          rw [if_neg (by omega)]
          simp only [List.length_cons, Nat.add_sub_cancel]
          rw [preS_cons a s (j + 1), preS_cons a s j]
          by_cases hj : j + 1 ≤ s.length
          · rw [if_pos hj, if_pos (by omega)]
            omega
          · rw [if_neg hj, if_neg (by omega), preS_cons]
            omega
      · omega
    · rename_i har
      have hle : k < (a :: s).length → preS (a :: s) k + r ≤ preS (a :: s) (k + 1) := fun hkl => by
        rw [preS_succ _ _ hkl]
        have : a ≤ (a :: s).getD k 0 := by
          rw [List.getD_eq_getElem?_getD, List.getElem?_eq_getElem hkl, Option.getD_some]
          rcases List.mem_cons.1 (List.getElem_mem hkl) with h3 | h3
          · omega
          · exact h1 _ h3
        omega
      rw [preS_cons, Nat.add_sub_cancel]
      by_cases hkl : k + 1 ≤ (a :: s).length
      · rw [if_pos hkl]
        have := hle (by omega)
        omega
      · rw [if_neg hkl]
        have : k = (a :: s).length := by simp only [List.length_cons] at hkl ⊢; omega
        rw [this]
        omega
/-- The polynomial of a lead and roots. -/
def fromP (lead : Int) (l : List Int) : List Int := tab (l.length + 1) fun n => lead + preS (sortR l) (l.length - n)
theorem fromP_len (lead : Int) (l : List Int) : (fromP lead l).length = l.length + 1 := by unfold fromP; rw [tab_length]
theorem fromP_at {lead : Int} {l : List Int} {n : Nat} (h : n < l.length + 1) : (fromP lead l).getD n 0 = lead + preS (sortR l) (l.length - n) := by unfold fromP; rw [tab_getD h]
/-- One root more: the product by a polynomial of one root. -/
theorem fromP_snoc (lead : Int) (l : List Int) (r : Int) : fromP lead (l ++ [r]) = tab (l.length + 2) fun n =>
    if n = l.length + 1 then (fromP lead l).getD l.length 0 else if n = 0 then (fromP lead l).getD 0 0 + r else min ((fromP lead l).getD n 0 + r) ((fromP lead l).getD (n - 1) 0) := by
  unfold fromP
  rw [List.length_append, List.length_singleton]
  refine tab_congr (fun n hn => ?_)
  rw [sortR_snoc]
  have h := preS_ins (sortR_sorted l) (r := r) (l.length + 1 - n)
  rw [sortR_len] at h
  rcases h with h | h
  · rw [h]
    by_cases h1 : n = l.length + 1
    · subst h1
      rw [if_pos (by omega), if_pos rfl, tab_getD (by omega), Nat.sub_self, preS_zero]
    · rw [if_neg (by omega), if_neg h1]
      by_cases h2 : n = 0
      · subst h2
        rw [if_neg (by omega), if_pos rfl, tab_getD (by omega), Nat.sub_zero]
        omega
      · rw [if_pos (by omega), if_neg h2, tab_getD (by omega), tab_getD (by omega), show l.length + 1 - n - 1 = l.length - n by omega, show l.length - (n - 1) = l.length + 1 - n by omega]
        omega
  · omega
theorem preS_bd {s : List Int} (h : ∀ v ∈ s, -1000000 ≤ v ∧ v ≤ 1000000) : ∀ k : Nat, -(1000000 * (k : Int)) ≤ preS s k ∧ preS s k ≤ 1000000 * (k : Int)
  | 0 => by rw [preS_zero]; omega
  | k + 1 => by
    have ih := preS_bd h k
    rcases Nat.lt_or_ge k s.length with hk | hk
    · rw [preS_succ _ _ hk]
      have := h (s.getD k 0) (by rw [List.getD_eq_getElem?_getD, List.getElem?_eq_getElem hk, Option.getD_some]; exact List.getElem_mem hk)
      omega
    · have : preS s (k + 1) = preS s k := by unfold preS; rw [List.take_of_length_le (by omega), List.take_of_length_le hk]
      rw [this]
      omega

/-! ### Its roots -/
theorem popR_convex {c : Nat → Int} {k b : Nat} {t : List Nat} {x y : Int} (ho : OkR c (k :: b :: t)) (hx : c b - c k = ((k : Int) - b) * x) (hy : c k - c (k + 1) = y) (hyx : y ≤ x) :
    popR c (k + 1) (k :: b :: t) = if y < x then k :: b :: t else b :: t := by
  have hbk : b < k := ho.1
  rw [popR]
  have e1 : (c k - c b) * (((k + 1 : Nat) : Int) - b) = -(((k : Int) - b) * (x * (((k : Int) - b) + 1))) := by
    rw [show c k - c b = -(((k : Int) - b) * x) by omega, show (((k + 1 : Nat) : Int) - b) = ((k : Int) - b) + 1 by omega]
    grind
  have e2 : (c (k + 1) - c b) * ((k : Int) - b) = -(((k : Int) - b) * (y + ((k : Int) - b) * x)) := by
    rw [show c (k + 1) - c b = -(y + ((k : Int) - b) * x) by omega]
    grind
  have e3 : x * (((k : Int) - b) + 1) = ((k : Int) - b) * x + x := by grind
  have hs : 0 < (k : Int) - b := by omega
  have hk : keepQ c b k (k + 1) = decide (y < x) := by
    unfold keepQ
    rw [e1, e2, e3]
    generalize ((k : Int) - b) * x = q at *
    refine decide_eq_decide.2 ⟨fun h => ?_, fun h => ?_⟩
    · have h1 : ((k : Int) - b) * (y + q) < ((k : Int) - b) * (q + x) := by omega
      have := Int.lt_of_mul_lt_mul_left h1 (Int.le_of_lt hs)
      omega
    · have := Int.mul_lt_mul_of_pos_left (show y + q < q + x by omega) hs
      omega
  rw [hk]
  by_cases h : y < x
  · rw [if_pos (decide_eq_true h), if_pos h]
  · rw [if_neg (by simpa using h), if_neg h]
    have hyx2 : y = x := by omega
    cases t with
    | nil => rfl
    | cons a t =>
      rw [popR, if_pos]
      have hc : (c b - c a) * ((k : Int) - a) < (c k - c a) * ((b : Int) - a) := ho.2.1
      have hab : a < b := ho.2.2.1
      unfold keepQ
      refine decide_eq_true ?_
      have hlt := tri_lt hc
      -- slopes: (a,b) < (b,k) = -x
      have f1 : (c k - c b) * ((b : Int) - a) = -((((k : Int) - b) * x) * ((b : Int) - a)) := by rw [show c k - c b = -(((k : Int) - b) * x) by omega, Int.neg_mul]
      have f2 : (c b - c k) * ((b : Int) - a) = ((k : Int) - b) * (x * ((b : Int) - a)) := by rw [hx]; grind
      have f3 : (c a - c b) * ((k : Int) - b) = ((k : Int) - b) * (c a - c b) := Int.mul_comm _ _
      rw [f2, f3] at hlt
      have hl2 := Int.lt_of_mul_lt_mul_left hlt (Int.le_of_lt hs)
      have f4 : (c b - c a) * (((k + 1 : Nat) : Int) - a) = (c b - c a) * ((b : Int) - a) + (c b - c a) * (((k : Int) - b) + 1) := by
        rw [show (((k + 1 : Nat) : Int) - a) = ((b : Int) - a) + (((k : Int) - b) + 1) by omega, Int.mul_add]
      have f5 : (c (k + 1) - c a) * ((b : Int) - a) = (c b - c a) * ((b : Int) - a) - (x * ((b : Int) - a)) * (((k : Int) - b) + 1) := by
        rw [show c (k + 1) - c a = (c b - c a) - x * (((k : Int) - b) + 1) by rw [e3]; omega]
        grind
      rw [f4, f5]
      have f6 := Int.mul_lt_mul_of_pos_right hl2 (show 0 < ((k : Int) - b) + 1 by omega)
      have f7 : (c a - c b) * (((k : Int) - b) + 1) = -((c b - c a) * (((k : Int) - b) + 1)) := by rw [← Int.neg_mul, Int.neg_sub]
      omega
theorem low_mul {q x : Int} (hq : 0 < q) (hx : -1000000 ≤ x ∧ x ≤ 1000000) : lowF (q * x) q = ⟨x, 1⟩ := low_unique (by omega) (frB_one ⟨by omega, by omega⟩) (by simp)
/-- How many of the first k steps fall by v. -/
def stepsV (c : Nat → Int) (v : Int) : Nat → Nat
  | 0 => 0
  | k + 1 => stepsV c v k + (if c k - c (k + 1) = v then 1 else 0)
theorem steps_none {c : Nat → Int} {v : Int} : ∀ k, (∀ i, i < k → c i - c (i + 1) ≠ v) → stepsV c v k = 0
  | 0, _ => rfl
  | k + 1, h => by rw [stepsV, steps_none k (fun i hi => h i (by omega)), if_neg (h k (by omega))]
theorem convex_roots {c : Nat → Int} {m : Nat} (hc : ∀ i, i + 1 < m → c (i + 1) - c (i + 2) ≤ c i - c (i + 1)) (hb : ∀ i, i < m → -1000000 ≤ c i - c (i + 1) ∧ c i - c (i + 1) ≤ 1000000) :
    ∀ k, k ≤ m → ∃ st, corR c (List.range (k + 1)) = k :: st ∧ (k = 0 → st = []) ∧ (0 < k → ∃ b t, st = b :: t ∧ c b - c k = ((k : Int) - b) * (c (k - 1) - c k)) ∧ ∀ v, timesF (rootsR c (k :: st)) ⟨v, 1⟩ = (stepsV c v k : Int)
  | 0, _ => ⟨[], by simp [corR, popR], fun _ => rfl, fun h => absurd h (by omega), fun v => by simp [rootsR, timesF, stepsV]⟩
  | k + 1, hk => by
    obtain ⟨st, h1, h2, h3, h4⟩ := convex_roots hc hb k (by omega)
    rw [List.range_succ, corR_snoc, h1]
    have hbk := hb k (by omega)
    rcases Nat.eq_zero_or_pos k with h0 | h0
    · subst h0
      rw [h2 rfl]
      refine ⟨[0], by simp [popR], fun h => absurd h (by omega), fun _ => ⟨0, [], rfl, by simp⟩, fun v => ?_⟩
      simp only [rootsR, timesF, stepsV, rootOf]
      rw [show c 0 - c (0 + 1) = 1 * (c 0 - c 1) by simp, show (((0 + 1 : Nat) : Int) - ((0 : Nat) : Int)) = 1 by simp, low_mul (by decide) hbk]
      simp only [Int.one_mul]
      by_cases hv : c 0 - c 1 = v
      · simp [hv]
      · simp [hv]
    · obtain ⟨b, t, rfl, hx⟩ := h3 h0
      have ho : OkR c (k :: b :: t) := by
        have := (cor_all (c := c) (List.range (k + 1)) List.pairwise_lt_range).1
        rwa [h1] at this
      have hbk' : b < k := ho.1
      obtain ⟨j, rfl⟩ : ∃ j, k = j + 1 := ⟨k - 1, by omega⟩
      rw [Nat.add_sub_cancel] at hx
      have hle := hc j (by omega)
      have hbj := hb j (by omega)
      rw [popR_convex ho hx rfl hle]
      generalize hxx : c j - c (j + 1) = x at *
      generalize hyy : c (j + 1) - c (j + 1 + 1) = y at *
      have hRk : rootOf c b (j + 1) = ⟨⟨x, 1⟩, ((j + 1 : Nat) : Int) - b⟩ := by
        unfold rootOf
        rw [hx, low_mul (by omega) hbj]
      by_cases h : y < x
      · rw [if_pos h]
        refine ⟨(j + 1) :: b :: t, rfl, fun h => absurd h (by omega), fun _ => ⟨j + 1, b :: t, rfl, by rw [Nat.add_sub_cancel, hyy, show ((j + 1 + 1 : Nat) : Int) - ((j + 1 : Nat) : Int) = 1 by omega, Int.one_mul]⟩, fun v => ?_⟩
        have h5 := h4 v
        rw [rootsR, timesF, stepsV, hyy]
        have hR : rootOf c (j + 1) (j + 1 + 1) = ⟨⟨y, 1⟩, 1⟩ := by
          unfold rootOf
          rw [show ((j + 1 + 1 : Nat) : Int) - ((j + 1 : Nat) : Int) = 1 by omega, show c (j + 1) - c (j + 1 + 1) = 1 * y by omega, low_mul (by decide) hbk]
        rw [hR]
        by_cases hv : y = v
        · subst hv
          rw [if_pos ⟨rfl, rfl⟩, if_pos rfl, steps_none]
          · rfl
          · intro i hi
            have hmono : ∀ d i, i + d = j → x ≤ c i - c (i + 1) := by
              intro d
              induction d with
              | zero => intro i hi; rw [show i = j by omega, hxx]; exact Int.le_refl _
              | succ d ih => intro i hi; have h8 := ih (i + 1) (by omega); have h9 := hc i (by omega); rw [show i + 2 = i + 1 + 1 from rfl] at h9; omega
            have := hmono (j - i) i (by omega)
            omega
        · rw [if_neg (by simpa using hv), if_neg hv, h5]
          rfl
      · rw [if_neg h]
        have hyx : y = x := by omega
        subst hyx
        have hx2 : c b - c (j + 1 + 1) = (((j + 1 + 1 : Nat) : Int) - b) * y := by
          have : (((j + 1 + 1 : Nat) : Int) - b) * y = (((j + 1 : Nat) : Int) - b) * y + y := by
            rw [show (((j + 1 + 1 : Nat) : Int) - b) = (((j + 1 : Nat) : Int) - b) + 1 by omega]
            grind
          omega
        refine ⟨b :: t, rfl, fun h => absurd h (by omega), fun _ => ⟨b, t, rfl, by rw [Nat.add_sub_cancel, hyy]; exact hx2⟩, fun v => ?_⟩
        have h5 := h4 v
        have hR : rootOf c b (j + 1 + 1) = ⟨⟨y, 1⟩, ((j + 1 + 1 : Nat) : Int) - b⟩ := by
          unfold rootOf
          rw [hx2, low_mul (by omega) hbk]
        rw [rootsR, timesF, hRk] at h5
        rw [rootsR, timesF, stepsV, hyy, hR]
        by_cases hv : y = v
        · subst hv
          rw [if_pos ⟨rfl, rfl⟩] at h5 ⊢
          rw [if_pos rfl]
          simp only at h5 ⊢
          omega
        · rw [if_neg (by simpa using hv)] at h5 ⊢
          rw [if_neg hv, h5]
          rfl
theorem count_steps {s : List Int} {c : Nat → Int} (v : Int) : ∀ (m : Nat), m ≤ s.length → (∀ i, i < m → c i - c (i + 1) = s.getD (m - 1 - i) 0) → stepsV c v m = (s.take m).count v
  | 0, _, _ => by simp [stepsV]
  | m + 1, hm, h => by
    -- the first steps of c are the last of s: count from the other end
    suffices H : ∀ k, k ≤ m + 1 → stepsV c v k + (s.take (m + 1 - k)).count v = (s.take (m + 1)).count v by
      have := H (m + 1) (Nat.le_refl _)
      rw [Nat.sub_self] at this
      simpa using this
    intro k
    induction k with
    | zero => intro _; simp [stepsV]
    | succ k ih =>
      intro hk
      have ih := ih (by omega)
      rw [stepsV, h k (by omega)]
      have hlt : m + 1 - 1 - k < s.length := by omega
      have ht : s.take (m + 1 - k) = s.take (m + 1 - (k + 1)) ++ [s.getD (m + 1 - 1 - k) 0] := by
        rw [show m + 1 - k = (m + 1 - (k + 1)) + 1 by omega, List.take_succ_eq_append_getElem (by omega), List.getD_eq_getElem?_getD, List.getElem?_eq_getElem hlt, Option.getD_some]
        congr 2
        congr 1
        omega
      rw [ht, List.count_append, List.count_singleton] at ih
      simp only [beq_iff_eq] at ih
      omega
/-- Each root as often as given. -/
theorem roots_from {lead : Int} {l : List Int} (hf : polyB (fromP lead l) = true) (hl : ∀ v ∈ l, -1000000 ≤ v ∧ v ≤ 1000000) (hlead : -1000000 ≤ lead ∧ lead ≤ 1000000) (v : Int) : timesF (rootsP (fromP lead l)) ⟨v, 1⟩ = (l.count v : Int) := by
  obtain ⟨m, hm⟩ : ∃ m, l.length = m := ⟨_, rfl⟩
  have hlen := fromP_len lead l
  have h13 := (polyB_t hf).1
  rw [hm] at hlen
  have hat : ∀ n, n < m + 1 → cof (fromP lead l) n = lead + preS (sortR l) (m - n) := fun n hn => by
    show (fromP lead l).getD n 0 = _
    rw [fromP_at (by omega), hm]
  have hsl := sortR_len l
  have hsb : ∀ v ∈ sortR l, -1000000 ≤ v ∧ v ≤ 1000000 := fun v hv => hl v (sortR_mem hv)
  have hstep : ∀ i, i < m → cof (fromP lead l) i - cof (fromP lead l) (i + 1) = (sortR l).getD (m - 1 - i) 0 := fun i hi => by
    rw [hat i (by omega), hat (i + 1) (by omega), show m - i = (m - 1 - i) + 1 by omega, preS_succ _ _ (by omega), show m - (i + 1) = m - 1 - i by omega]
    omega
  have hgd : ∀ j, j < m → (sortR l).getD j 0 ∈ sortR l := fun j hj => by
    rw [List.getD_eq_getElem?_getD, List.getElem?_eq_getElem (by omega), Option.getD_some]
    exact List.getElem_mem _
  have hall : finK (fromP lead l) (fromP lead l).length = List.range (m + 1) := by
    rw [hlen]
    unfold finK
    refine List.filter_eq_self.2 (fun n hn => ?_)
    have hn' := List.mem_range.1 hn
    have hb := preS_bd hsb (m - n)
    rw [hat n hn']
    simp only [ne_eq, decide_eq_true_eq]
    omega
  unfold rootsP
  rw [hall]
  obtain ⟨st, h1, _, _, h4⟩ := convex_roots (c := cof (fromP lead l)) (m := m) (fun i hi => by
      rw [hstep i (by omega), hstep (i + 1) (by omega)]
      have hs := List.pairwise_iff_getElem.1 (sortR_sorted l) (m - 1 - (i + 1)) (m - 1 - i) (by omega) (by omega) (by omega)
      simp only [List.getD_eq_getElem?_getD, List.getElem?_eq_getElem (show m - 1 - (i + 1) < (sortR l).length by omega), List.getElem?_eq_getElem (show m - 1 - i < (sortR l).length by omega), Option.getD_some]
      exact hs) (fun i hi => by rw [hstep i hi]; exact hsb _ (hgd _ (by omega))) m (Nat.le_refl _)
  rw [h1, h4 v, count_steps v m (by omega) hstep, List.take_of_length_le (by omega), sortR_count]

end Go.Proofs.Ytekhmjhbdoigoaa
