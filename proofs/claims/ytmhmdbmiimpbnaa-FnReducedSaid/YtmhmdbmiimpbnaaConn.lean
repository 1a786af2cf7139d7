/-
  Which vertices a graph reaches from vertex 0; rising lists; sorted insertion. No program in sight.
-/
import Derived.Test.YtmhmdbmiimpbnaaLinksR
namespace Go.Proofs.Ytmhmdbmiimpbnaa
open Go.RowKit

/-- A strictly rising list of numbers in [lo, hi). -/
def Ris : Int → Int → List Int → Prop
  | lo, hi, [] => lo ≤ hi
  | lo, hi, x :: t => lo ≤ x ∧ x < hi ∧ Ris (x + 1) hi t

theorem Ris.le : ∀ {xs : List Int} {lo hi : Int}, Ris lo hi xs → lo + xs.length ≤ hi
  | [], _, _, h => by simpa [Ris] using h
  | x :: t, lo, hi, h => by
    obtain ⟨h1, h2, h3⟩ := h
    have := h3.le
    simp only [List.length_cons]; omega
theorem Ris.bound : ∀ {xs : List Int} {lo hi : Int}, Ris lo hi xs → ∀ y ∈ xs, lo ≤ y ∧ y < hi
  | [], _, _, _, y, hy => by simp at hy
  | x :: t, lo, hi, h, y, hy => by
    obtain ⟨h1, h2, h3⟩ := h
    rcases List.mem_cons.1 hy with rfl | hy
    · exact ⟨h1, h2⟩
    · have := h3.bound y hy; omega
theorem Ris.mono : ∀ {xs : List Int} {lo lo' hi : Int}, Ris lo hi xs → lo' ≤ lo → Ris lo' hi xs
  | [], _, _, _, h, hl => by simp only [Ris] at h ⊢; omega
  | _ :: _, _, _, _, ⟨h1, h2, h3⟩, hl => ⟨by omega, h2, h3⟩
theorem Ris.full : ∀ {xs : List Int} {lo hi : Int}, Ris lo hi xs → (lo + xs.length = hi ↔ ∀ y, lo ≤ y → y < hi → y ∈ xs)
  | [], lo, hi, h => by
    simp only [Ris] at h
    constructor
    · intro e y h1 h2; simp at e; omega
    · intro k
      by_cases e : lo = hi
      · simpa using e
      · exact absurd (k lo (Int.le_refl _) (by omega)) (by simp)
  | x :: t, lo, hi, ⟨h1, h2, h3⟩ => by
    have hl := h3.le
    have ih := h3.full
    constructor
    · intro e y hy1 hy2
      simp only [List.length_cons] at e
      have hx : x = lo := by omega
      subst hx
      by_cases hyx : y = x
      · subst hyx; exact List.mem_cons_self
      · exact List.mem_cons_of_mem _ (ih.1 (by omega) y (by omega) hy2)
    · intro k
      have hx : x = lo := by
        rcases List.mem_cons.1 (k lo (Int.le_refl _) (by omega)) with e | e
        · exact e.symm
        · have := h3.bound _ e; omega
      subst hx
      have := ih.2 fun y hy1 hy2 => by
        rcases List.mem_cons.1 (k y (by omega) hy2) with e | e
        · omega
        · exact e
      simp only [List.length_cons]; omega

/-- A number put into a rising list. -/
def putL : List Int → Int → List Int
  | [], n => [n]
  | x :: t, n => if x < n then x :: putL t n else if x = n then x :: t else n :: x :: t
theorem putL_mem : ∀ (xs : List Int) (n y : Int), y ∈ putL xs n ↔ y = n ∨ y ∈ xs
  | [], n, y => by simp [putL]
  | x :: t, n, y => by
    unfold putL
    split
    · rw [List.mem_cons, putL_mem t n y, List.mem_cons]
      constructor
      · rintro (h | h | h); exact Or.inr (Or.inl h); exact Or.inl h; exact Or.inr (Or.inr h)
      · rintro (h | h | h); exact Or.inr (Or.inl h); exact Or.inl h; exact Or.inr (Or.inr h)
    · split
      · rename_i h; subst h; simp [List.mem_cons]
      · simp [List.mem_cons]
theorem putL_ris : ∀ {xs : List Int} {n lo hi : Int}, Ris lo hi xs → lo ≤ n → n < hi → Ris lo hi (putL xs n)
  | [], n, lo, hi, h, h1, h2 => by simp only [Ris, putL] at h ⊢; omega
  | x :: t, n, lo, hi, ⟨a, b, c⟩, h1, h2 => by
    unfold putL
    split
    · exact ⟨a, b, putL_ris c (by omega) h2⟩
    · split
      · exact ⟨a, b, c⟩
      · exact ⟨h1, h2, by omega, b, c⟩
theorem putL_len : ∀ (xs : List Int) (n : Int), xs.length ≤ (putL xs n).length ∧ (putL xs n).length ≤ xs.length + 1
  | [], n => by simp [putL]
  | x :: t, n => by
    have := putL_len t n
    unfold putL
    split
    · simp only [List.length_cons]; omega
    · split <;> simp
theorem putL_new : ∀ {xs : List Int} {n lo hi : Int}, Ris lo hi xs → n ∉ xs → (putL xs n).length = xs.length + 1
  | [], n, _, _, _, _ => by simp [putL]
  | x :: t, n, lo, hi, ⟨a, b, c⟩, hm => by
    have h1 : x ≠ n := fun e => hm (by rw [e]; exact List.mem_cons_self)
    have ih := putL_new c (fun e => hm (List.mem_cons_of_mem _ e))
    unfold putL
    split
    · simp only [List.length_cons, ih]
    · simp
theorem putL_same : ∀ {xs : List Int} {n lo hi : Int}, Ris lo hi xs → n ∈ xs → putL xs n = xs
  | [], n, _, _, _, hm => by simp at hm
  | x :: t, n, lo, hi, ⟨a, b, c⟩, hm => by
    unfold putL
    rcases List.mem_cons.1 hm with e | e
    · subst e; rw [if_neg (by omega), if_pos rfl]
    · have := c.bound _ e
      rw [if_pos (by omega), putL_same c e]
/-- How a walk over the list finds the place. -/
theorem putL_at : ∀ {xs : List Int} {n : Int} {k : Nat}, k ≤ xs.length → (∀ j, j < k → xs.getD j 0 < n) → (k < xs.length → n ≤ xs.getD k 0) →
    putL xs n = if k < xs.length ∧ xs.getD k 0 = n then xs else xs.take k ++ [n] ++ xs.drop k
  | [], n, k, hk, h1, h2 => by simp only [List.length_nil, Nat.le_zero] at hk; subst hk; simp [putL]
  | x :: t, n, 0, hk, h1, h2 => by
    have := h2 (by simp)
    simp only [List.getD_cons_zero] at this
    unfold putL
    rw [if_neg (by omega)]
    by_cases e : x = n
    · rw [if_pos e, if_pos ⟨by simp, by simpa using e⟩]
    · rw [if_neg e, if_neg (by simp [e])]; simp
  | x :: t, n, k + 1, hk, h1, h2 => by
    have h0 := h1 0 (by omega)
    simp only [List.getD_cons_zero] at h0
    have ih := putL_at (xs := t) (n := n) (k := k) (by simpa using hk) (fun j hj => by have := h1 (j + 1) (by omega); simpa using this) (fun hlt => by have := h2 (by simpa using hlt); simpa using this)
    unfold putL
    rw [if_pos h0, ih]
    simp only [List.length_cons, List.getD_cons_succ, Nat.add_lt_add_iff_right]
    split
    · rfl
    · simp

/-- What a graph's links lead to from vertex 0. -/
def Reach (ls : List Lk) (v : Int) : Prop := ∀ S : Int → Prop, S 0 → (∀ i, i < ls.length → (S (ls.getD i Lk.z).a ↔ S (ls.getD i Lk.z).b)) → S v
theorem Reach.zero (ls : List Lk) : Reach ls 0 := fun _ h _ => h
theorem Reach.ab {ls : List Lk} {i : Nat} (hi : i < ls.length) (h : Reach ls (ls.getD i Lk.z).a) : Reach ls (ls.getD i Lk.z).b := fun S h0 hc => (hc i hi).1 (h S h0 hc)
theorem Reach.ba {ls : List Lk} {i : Nat} (hi : i < ls.length) (h : Reach ls (ls.getD i Lk.z).b) : Reach ls (ls.getD i Lk.z).a := fun S h0 hc => (hc i hi).2 (h S h0 hc)
open Classical in
noncomputable def connB (n : Int) (ls : List Lk) : Bool := decide (∀ v : Int, 0 ≤ v → v < n → Reach ls v)
open Classical in
theorem connB_eq {n : Int} {ls : List Lk} {b : Bool} (h : b = true ↔ ∀ v : Int, 0 ≤ v → v < n → Reach ls v) : connB n ls = b := by
  unfold connB
  by_cases e : ∀ v : Int, 0 ≤ v → v < n → Reach ls v
  · rw [decide_eq_true e, h.2 e]
  · rw [decide_eq_false e]
    cases b
    · rfl
    · exact absurd (h.1 rfl) e

/-- The reference's list at its end. -/
theorem conn_seen {n : Int} {ls : List Lk} {xs : List Int} (hr : Ris 0 n xs) (h0 : (0 : Int) ∈ xs) (hre : ∀ y ∈ xs, Reach ls y) (hc : ∀ i, i < ls.length → ((ls.getD i Lk.z).a ∈ xs ↔ (ls.getD i Lk.z).b ∈ xs)) :
    connB n ls = decide ((xs.length : Int) = n) := by
  refine connB_eq ?_
  rw [decide_eq_true_eq]
  have hf := hr.full
  rw [Int.zero_add] at hf
  rw [hf]
  exact ⟨fun h v h1 h2 => hre v (h v h1 h2), fun h v h1 h2 => h v h1 h2 (fun y => y ∈ xs) h0 hc⟩

/-- Positive numbers between vertices are links. -/
theorem betF_pos_iff {n : Int} {ls : List Lk} (hg : goodL n ls = true) : ∀ k, k ≤ ls.length → ∀ i j : Nat,
    (0 < betF (ls.take k) i j ↔ ∃ m, m < k ∧ (((ls.getD m Lk.z).a = i ∧ (ls.getD m Lk.z).b = j) ∨ ((ls.getD m Lk.z).a = j ∧ (ls.getD m Lk.z).b = i)))
  | 0, _, i, j => by
    constructor
    · intro h; rw [List.take_zero, betF_nil] at h; omega
    · rintro ⟨m, hm, _⟩; omega
  | k + 1, hk, i, j => by
    have ih := betF_pos_iff hg k (by omega) i j
    have hb := (betF_bound hg k i j).1
    obtain ⟨x, hx⟩ : ∃ x, ls.getD k Lk.z = x := ⟨_, rfl⟩
    have hgl := good_lk hg (k := k) (by omega) hx
    rw [take_snoc ls k Lk.z (by omega), hx, betF_snoc]
    constructor
    · intro h
      by_cases e : (x.a = i ∧ x.b = j) ∨ (x.a = j ∧ x.b = i)
      · exact ⟨k, by omega, by rw [hx]; exact e⟩
      · rw [if_neg e] at h
        obtain ⟨m, hm, h'⟩ := ih.1 (by omega)
        exact ⟨m, by omega, h'⟩
    · rintro ⟨m, hm, h'⟩
      by_cases e : m = k
      · subst e; rw [hx] at h'; rw [if_pos h']; omega
      · have := ih.2 ⟨m, by omega, h'⟩
        split <;> omega

/-- How many of the first k are marked. -/
def cnt (R : Nat → Bool) : Nat → Nat
  | 0 => 0
  | k + 1 => cnt R k + if R k = true then 1 else 0
theorem cnt_le (R : Nat → Bool) : ∀ k, cnt R k ≤ k
  | 0 => Nat.le_refl _
  | k + 1 => by have := cnt_le R k; unfold cnt; split <;> omega
theorem cnt_full (R : Nat → Bool) : ∀ k, cnt R k = k ↔ ∀ i, i < k → R i = true
  | 0 => by simp [cnt]
  | k + 1 => by
    have ih := cnt_full R k
    have hl := cnt_le R k
    unfold cnt
    constructor
    · intro h i hi
      by_cases e : R k = true
      · rw [if_pos e] at h
        by_cases e2 : i = k
        · subst e2; exact e
        · exact ih.1 (by omega) i (by omega)
      · rw [if_neg e] at h; omega
    · intro h
      rw [if_pos (h k (by omega)), ih.2 (fun i hi => h i (by omega))]
theorem cnt_set {R : Nat → Bool} {v : Nat} (h : R v = false) : ∀ k, cnt (fun i => if i = v then true else R i) k = cnt R k + if v < k then 1 else 0
  | 0 => by simp [cnt]
  | k + 1 => by
    have ih := cnt_set h k
    unfold cnt
    rw [ih]
    by_cases e : k = v
    · subst e
      rw [if_neg (Nat.lt_irrefl _), if_pos (by simp), h, if_neg (by decide), if_pos (by omega)]
    · rw [if_neg e]
      by_cases e2 : v < k
      · rw [if_pos e2, if_pos (show v < k + 1 by omega)]; omega
      · rw [if_neg e2, if_neg (show ¬ v < k + 1 by omega)]; omega

/-- The queue at its end. -/
theorem conn_queue {n : Int} {ls : List Lk} {N : Nat} (hn : n = N) (hg : goodL n ls = true) {R : Nat → Bool} (h0 : R 0 = true) (hre : ∀ v : Nat, v < N → R v = true → Reach ls v)
    (hc : ∀ v u : Nat, v < N → u < N → R v = true → 0 < betF ls v u → R u = true) : connB n ls = decide (cnt R N = N) := by
  refine connB_eq ?_
  rw [decide_eq_true_eq, cnt_full]
  constructor
  · intro h v h1 h2
    obtain ⟨k, rfl⟩ : ∃ k : Nat, v = k := ⟨v.toNat, by omega⟩
    exact hre k (by omega) (h k (by omega))
  · intro h v hv
    have := h v (by omega) (by omega) (fun y => R y.toNat = true) h0 (fun i hi => ?_)
    · simpa using this
    · obtain ⟨x, hx⟩ : ∃ x, ls.getD i Lk.z = x := ⟨_, rfl⟩
      have hgl := good_lk hg (k := i) hi hx
      rw [hx]
      have hp := fun (a b : Nat) => betF_pos_iff hg ls.length (Nat.le_refl _) a b
      rw [List.take_length] at hp
      have e1 : 0 < betF ls x.a.toNat x.b.toNat := (hp _ _).2 ⟨i, hi, by rw [hx]; left; omega⟩
      have e2 : 0 < betF ls x.b.toNat x.a.toNat := (hp _ _).2 ⟨i, hi, by rw [hx]; right; omega⟩
      exact ⟨fun q => hc _ _ (by omega) (by omega) q e1, fun q => hc _ _ (by omega) (by omega) q e2⟩

/-- A vertex beside a reached one is reached. -/
theorem Reach.step {n : Int} {ls : List Lk} (hg : goodL n ls = true) {v u : Nat} (h : Reach ls v) (hb : 0 < betF ls v u) : Reach ls u := by
  have hp := betF_pos_iff hg ls.length (Nat.le_refl _) v u
  rw [List.take_length] at hp
  obtain ⟨m, hm, ⟨h1, h2⟩ | ⟨h1, h2⟩⟩ := hp.1 hb
  · have := Reach.ab hm (by rw [h1]; exact h); rwa [h2] at this
  · have := Reach.ba hm (by rw [h2]; exact h); rwa [h1] at this

end Go.Proofs.Ytmhmdbmiimpbnaa
