/-
  Plain laws of graphs given by links: numbers of edges between vertices, valences, edges. No program in sight.
-/
import Derived.Test.YtfcdmdamniijbaaGreatDoorGood
namespace Go.Proofs.YtfcdmdamniijbaaGreatDoor

def isum (l : List Int) : Int := l.foldr (· + ·) 0
theorem isum_nil : isum [] = 0 := rfl
theorem isum_cons (x : Int) (l : List Int) : isum (x :: l) = x + isum l := rfl
theorem isum_append (l m : List Int) : isum (l ++ m) = isum l + isum m := by
  induction l with
  | nil => simp [isum_nil]
  | cons x l ih => rw [List.cons_append, isum_cons, isum_cons, ih]; omega
theorem isum_snoc (l : List Int) (x : Int) : isum (l ++ [x]) = isum l + x := by rw [isum_append]; simp [isum_cons, isum_nil]
theorem isum_zero {l : List Int} (h : ∀ x ∈ l, x = 0) : isum l = 0 := by
  induction l with
  | nil => rfl
  | cons x l ih => rw [isum_cons, h x (by simp), ih (fun y hy => h y (by simp [hy]))]; rfl
theorem isum_bound {l : List Int} {c : Int} (h : ∀ x ∈ l, 0 ≤ x ∧ x ≤ c) : 0 ≤ isum l ∧ isum l ≤ l.length * c := by
  induction l with
  | nil => simp [isum_nil]
  | cons x l ih =>
    have h1 := h x (by simp)
    have h2 := ih (fun y hy => h y (by simp [hy]))
    rw [isum_cons, List.length_cons]
    have : ((l.length + 1 : Nat) : Int) * c = l.length * c + c := by rw [Int.natCast_add, Int.add_mul]; simp
    omega

theorem take_snoc {α : Type} (l : List α) (k : Nat) (d : α) (h : k < l.length) : l.take (k + 1) = l.take k ++ [l.getD k d] := by
  rw [List.take_succ_eq_append_getElem h]; simp [List.getD, h]

def betF (ls : List Lk) (i j : Nat) : Int := isum (ls.map fun x : Lk => if (x.a = (i : Int) ∧ x.b = (j : Int)) ∨ (x.a = (j : Int) ∧ x.b = (i : Int)) then x.n else 0)
def valF (ls : List Lk) (i : Nat) : Int := isum (ls.map fun x : Lk => (if x.a = (i : Int) then x.n else 0) + (if x.b = (i : Int) then x.n else 0))
def edgeF (ls : List Lk) : Int := isum (ls.map fun x : Lk => x.n)

theorem valF_snoc (l : List Lk) (x : Lk) (i : Nat) : valF (l ++ [x]) i = valF l i + ((if x.a = i then x.n else 0) + (if x.b = i then x.n else 0)) := by
  unfold valF; rw [List.map_append, List.map_singleton, isum_snoc]
theorem edgeF_snoc (l : List Lk) (x : Lk) : edgeF (l ++ [x]) = edgeF l + x.n := by
  unfold edgeF; rw [List.map_append, List.map_singleton, isum_snoc]
theorem betF_snoc (l : List Lk) (x : Lk) (i j : Nat) : betF (l ++ [x]) i j = betF l i j + (if (x.a = i ∧ x.b = j) ∨ (x.a = j ∧ x.b = i) then x.n else 0) := by
  unfold betF; rw [List.map_append, List.map_singleton, isum_snoc]
theorem betF_symm (l : List Lk) (i j : Nat) : betF l i j = betF l j i := by
  unfold betF
  congr 1
  refine List.map_congr_left fun x _ => ?_
  by_cases h : (x.a = i ∧ x.b = j) ∨ (x.a = j ∧ x.b = i)
  · rw [if_pos h, if_pos (by rcases h with h | h; exact Or.inr h; exact Or.inl h)]
  · rw [if_neg h, if_neg (by intro h'; apply h; rcases h' with h' | h'; exact Or.inr h'; exact Or.inl h')]

/-- What goodL says of every link, and of two. -/
theorem good_n {n : Int} {ls : List Lk} (h : goodL n ls = true) : 1 ≤ n ∧ n ≤ 8 := by
  simp only [goodL, Bool.and_eq_true] at h
  exact inB_t.1 h.1
theorem good_at {n : Int} {ls : List Lk} (h : goodL n ls = true) {k : Nat} (hk : k < ls.length) : goodAt n ls k = true := by
  simp only [goodL, Bool.and_eq_true, List.all_eq_true] at h
  exact h.2 k (by simpa using hk)
theorem good_lk {n : Int} {ls : List Lk} (h : goodL n ls = true) {k : Nat} (hk : k < ls.length) {x : Lk} (hx : ls.getD k Lk.z = x) : 0 ≤ x.a ∧ x.a < x.b ∧ x.b ≤ n - 1 ∧ 1 ≤ x.n ∧ x.n ≤ 5 := by
  have := good_at h hk
  subst hx
  simp only [goodAt, lkOk, Bool.and_eq_true, inB_t] at this
  omega
theorem good_mem {n : Int} {ls : List Lk} (h : goodL n ls = true) {x : Lk} (hx : x ∈ ls) : 0 ≤ x.a ∧ x.a < x.b ∧ x.b ≤ n - 1 ∧ 1 ≤ x.n ∧ x.n ≤ 5 := by
  obtain ⟨k, hk, rfl⟩ := List.getElem_of_mem hx
  exact good_lk h hk (by simp [List.getD, hk])
theorem good_step {n : Int} {ls : List Lk} (h : goodL n ls = true) {k : Nat} (hk : k + 1 < ls.length) : lkLt (ls.getD k Lk.z) (ls.getD (k + 1) Lk.z) = true := by
  have := good_at h hk
  simp only [goodAt, Bool.and_eq_true, Bool.or_eq_true] at this
  rcases this.2 with h2 | h2
  · simp at h2
  · simpa using h2
theorem good_lt {n : Int} {ls : List Lk} (h : goodL n ls = true) {i : Nat} : ∀ {k : Nat}, i < k → k < ls.length → lkLt (ls.getD i Lk.z) (ls.getD k Lk.z) = true
  | 0, h0, _ => by omega
  | k + 1, h0, hk => by
    have s := good_step h hk
    by_cases e : i = k
    · subst e; exact s
    · have r := good_lt h (i := i) (k := k) (by omega) (by omega)
      simp only [lkLt, decide_eq_true_eq] at r s ⊢
      omega
theorem betF_fresh {n : Int} {ls : List Lk} (h : goodL n ls = true) {k : Nat} (hk : k < ls.length) {x : Lk} (hx : ls.getD k Lk.z = x) {i j : Nat} (he : (x.a = i ∧ x.b = j) ∨ (x.a = j ∧ x.b = i)) : betF (ls.take k) i j = 0 := by
  refine isum_zero fun y hy => ?_
  obtain ⟨z, hz, rfl⟩ := List.mem_map.1 hy
  obtain ⟨m, hm, rfl⟩ := List.getElem_of_mem hz
  rw [List.length_take] at hm
  have hml : m < ls.length := by omega
  have l := good_lt h (i := m) (k := k) (by omega) hk
  have g1 := good_lk h hml rfl
  have g2 := good_lk h hk hx
  rw [hx] at l
  have e : (ls.take k)[m]'(by rw [List.length_take]; omega) = ls.getD m Lk.z := by simp [List.getD, hml]
  rw [e]
  simp only [lkLt, decide_eq_true_eq] at l
  rw [if_neg]
  omega
theorem betF_step {n : Int} {ls : List Lk} (h : goodL n ls = true) {k : Nat} (hk : k < ls.length) {x : Lk} (hx : ls.getD k Lk.z = x) (i j : Nat) :
    betF (ls.take (k + 1)) i j = if (x.a = i ∧ x.b = j) ∨ (x.a = j ∧ x.b = i) then x.n else betF (ls.take k) i j := by
  rw [take_snoc ls k Lk.z hk, hx, betF_snoc]
  by_cases he : (x.a = i ∧ x.b = j) ∨ (x.a = j ∧ x.b = i)
  · rw [if_pos he, if_pos he, betF_fresh h hk hx he]; omega
  · rw [if_neg he, if_neg he]; omega
theorem valF_step {ls : List Lk} {k : Nat} (hk : k < ls.length) {x : Lk} (hx : ls.getD k Lk.z = x) (i : Nat) :
    valF (ls.take (k + 1)) i = valF (ls.take k) i + ((if x.a = i then x.n else 0) + (if x.b = i then x.n else 0)) := by
  rw [take_snoc ls k Lk.z hk, hx, valF_snoc]
theorem edgeF_step {ls : List Lk} {k : Nat} (hk : k < ls.length) {x : Lk} (hx : ls.getD k Lk.z = x) : edgeF (ls.take (k + 1)) = edgeF (ls.take k) + x.n := by
  rw [take_snoc ls k Lk.z hk, hx, edgeF_snoc]
theorem mem_take_good {n : Int} {ls : List Lk} (h : goodL n ls = true) {k : Nat} {x : Lk} (hx : x ∈ ls.take k) : 0 ≤ x.a ∧ x.a < x.b ∧ x.b ≤ n - 1 ∧ 1 ≤ x.n ∧ x.n ≤ 5 := good_mem h (List.mem_of_mem_take hx)
theorem valF_bound {n : Int} {ls : List Lk} (h : goodL n ls = true) (hl : ls.length ≤ 1048576) (k i : Nat) : 0 ≤ valF (ls.take k) i ∧ valF (ls.take k) i ≤ 10485760 := by
  have := isum_bound (l := (ls.take k).map fun x : Lk => (if x.a = (i : Int) then x.n else 0) + (if x.b = i then x.n else 0)) (c := 10) (fun y hy => by
    obtain ⟨x, hx, rfl⟩ := List.mem_map.1 hy
    have := mem_take_good h hx
    by_cases h1 : x.a = i <;> by_cases h2 : x.b = i <;> simp only [h1, h2, if_true, if_false] <;> omega)
  rw [List.length_map, List.length_take] at this
  unfold valF
  omega
theorem edgeF_bound {n : Int} {ls : List Lk} (h : goodL n ls = true) (hl : ls.length ≤ 1048576) (k : Nat) : 0 ≤ edgeF (ls.take k) ∧ edgeF (ls.take k) ≤ 5242880 := by
  have := isum_bound (l := (ls.take k).map fun x : Lk => x.n) (c := 5) (fun y hy => by
    obtain ⟨x, hx, rfl⟩ := List.mem_map.1 hy
    have := mem_take_good h hx
    omega)
  rw [List.length_map, List.length_take] at this
  unfold edgeF
  omega
theorem betF_bound {n : Int} {ls : List Lk} (h : goodL n ls = true) (k i j : Nat) : 0 ≤ betF (ls.take k) i j ∧ betF (ls.take k) i j ≤ 5 := by
  by_cases hk : k ≤ ls.length
  · induction k with
    | zero => simp [betF, isum_nil]
    | succ k ih =>
      rw [betF_step h (by omega) rfl]
      have g := good_lk h (k := k) (by omega) rfl
      have := ih (by omega)
      split <;> omega
  · rw [List.take_of_length_le (by omega)]
    have e : ls = ls.take ls.length := by simp
    rw [e]
    have : ∀ m, m ≤ ls.length → 0 ≤ betF (ls.take m) i j ∧ betF (ls.take m) i j ≤ 5 := by
      intro m
      induction m with
      | zero => intro _; simp [betF, isum_nil]
      | succ m ih =>
        intro hm
        rw [betF_step h (by omega) rfl]
        have g := good_lk h (k := m) (by omega) rfl
        have := ih (by omega)
        split <;> omega
    exact this _ (Nat.le_refl _)

theorem valF_nil (i : Nat) : valF [] i = 0 := rfl
theorem betF_nil (i j : Nat) : betF [] i j = 0 := rfl
theorem edgeF_nil : edgeF [] = 0 := rfl

end Go.Proofs.YtfcdmdamniijbaaGreatDoor
