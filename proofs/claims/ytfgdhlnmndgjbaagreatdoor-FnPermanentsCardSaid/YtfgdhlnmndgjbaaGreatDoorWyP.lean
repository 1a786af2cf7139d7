/-
  Cheapest ways, plain: walks, the program's way (Floyd and Warshall, in place) and the reference's (one step more at a time) tell the same. By an AI agent.
-/
import Derived.Test.YtfgdhlnmndgjbaaGreatDoorNum
namespace Go.Proofs.YtfgdhlnmndgjbaaGreatDoor

theorem pigeon : ∀ (n : Nat) (v : Nat → Nat), (∀ t, t ≤ n → v t < n) → ∃ a b, a < b ∧ b ≤ n ∧ v a = v b
  | 0, v, h => absurd (h 0 (Nat.le_refl _)) (Nat.not_lt_zero _)
  | n + 1, v, h => by
    by_cases hx : ∃ t, t ≤ n ∧ v t = v (n + 1)
    · obtain ⟨t, ht, e⟩ := hx
      exact ⟨t, n + 1, by omega, by omega, e⟩
    · obtain ⟨a, b, h1, h2, h3⟩ := pigeon n (fun t => if v t = n then v (n + 1) else v t) (fun t ht => by
        have h4 : v t ≠ v (n + 1) := fun e => hx ⟨t, ht, e⟩
        have h5 := h t (by omega)
        have h6 := h (n + 1) (Nat.le_refl _)
        split <;> omega)
      refine ⟨a, b, h1, by omega, ?_⟩
      have h4 : v a ≠ v (n + 1) := fun e => hx ⟨a, by omega, e⟩
      have h5 : v b ≠ v (n + 1) := fun e => hx ⟨b, by omega, e⟩
      split at h3 <;> split at h3 <;> omega

/-! ### walks -/
inductive Wk (n : Nat) (m : Nat → Nat → Int) (i : Nat) : Nat → Int → Nat → Prop
  | nil : i < n → Wk n m i i 0 0
  | snoc {j k s : Nat} {c : Int} : Wk n m i j c s → k < n → m j k ≠ 1000000000 → Wk n m i k (c + m j k) (s + 1)
section
variable {n : Nat} {m : Nat → Nat → Int}
theorem Wk.first {i k s : Nat} {c : Int} (h : Wk n m i k c s) : i < n := by
  induction h with
  | nil h => exact h
  | snoc _ _ _ ih => exact ih
theorem Wk.last {i k s : Nat} {c : Int} (h : Wk n m i k c s) : k < n := by
  cases h with
  | nil h => exact h
  | snoc _ h _ => exact h
theorem Wk.cast {i k s s' : Nat} {c c' : Int} (h : Wk n m i k c s) (hc : c = c') (hs : s = s') : Wk n m i k c' s' := by subst hc; subst hs; exact h
theorem Wk.append {i j k s t : Nat} {c d : Int} (h : Wk n m i j c s) (g : Wk n m j k d t) : Wk n m i k (c + d) (s + t) := by
  induction g with
  | nil _ => exact h.cast (by omega) (by omega)
  | snoc _ hk hm ih => exact (Wk.snoc ih hk hm).cast (by omega) (by omega)
theorem Wk.one {i k : Nat} (hi : i < n) (hk : k < n) (h : m i k ≠ 1000000000) : Wk n m i k (m i k) 1 := (Wk.snoc (Wk.nil hi) hk h).cast (by omega) rfl
theorem Wk.bd (hm : ∀ a b, a < n → b < n → numB (m a b) = true) {i k s : Nat} {c : Int} (h : Wk n m i k c s) : -(1000000 * (s : Int)) ≤ c ∧ c ≤ 1000000 * (s : Int) := by
  induction h with
  | nil _ => simp
  | snoc h hk hne ih =>
    have := numB_t (hm _ _ h.last hk)
    rw [Int.natCast_add, Int.mul_add]
    omega
theorem Wk.split {i k s : Nat} {c : Int} (h : Wk n m i k c s) : ∃ (v : Nat → Nat) (P : Nat → Int), v 0 = i ∧ v s = k ∧ P 0 = 0 ∧ P s = c ∧ (∀ t, t ≤ s → v t < n) ∧ ∀ a b, a ≤ b → b ≤ s → Wk n m (v a) (v b) (P b - P a) (b - a) := by
  induction h with
  | nil h => exact ⟨fun _ => i, fun _ => 0, rfl, rfl, rfl, rfl, fun _ _ => h, fun a b h1 h2 => (Wk.nil h).cast (by simp) (by omega)⟩
  | snoc hw hk hne ih =>
    rename_i j k s c
    obtain ⟨v, P, h1, h2, h3, h4, h5, h6⟩ := ih
    refine ⟨fun t => if t ≤ s then v t else k, fun t => if t ≤ s then P t else c + m j k, by simp [h1], if_neg (by omega), by simp [h3], if_neg (by omega), fun t ht => ?_, fun a b hab hb => ?_⟩
    · simp only
      split
      · exact h5 t (by assumption)
      · exact hk
    · by_cases hb' : b ≤ s
      · simp only [if_pos hb', if_pos (show a ≤ s by omega)]
        exact h6 a b hab hb'
      · obtain rfl : b = s + 1 := by omega
        by_cases ha : a ≤ s
        · simp only [if_neg hb', if_pos ha]
          have := h6 a s ha (Nat.le_refl _)
          rw [h2, h4] at this
          exact (Wk.snoc this hk hne).cast (by omega) (by omega)
        · simp only [if_neg hb', if_neg ha]
          exact (Wk.nil hk).cast (by omega) (by omega)
/-- Where no closed walk costs less than 0, fewer than n steps are enough. -/
theorem Wk.short (hc : ∀ x c s, Wk n m x x c s → 0 ≤ c) : ∀ (s : Nat) {i k : Nat} {c : Int}, Wk n m i k c s → ∃ c' s', Wk n m i k c' s' ∧ c' ≤ c ∧ s' < n := by
  intro s
  induction s using Nat.strongRecOn with
  | ind s ih =>
    intro i k c h
    by_cases hs : s < n
    · exact ⟨c, s, h, Int.le_refl _, hs⟩
    · obtain ⟨v, P, h1, h2, h3, h4, h5, h6⟩ := h.split
      obtain ⟨a, b, g1, g2, g3⟩ := pigeon n v (fun t ht => h5 t (by omega))
      have w1 := h6 0 a (Nat.zero_le _) (by omega)
      have w2 := h6 a b (by omega) (by omega)
      have w3 := h6 b s (by omega) (Nat.le_refl _)
      rw [← g3] at w2 w3
      have w4 := hc _ _ _ w2
      have w5 := w1.append w3
      rw [h1, h2] at w5
      obtain ⟨c', s', q1, q2, q3⟩ := ih _ (by omega) w5
      exact ⟨c', s', q1, by omega, q3⟩
end

/-! ### the least of some -/
def mnF (a : Int) (f : Nat → Int) : Nat → Int
  | 0 => a
  | k + 1 => leastZ (mnF a f k) (f k)
theorem mnF_start (a : Int) (f : Nat → Int) : ∀ k, mnF a f k ≤ a
  | 0 => Int.le_refl _
  | k + 1 => by
    have := mnF_start a f k
    unfold mnF leastZ
    split <;> omega
theorem mnF_le (a : Int) (f : Nat → Int) : ∀ {k j : Nat}, j < k → mnF a f k ≤ f j
  | 0, _, h => by omega
  | k + 1, j, h => by
    unfold mnF leastZ
    by_cases e : j = k
    · subst e; split <;> omega
    · have := mnF_le a f (k := k) (j := j) (by omega)
      split <;> omega
theorem mnF_at (a : Int) (f : Nat → Int) : ∀ k, mnF a f k = a ∨ ∃ j, j < k ∧ mnF a f k = f j
  | 0 => Or.inl rfl
  | k + 1 => by
    unfold mnF leastZ
    split
    · rcases mnF_at a f k with h | ⟨j, h1, h2⟩
      · exact Or.inl h
      · exact Or.inr ⟨j, by omega, h2⟩
    · exact Or.inr ⟨k, by omega, rfl⟩
theorem mnF_congr {a b : Int} {f g : Nat → Int} : ∀ {k : Nat}, a = b → (∀ j, j < k → f j = g j) → mnF a f k = mnF b g k
  | 0, h, _ => h
  | k + 1, h, hf => by
    unfold mnF
    rw [mnF_congr h (fun j hj => hf j (by omega)), hf k (by omega)]
theorem prodZ_fin {a b : Int} (ha : a ≠ 1000000000) (hb : b ≠ 1000000000) : prodZ a b = a + b := by
  unfold prodZ
  rw [if_neg (by omega)]
theorem prodZ_ne {a b : Int} (h : prodZ a b ≠ 1000000000) : a ≠ 1000000000 ∧ b ≠ 1000000000 ∧ prodZ a b = a + b := by
  unfold prodZ at h ⊢
  split at h
  · exact absurd rfl h
  · rename_i hn
    rw [if_neg hn]
    omega
theorem prodZ_inf {a b : Int} (h : a = 1000000000 ∨ b = 1000000000) : prodZ a b = 1000000000 := by unfold prodZ; rw [if_pos h]
theorem prodZ_zero (a : Int) : prodZ a 0 = a := by unfold prodZ; split <;> omega
theorem zero_prodZ (a : Int) : prodZ 0 a = a := by unfold prodZ; split <;> omega

/-! ### the reference: at most so many steps -/
def bf (n : Nat) (m : Nat → Nat → Int) : Nat → Nat → Nat → Int
  | 0, i, k => if i = k then 0 else 1000000000
  | s + 1, i, k => mnF (bf n m s i k) (fun j => prodZ (bf n m s i j) (m j k)) n
section
variable {n : Nat} {m : Nat → Nat → Int}
theorem bf_sound : ∀ (s : Nat) {i k : Nat}, i < n → k < n → bf n m s i k ≠ 1000000000 → ∃ t, t ≤ s ∧ Wk n m i k (bf n m s i k) t
  | 0, i, k, hi, hk, h => by
    unfold bf at h ⊢
    split at h
    · rename_i e
      subst e
      rw [if_pos rfl]
      exact ⟨0, Nat.le_refl _, Wk.nil hi⟩
    · exact absurd rfl h
  | s + 1, i, k, hi, hk, h => by
    rw [bf] at h ⊢
    rcases mnF_at (bf n m s i k) (fun j => prodZ (bf n m s i j) (m j k)) n with e | ⟨j, hj, e⟩
    · rw [e] at h ⊢
      obtain ⟨t, h1, h2⟩ := bf_sound s hi hk h
      exact ⟨t, by omega, h2⟩
    · rw [e] at h ⊢
      obtain ⟨h1, h2, h3⟩ := prodZ_ne h
      obtain ⟨t, h4, h5⟩ := bf_sound s hi hj h1
      exact ⟨t + 1, by omega, (Wk.snoc h5 hk h2).cast h3.symm rfl⟩
theorem bf_bd (hm : ∀ a b, a < n → b < n → numB (m a b) = true) {s i k : Nat} (hi : i < n) (hk : k < n) : bf n m s i k = 1000000000 ∨ (-(1000000 * (s : Int)) ≤ bf n m s i k ∧ bf n m s i k ≤ 1000000 * (s : Int)) := by
  by_cases h : bf n m s i k = 1000000000
  · exact Or.inl h
  · obtain ⟨t, h1, h2⟩ := bf_sound s hi hk h
    have := h2.bd hm
    exact Or.inr (by omega)
theorem bf_le (hm : ∀ a b, a < n → b < n → numB (m a b) = true) {i k s : Nat} {c : Int} (h : Wk n m i k c s) (hs : s < 900) : bf n m s i k ≠ 1000000000 ∧ bf n m s i k ≤ c := by
  induction h with
  | nil _ => unfold bf; rw [if_pos rfl]; omega
  | snoc hw hk hne ih =>
    rename_i j k s c
    obtain ⟨h1, h2⟩ := ih (by omega)
    have h3 := mnF_le (bf n m s i k) (fun j => prodZ (bf n m s i j) (m j k)) hw.last
    rw [prodZ_fin h1 hne] at h3
    have h4 := bf_bd hm (s := s) hw.first hw.last
    have h5 := numB_t (hm _ _ hw.last hk)
    rw [bf]
    omega
theorem bf_mono1 (s i k : Nat) : bf n m (s + 1) i k ≤ bf n m s i k := by rw [bf]; exact mnF_start _ _ _
theorem bf_mono {s t : Nat} (h : s ≤ t) (i k : Nat) : bf n m t i k ≤ bf n m s i k := by
  induction t with
  | zero => rw [show s = 0 by omega]; exact Int.le_refl _
  | succ t ih =>
    by_cases e : s = t + 1
    · rw [e]; exact Int.le_refl _
    · exact Int.le_trans (bf_mono1 t i k) (ih (by omega))
/-- A cost that stays is at most that of each walk. -/
theorem fix_le (hm : ∀ a b, a < n → b < n → numB (m a b) = true) (hn6 : n ≤ 6) (hfix : ∀ i k, i < n → k < n → bf n m n i k = bf n m (n + 1) i k) {i k s : Nat} {c : Int} (h : Wk n m i k c s) : bf n m n i k ≠ 1000000000 ∧ bf n m n i k ≤ c := by
  induction h with
  | nil hi =>
    have := bf_mono (n := n) (m := m) (Nat.zero_le n) i i
    rw [bf, if_pos rfl] at this
    omega
  | snoc hw hk hne ih =>
    rename_i j k s c
    obtain ⟨h1, h2⟩ := ih
    have h3 := mnF_le (bf n m n i k) (fun j => prodZ (bf n m n i j) (m j k)) hw.last
    rw [prodZ_fin h1 hne] at h3
    have h4 := bf_bd hm (s := n) hw.first hw.last
    have h5 := numB_t (hm _ _ hw.last hk)
    rw [hfix i k hw.first hk, bf]
    omega
theorem Wk.rep {x s : Nat} {c : Int} (h : Wk n m x x c s) : ∀ r : Nat, Wk n m x x (r * c) (r * s)
  | 0 => (Wk.nil h.first).cast (by omega) (by omega)
  | r + 1 => (Wk.append (Wk.rep h r) h).cast (by rw [Int.natCast_add, Int.add_mul]; omega) (by rw [Nat.add_mul]; omega)
/-- Where costs stay, no closed walk costs less than 0. -/
theorem fix_closed (hm : ∀ a b, a < n → b < n → numB (m a b) = true) (hn6 : n ≤ 6) (hfix : ∀ i k, i < n → k < n → bf n m n i k = bf n m (n + 1) i k) {x s : Nat} {c : Int} (h : Wk n m x x c s) : 0 ≤ c := by
  apply Classical.byContradiction
  intro hc
  have h1 := (fix_le hm hn6 hfix (h.rep 7000000)).2
  have h2 := bf_bd hm (s := n) h.first h.first
  omega
/-- Where no closed walk costs less than 0, costs stay. -/
theorem closed_fix (hm : ∀ a b, a < n → b < n → numB (m a b) = true) (hn6 : n ≤ 6) (hc : ∀ x c s, Wk n m x x c s → 0 ≤ c) {i k : Nat} (hi : i < n) (hk : k < n) : bf n m n i k = bf n m (n + 1) i k := by
  have h1 := bf_mono1 (n := n) (m := m) n i k
  by_cases h : bf n m (n + 1) i k = 1000000000
  · have := bf_bd hm (s := n) hi hk
    omega
  · obtain ⟨t, _, h2⟩ := bf_sound (n + 1) hi hk h
    obtain ⟨c', s', h3, h4, h5⟩ := Wk.short hc _ h2
    have h6 := (bf_le hm h3 (by omega)).2
    have h7 := bf_mono (n := n) (m := m) (show s' ≤ n by omega) i k
    omega
end

/-! ### the program: Floyd and Warshall, in place -/
def updS (S : Nat → Nat → Int) (i j : Nat) (v : Int) : Nat → Nat → Int := fun a b => if a = i ∧ b = j then v else S a b
def fwV (T : Nat → Nat → Int) (k i j : Nat) : Int := leastZ (T i j) (prodZ (T i k) (T k j))
def fwJ (k i : Nat) (S : Nat → Nat → Int) : Nat → Nat → Nat → Int
  | 0 => S
  | j + 1 => updS (fwJ k i S j) i j (fwV (fwJ k i S j) k i j)
def fwI (n k : Nat) (S : Nat → Nat → Int) : Nat → Nat → Nat → Int
  | 0 => S
  | i + 1 => fwJ k i (fwI n k S i) n
def fwK (n : Nat) (S : Nat → Nat → Int) : Nat → Nat → Nat → Int
  | 0 => S
  | k + 1 => fwI n k (fwK n S k) n
def fw0 (m : Nat → Nat → Int) : Nat → Nat → Int := fun i j => if i = j then leastZ (m i i) 0 else m i j
section
variable {n : Nat}
/-- What each step keeps is kept. -/
theorem fwJ_ind {Pr : (Nat → Nat → Int) → Prop} {k i : Nat} {S : Nat → Nat → Int} (hs : ∀ T j, j < n → Pr T → Pr (updS T i j (fwV T k i j))) (h : Pr S) : ∀ {j}, j ≤ n → Pr (fwJ k i S j)
  | 0, _ => h
  | j + 1, hj => hs _ j (by omega) (fwJ_ind hs h (by omega))
theorem fwI_ind {Pr : (Nat → Nat → Int) → Prop} {k : Nat} {S : Nat → Nat → Int} (hs : ∀ T i j, i < n → j < n → Pr T → Pr (updS T i j (fwV T k i j))) (h : Pr S) : ∀ {i}, i ≤ n → Pr (fwI n k S i)
  | 0, _ => h
  | i + 1, hi => fwJ_ind (fun T j hj => hs T i j (by omega) hj) (fwI_ind hs h (by omega)) (Nat.le_refl _)
theorem fwK_ind {Pr : (Nat → Nat → Int) → Prop} {S : Nat → Nat → Int} (hs : ∀ T k i j, k < n → i < n → j < n → Pr T → Pr (updS T i j (fwV T k i j))) (h : Pr S) : ∀ {k}, k ≤ n → Pr (fwK n S k)
  | 0, _ => h
  | k + 1, hk => fwI_ind (fun T i j hi hj => hs T k i j (by omega) hi hj) (fwK_ind hs h (by omega)) (Nat.le_refl _)
theorem upd_le (T : Nat → Nat → Int) (k i j a b : Nat) : updS T i j (fwV T k i j) a b ≤ T a b := by
  unfold updS fwV leastZ
  split
  · rename_i h
    obtain ⟨rfl, rfl⟩ := h
    split <;> omega
  · exact Int.le_refl _
theorem fwJ_le (k i : Nat) (S : Nat → Nat → Int) (a b : Nat) : ∀ j, fwJ k i S j a b ≤ S a b
  | 0 => Int.le_refl _
  | j + 1 => Int.le_trans (upd_le _ k i j a b) (fwJ_le k i S a b j)
theorem fwI_le (k : Nat) (S : Nat → Nat → Int) (a b : Nat) : ∀ i, fwI n k S i a b ≤ S a b
  | 0 => Int.le_refl _
  | i + 1 => Int.le_trans (fwJ_le k i _ a b n) (fwI_le k S a b i)
theorem fwK_le (S : Nat → Nat → Int) (a b : Nat) {s t : Nat} (h : s ≤ t) : fwK n S t a b ≤ fwK n S s a b := by
  induction t with
  | zero => rw [show s = 0 by omega]; exact Int.le_refl _
  | succ t ih =>
    by_cases e : s = t + 1
    · rw [e]; exact Int.le_refl _
    · exact Int.le_trans (fwI_le t _ a b n) (ih (by omega))
/-- What is finite is a walk's cost. -/
def SoundS (n : Nat) (m T : Nat → Nat → Int) : Prop := ∀ a b, a < n → b < n → T a b ≠ 1000000000 → ∃ s, Wk n m a b (T a b) s
theorem sound_upd {m T : Nat → Nat → Int} {k i j : Nat} (hk : k < n) (hi : i < n) (hj : j < n) (h : SoundS n m T) : SoundS n m (updS T i j (fwV T k i j)) := by
  intro a b ha hb
  unfold updS
  split
  · rename_i e
    obtain ⟨rfl, rfl⟩ := e
    intro hne
    unfold fwV leastZ at hne ⊢
    split at hne
    · rename_i hlt
      rw [if_pos hlt]
      exact h a b ha hb hne
    · rename_i hlt
      rw [if_neg hlt]
      obtain ⟨h1, h2, h3⟩ := prodZ_ne hne
      obtain ⟨s, w1⟩ := h a k ha hk h1
      obtain ⟨t, w2⟩ := h k b hk hb h2
      rw [h3]
      exact ⟨s + t, w1.append w2⟩
  · exact h a b ha hb
theorem sound_zero {m : Nat → Nat → Int} : SoundS n m (fw0 m) := by
  intro a b ha hb hne
  unfold fw0 at hne ⊢
  split at hne
  · rename_i e
    subst e
    rw [if_pos rfl]
    unfold leastZ at hne ⊢
    split at hne
    · rename_i hlt
      rw [if_pos hlt]
      exact ⟨1, Wk.one ha ha hne⟩
    · rename_i hlt
      rw [if_neg hlt]
      exact ⟨0, Wk.nil ha⟩
  · rename_i e
    rw [if_neg e]
    exact ⟨1, Wk.one ha hb hne⟩
theorem fw_sound {m : Nat → Nat → Int} {k : Nat} (hk : k ≤ n) : SoundS n m (fwK n (fw0 m) k) := fwK_ind (fun _ _ _ _ h1 h2 h3 h => sound_upd h1 h2 h3 h) sound_zero hk

/-! bounds -/
def BdS (n : Nat) (U M : Int) (T : Nat → Nat → Int) : Prop := ∀ a b, a < n → b < n → T a b = 1000000000 ∨ (-M ≤ T a b ∧ T a b ≤ U)
/-- In a stage, with (i, j) next. -/
def BdJ (n : Nat) (U M : Int) (S : Nat → Nat → Int) (k i j : Nat) (T : Nat → Nat → Int) : Prop :=
  BdS n (2 * U) (6 * M) T ∧ (∀ a b, a < n → b < n → a = k ∨ b = k → T a b = 1000000000 ∨ (-(3 * M) ≤ T a b ∧ T a b ≤ U)) ∧ (T k k = 1000000000 ∨ -(2 * M) ≤ T k k) ∧ ∀ a b, i < a ∨ (a = i ∧ j ≤ b) → T a b = S a b
theorem bdJ_start {U M : Int} {S : Nat → Nat → Int} {k : Nat} (hk : k < n) (hU : 0 ≤ U) (hM : 0 ≤ M) (h : BdS n U M S) : BdJ n U M S k 0 0 S :=
  ⟨fun a b ha hb => by have := h a b ha hb; omega, fun a b ha hb _ => by have := h a b ha hb; omega, by have := h k k hk hk; omega, fun _ _ _ => rfl⟩
theorem bdJ_step {U M : Int} {S T : Nat → Nat → Int} {k i j : Nat} (hk : k < n) (hi : i < n) (hj : j < n) (hU : 0 ≤ U ∧ U ≤ 400000000) (hM : 0 ≤ M) (hS : BdS n U M S) (h : BdJ n U M S k i j T) : BdJ n U M S k i (j + 1) (updS T i j (fwV T k i j)) := by
  obtain ⟨h1, h2, h3, h4⟩ := h
  have e0 := h4 i j (Or.inr ⟨rfl, Nat.le_refl _⟩)
  have b0 := hS i j hi hj
  have b1 := h2 i k hi hk (Or.inr rfl)
  have b2 := h2 k j hk hj (Or.inl rfl)
  have hv : fwV T k i j = 1000000000 ∨ (-(6 * M) ≤ fwV T k i j ∧ fwV T k i j ≤ 2 * U) := by
    unfold fwV leastZ prodZ
    split <;> split <;> omega
  have hv2 : i = k ∨ j = k → fwV T k i j = 1000000000 ∨ (-(3 * M) ≤ fwV T k i j ∧ fwV T k i j ≤ U) := by
    intro hik
    by_cases hi' : i = k
    · subst hi'
      by_cases hj' : j = i
      · subst hj'
        rw [e0] at b1
        unfold fwV leastZ prodZ
        rw [e0]
        split <;> split <;> omega
      · unfold fwV leastZ prodZ
        rw [e0]
        split <;> split <;> omega
    · obtain rfl : j = k := by omega
      unfold fwV leastZ prodZ
      rw [e0]
      split <;> split <;> omega
  have hv3 : i = k → j = k → fwV T k i j = 1000000000 ∨ -(2 * M) ≤ fwV T k i j := by
    rintro rfl rfl
    unfold fwV leastZ prodZ
    rw [e0]
    split <;> split <;> omega
  refine ⟨fun a b ha hb => ?_, fun a b ha hb hab => ?_, ?_, fun a b hab => ?_⟩
  · unfold updS
    split
    · exact hv
    · exact h1 a b ha hb
  · unfold updS
    split
    · rename_i e
      obtain ⟨rfl, rfl⟩ := e
      exact hv2 hab
    · exact h2 a b ha hb hab
  · unfold updS
    split
    · rename_i e
      exact hv3 e.1.symm e.2.symm
    · exact h3
  · unfold updS
    split
    · omega
    · exact h4 a b (by omega)
theorem bdJ_next {U M : Int} {S T : Nat → Nat → Int} {k i : Nat} (h : BdJ n U M S k i n T) (hS : ∀ a b, i < a → T a b = S a b) : BdJ n U M S k (i + 1) 0 T :=
  ⟨h.1, h.2.1, h.2.2.1, fun a b hab => hS a b (by omega)⟩
theorem fwJ_bd {U M : Int} {S T : Nat → Nat → Int} {k i : Nat} (hk : k < n) (hi : i < n) (hU : 0 ≤ U ∧ U ≤ 400000000) (hM : 0 ≤ M) (hS : BdS n U M S) (h : BdJ n U M S k i 0 T) : ∀ {j}, j ≤ n → BdJ n U M S k i j (fwJ k i T j)
  | 0, _ => h
  | j + 1, hj => bdJ_step hk hi (by omega) hU hM hS (fwJ_bd hk hi hU hM hS h (by omega))
theorem fwI_bd {U M : Int} {S : Nat → Nat → Int} {k : Nat} (hk : k < n) (hU : 0 ≤ U ∧ U ≤ 400000000) (hM : 0 ≤ M) (hS : BdS n U M S) : ∀ {i}, i ≤ n → BdJ n U M S k i 0 (fwI n k S i)
  | 0, _ => bdJ_start hk hU.1 hM hS
  | i + 1, hi => by
    have h := fwJ_bd hk (show i < n by omega) hU hM hS (fwI_bd hk hU hM hS (by omega)) (Nat.le_refl n)
    exact bdJ_next h (fun a b hab => h.2.2.2 a b (Or.inl hab))
theorem bd_mono {U U' M M' : Int} {T : Nat → Nat → Int} (h : BdS n U M T) (hU : U ≤ U') (hM : M ≤ M') : BdS n U' M' T := fun a b ha hb => by have := h a b ha hb; omega
theorem fwK_bd {S : Nat → Nat → Int} (hn6 : n ≤ 6) (hS : BdS n 1000000 1000000 S) : ∀ {k}, k ≤ n → BdS n (1000000 * 2 ^ k) (1000000 * 6 ^ k) (fwK n S k)
  | 0, _ => by rw [fwK]; simpa using hS
  | k + 1, hk => by
    have ih := fwK_bd hn6 hS (show k ≤ n by omega)
    have h2 : (2 : Int) ^ k ≤ 32 ∧ 1 ≤ (2 : Int) ^ k := by
      rcases (show k = 0 ∨ k = 1 ∨ k = 2 ∨ k = 3 ∨ k = 4 ∨ k = 5 by omega) with rfl | rfl | rfl | rfl | rfl | rfl <;> decide
    have h6 : 1 ≤ (6 : Int) ^ k := by
      rcases (show k = 0 ∨ k = 1 ∨ k = 2 ∨ k = 3 ∨ k = 4 ∨ k = 5 by omega) with rfl | rfl | rfl | rfl | rfl | rfl <;> decide
    have := (fwI_bd (show k < n by omega) (by omega) (by omega) ih (Nat.le_refl n)).1
    rw [fwK]
    exact bd_mono this (by rw [Int.pow_succ]; omega) (by rw [Int.pow_succ]; omega)
theorem fw0_bd {m : Nat → Nat → Int} (hm : ∀ a b, a < n → b < n → numB (m a b) = true) : BdS n 1000000 1000000 (fw0 m) := fun a b ha hb => by
  have h1 := numB_t (hm a b ha hb)
  have h2 := numB_t (hm a a ha ha)
  unfold fw0 leastZ
  split
  · split <;> omega
  · omega
/-- At each step all costs are small. -/
theorem fw_small {m : Nat → Nat → Int} (hm : ∀ a b, a < n → b < n → numB (m a b) = true) (hn6 : n ≤ 6) {k i j : Nat} (hk : k < n) (hi : i < n) (hj : j ≤ n) : BdS n 64000000 100000000000 (fwJ k i (fwI n k (fwK n (fw0 m) k) i) j) := by
  have h0 := fwK_bd hn6 (fw0_bd hm) (show k ≤ n by omega)
  have h2 : (2 : Int) ^ k ≤ 32 ∧ 1 ≤ (2 : Int) ^ k := by
    rcases (show k = 0 ∨ k = 1 ∨ k = 2 ∨ k = 3 ∨ k = 4 ∨ k = 5 by omega) with rfl | rfl | rfl | rfl | rfl | rfl <;> decide
  have h6 : 1 ≤ (6 : Int) ^ k ∧ (6 : Int) ^ k ≤ 7776 := by
    rcases (show k = 0 ∨ k = 1 ∨ k = 2 ∨ k = 3 ∨ k = 4 ∨ k = 5 by omega) with rfl | rfl | rfl | rfl | rfl | rfl <;> decide
  have := (fwJ_bd hk hi (by omega) (by omega) h0 (fwI_bd hk (by omega) (by omega) h0 (show i ≤ n by omega)) hj).1
  exact bd_mono this (by omega) (by omega)
theorem fwK_small {m : Nat → Nat → Int} (hm : ∀ a b, a < n → b < n → numB (m a b) = true) (hn6 : n ≤ 6) {k : Nat} (hk : k ≤ n) : BdS n 64000000 100000000000 (fwK n (fw0 m) k) := by
  have h0 := fwK_bd hn6 (fw0_bd hm) hk
  have h2 : (2 : Int) ^ k ≤ 64 ∧ (6 : Int) ^ k ≤ 46656 := by
    rcases (show k = 0 ∨ k = 1 ∨ k = 2 ∨ k = 3 ∨ k = 4 ∨ k = 5 ∨ k = 6 by omega) with rfl | rfl | rfl | rfl | rfl | rfl | rfl <;> decide
  exact bd_mono h0 (by omega) (by omega)

/-! a stage, where no closed walk costs less than 0 -/
theorem fwJ_form {S T : Nat → Nat → Int} {k i : Nat} (hk : k < n) (h0 : S k k = 0) (hT : ∀ a b, b < n → T a b = if a < i then leastZ (S a b) (prodZ (S a k) (S k b)) else S a b) : ∀ {j}, j ≤ n → ∀ a b, b < n → fwJ k i T j a b = if a < i ∨ (a = i ∧ b < j) then leastZ (S a b) (prodZ (S a k) (S k b)) else S a b
  | 0, _, a, b, hb => by
    rw [fwJ, hT a b hb]
    by_cases h : a < i
    · rw [if_pos h, if_pos (Or.inl h)]
    · rw [if_neg h, if_neg (by omega)]
  | j + 1, hj, a, b, hb => by
    have ih := fwJ_form hk h0 hT (show j ≤ n by omega)
    have hk1 : ∀ a, leastZ (S a k) (prodZ (S a k) (S k k)) = S a k := fun a => by rw [h0, prodZ_zero]; unfold leastZ; split <;> omega
    have hk2 : ∀ b, leastZ (S k b) (prodZ (S k k) (S k b)) = S k b := fun b => by rw [h0, zero_prodZ]; unfold leastZ; split <;> omega
    have e1 : fwJ k i T j i k = S i k := by rw [ih i k hk]; split; exact hk1 i; rfl
    have e2 : fwJ k i T j k j = S k j := by rw [ih k j (by omega)]; split; exact hk2 j; rfl
    have e3 : fwJ k i T j i j = S i j := by rw [ih i j (by omega), if_neg (by omega)]
    rw [fwJ]
    unfold updS fwV
    rw [e1, e2, e3]
    by_cases h : a = i ∧ b = j
    · obtain ⟨rfl, rfl⟩ := h
      rw [if_pos ⟨rfl, rfl⟩, if_pos (by omega)]
    · rw [if_neg h, ih a b hb]
      by_cases h' : a < i ∨ (a = i ∧ b < j)
      · rw [if_pos h', if_pos (by omega)]
      · rw [if_neg h', if_neg (by omega)]
theorem fwI_form {S : Nat → Nat → Int} {k : Nat} (hk : k < n) (h0 : S k k = 0) : ∀ i a b, b < n → fwI n k S i a b = if a < i then leastZ (S a b) (prodZ (S a k) (S k b)) else S a b
  | 0, a, b, _ => by rw [fwI, if_neg (by omega)]
  | i + 1, a, b, hb => by
    rw [fwI, fwJ_form hk h0 (fun a b hb => fwI_form hk h0 i a b hb) (Nat.le_refl n) a b hb]
    by_cases h : a < i ∨ (a = i ∧ b < n)
    · rw [if_pos h, if_pos (by omega)]
    · rw [if_neg h, if_neg (by omega)]
/-- The triangles over the first k vertices. -/
def TriS (n k : Nat) (S : Nat → Nat → Int) : Prop := ∀ l a b, l < k → a < n → b < n → S a b ≤ prodZ (S a l) (S l b)
theorem tri_step {S : Nat → Nat → Int} {k : Nat} {M : Int} (hk : k < n) (h0 : S k k = 0) (hb : BdS n 64000000 M S) (h : TriS n k S) : TriS n (k + 1) (fwI n k S n) := by
  have hf := fun a b (ha : a < n) (hb : b < n) => (fwI_form hk h0 n a b hb).trans (if_pos ha)
  intro l a b hl ha hb'
  have hln : l < n := by omega
  rw [hf a b ha hb', hf a l ha hln, hf l b hln hb']
  have b1 := hb a b ha hb'
  have b2 := hb a k ha hk
  have b3 := hb k b hk hb'
  have b4 := hb a l ha hln
  have b5 := hb l b hln hb'
  have b6 := hb k l hk hln
  have b7 := hb l k hln hk
  by_cases e : l = k
  · subst e
    have x1 : leastZ (S a l) (prodZ (S a l) (S l l)) = S a l := by rw [h0, prodZ_zero]; unfold leastZ; split <;> omega
    have x2 : leastZ (S l b) (prodZ (S l l) (S l b)) = S l b := by rw [h0, zero_prodZ]; unfold leastZ; split <;> omega
    rw [x1, x2]
    unfold leastZ
    split <;> omega
  · have hl' : l < k := by omega
    have t1 := h l a b hl' ha hb'
    have t2 := h l k b hl' hk hb'
    have t3 := h l a k hl' ha hk
    have t4 := h l k k hl' hk hk
    rw [h0] at t4
    unfold prodZ at t1 t2 t3 t4
    unfold leastZ prodZ
    generalize S a b = ab at *
    generalize S a k = ak at *
    generalize S k b = kb at *
    generalize S a l = al at *
    generalize S l b = lb at *
    generalize S k l = kl at *
    generalize S l k = lk at *
    clear hf hb h
    grind
/-- What the program ends with, where no diagonal cost is less than 0. -/
theorem fw_ok {m : Nat → Nat → Int} (hm : ∀ a b, a < n → b < n → numB (m a b) = true) (hn6 : n ≤ 6) (hok : ∀ i, i < n → 0 ≤ fwK n (fw0 m) n i i) : (∀ i, i < n → fwK n (fw0 m) n i i = 0) ∧ TriS n n (fwK n (fw0 m) n) := by
  have hd : ∀ {k}, k ≤ n → ∀ i, i < n → fwK n (fw0 m) k i i = 0 := fun {k} hk i hi => by
    have h1 := fwK_le (n := n) (fw0 m) i i hk
    have h2 := fwK_le (n := n) (fw0 m) i i (Nat.zero_le k)
    have h3 := hok i hi
    have h4 : fwK n (fw0 m) 0 i i ≤ 0 := by
      rw [fwK]
      unfold fw0 leastZ
      rw [if_pos rfl]
      split <;> omega
    omega
  have ht : ∀ {k}, k ≤ n → TriS n k (fwK n (fw0 m) k) := fun {k} => by
    induction k with
    | zero => exact fun _ l a b hl => absurd hl (Nat.not_lt_zero _)
    | succ k ih =>
      intro hk
      have h1 := ih (by omega)
      exact tri_step (by omega) (hd (by omega) k (by omega)) (fwK_small hm hn6 (by omega)) h1
  exact ⟨hd (Nat.le_refl n), ht (Nat.le_refl n)⟩
theorem fw_m {m : Nat → Nat → Int} (a b : Nat) : fwK n (fw0 m) n a b ≤ m a b := by
  refine Int.le_trans (fwK_le (n := n) (fw0 m) a b (Nat.zero_le n)) ?_
  rw [fwK]
  unfold fw0 leastZ
  split
  · rename_i e
    subst e
    split <;> omega
  · exact Int.le_refl _
theorem fw_le {m : Nat → Nat → Int} (hm : ∀ a b, a < n → b < n → numB (m a b) = true) (hn6 : n ≤ 6) (hok : ∀ i, i < n → 0 ≤ fwK n (fw0 m) n i i) {i k s : Nat} {c : Int} (h : Wk n m i k c s) : fwK n (fw0 m) n i k ≠ 1000000000 ∧ fwK n (fw0 m) n i k ≤ c := by
  obtain ⟨hd, ht⟩ := fw_ok hm hn6 hok
  have hb := fwK_small hm hn6 (Nat.le_refl n)
  induction h with
  | nil hi => rw [hd i hi]; omega
  | snoc hw hk hne ih =>
    rename_i j k s c
    obtain ⟨h1, h2⟩ := ih
    have h3 := ht j i k hw.last hw.first hk
    have h4 := fw_m (n := n) (m := m) j k
    have h5 := hb i j hw.first hw.last
    have h6 := hb j k hw.last hk
    have h7 := hb i k hw.first hk
    have h8 := numB_t (hm j k hw.last hk)
    rw [prodZ_fin h1 (by omega)] at h3
    omega
end

/-! ### both -/
section
variable {n : Nat} {m : Nat → Nat → Int}
theorem ways_ok (hm : ∀ a b, a < n → b < n → numB (m a b) = true) (hn6 : n ≤ 6) : (∀ i, i < n → 0 ≤ fwK n (fw0 m) n i i) ↔ ∀ i k, i < n → k < n → bf n m n i k = bf n m (n + 1) i k := by
  constructor
  · intro hok i k hi hk
    refine closed_fix hm hn6 (fun x c s h => ?_) hi hk
    have h1 := (fw_le hm hn6 hok h).2
    rw [(fw_ok hm hn6 hok).1 x h.first] at h1
    exact h1
  · intro hfix i hi
    apply Classical.byContradiction
    intro hneg
    obtain ⟨s, hw⟩ := fw_sound (n := n) (m := m) (Nat.le_refl n) i i hi hi (by omega)
    have := fix_closed hm hn6 hfix hw
    omega
theorem ways_eq (hm : ∀ a b, a < n → b < n → numB (m a b) = true) (hn6 : n ≤ 6) (hok : ∀ i, i < n → 0 ≤ fwK n (fw0 m) n i i) {i k : Nat} (hi : i < n) (hk : k < n) : fwK n (fw0 m) n i k = bf n m n i k := by
  have hfix := (ways_ok hm hn6).1 hok
  have b1 := bf_bd hm (s := n) hi hk
  have b2 := fwK_small hm hn6 (Nat.le_refl n) i k hi hk
  by_cases h1 : fwK n (fw0 m) n i k = 1000000000
  · by_cases h2 : bf n m n i k = 1000000000
    · rw [h1, h2]
    · obtain ⟨t, _, hw⟩ := bf_sound n hi hk h2
      exact absurd h1 (fw_le hm hn6 hok hw).1
  · obtain ⟨s, hw⟩ := fw_sound (n := n) (m := m) (Nat.le_refl n) i k hi hk h1
    obtain ⟨h3, h4⟩ := fix_le hm hn6 hfix hw
    obtain ⟨t, _, hw2⟩ := bf_sound n hi hk h3
    have := (fw_le hm hn6 hok hw2).2
    omega
end

end Go.Proofs.YtfgdhlnmndgjbaaGreatDoor
