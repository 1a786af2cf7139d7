/-
  The program's costs of ways for arcs of twice the size (each arc shorter by a number): plain, turned from WyP. By an AI agent.
-/
import Derived.Test.YtjkfighooijblaaGreatEgQ
namespace Go.Proofs.YtjkfighooijblaaGreat
section
variable {n : Nat} {m : Nat → Nat → Int}
theorem fwK_bd2 {S : Nat → Nat → Int} (hn6 : n ≤ 6) (hS : BdS n 2000000 2000000 S) : ∀ {k}, k ≤ n → BdS n (2000000 * 2 ^ k) (2000000 * 6 ^ k) (fwK n S k)
  | 0, _ => by rw [fwK]; simpa using hS
  | k + 1, hk => by
    have ih := fwK_bd2 hn6 hS (show k ≤ n by omega)
    have h2 : (2 : Int) ^ k ≤ 32 ∧ 1 ≤ (2 : Int) ^ k := by
      rcases (show k = 0 ∨ k = 1 ∨ k = 2 ∨ k = 3 ∨ k = 4 ∨ k = 5 by omega) with rfl | rfl | rfl | rfl | rfl | rfl <;> decide
    have h6 : 1 ≤ (6 : Int) ^ k := by
      rcases (show k = 0 ∨ k = 1 ∨ k = 2 ∨ k = 3 ∨ k = 4 ∨ k = 5 by omega) with rfl | rfl | rfl | rfl | rfl | rfl <;> decide
    have := (fwI_bd (show k < n by omega) (by omega) (by omega) ih (Nat.le_refl n)).1
    rw [fwK]
    exact bd_mono this (by rw [Int.pow_succ]; omega) (by rw [Int.pow_succ]; omega)
theorem fw0_bd2 {m : Nat → Nat → Int} (hm : bd2 n m) : BdS n 2000000 2000000 (fw0 m) := fun a b ha hb => by
  have h1 := hm a b ha hb
  have h2 := hm a a ha ha
  unfold fw0 leastZ
  split
  · split <;> omega
  · omega
theorem fw_small2 {m : Nat → Nat → Int} (hm : bd2 n m) (hn6 : n ≤ 6) {k i j : Nat} (hk : k < n) (hi : i < n) (hj : j ≤ n) : BdS n 128000000 200000000000 (fwJ k i (fwI n k (fwK n (fw0 m) k) i) j) := by
  have h0 := fwK_bd2 hn6 (fw0_bd2 hm) (show k ≤ n by omega)
  have h2 : (2 : Int) ^ k ≤ 32 ∧ 1 ≤ (2 : Int) ^ k := by
    rcases (show k = 0 ∨ k = 1 ∨ k = 2 ∨ k = 3 ∨ k = 4 ∨ k = 5 by omega) with rfl | rfl | rfl | rfl | rfl | rfl <;> decide
  have h6 : 1 ≤ (6 : Int) ^ k ∧ (6 : Int) ^ k ≤ 7776 := by
    rcases (show k = 0 ∨ k = 1 ∨ k = 2 ∨ k = 3 ∨ k = 4 ∨ k = 5 by omega) with rfl | rfl | rfl | rfl | rfl | rfl <;> decide
  have := (fwJ_bd hk hi (by omega) (by omega) h0 (fwI_bd hk (by omega) (by omega) h0 (show i ≤ n by omega)) hj).1
  exact bd_mono this (by omega) (by omega)
theorem fwK_small2 {m : Nat → Nat → Int} (hm : bd2 n m) (hn6 : n ≤ 6) {k : Nat} (hk : k ≤ n) : BdS n 128000000 200000000000 (fwK n (fw0 m) k) := by
  have h0 := fwK_bd2 hn6 (fw0_bd2 hm) hk
  have h2 : (2 : Int) ^ k ≤ 64 ∧ (6 : Int) ^ k ≤ 46656 := by
    rcases (show k = 0 ∨ k = 1 ∨ k = 2 ∨ k = 3 ∨ k = 4 ∨ k = 5 ∨ k = 6 by omega) with rfl | rfl | rfl | rfl | rfl | rfl | rfl <;> decide
  exact bd_mono h0 (by omega) (by omega)

theorem tri_step2 {S : Nat → Nat → Int} {k : Nat} {M : Int} (hk : k < n) (h0 : S k k = 0) (hb : BdS n 128000000 M S) (h : TriS n k S) : TriS n (k + 1) (fwI n k S n) := by
  have hf := fun a b (ha : a < n) (hb : b < n) => (fwI_form hk h0 n a b hb).trans (if_pos ha)
  intro l a b hl ha hb'
  have hln : l < n := by omega
  rw [hf a b ha hb', hf a l ha hln, hf l b hln hb']
  have b1 := hb a b ha hb'
  have b2 := hb a k ha hk
  have b3 := hb k b hk hb'
  have b4 := hb a l ha hln
  have b5 := hb l b hln hb'
  have b6 := hb k l hk hln
  have b7 := hb l k hln hk
  by_cases e : l = k
  · subst e
    have x1 : leastZ (S a l) (prodZ (S a l) (S l l)) = S a l := by rw [h0, prodZ_zero]; unfold leastZ; split <;> omega
    have x2 : leastZ (S l b) (prodZ (S l l) (S l b)) = S l b := by rw [h0, zero_prodZ]; unfold leastZ; split <;> omega
    rw [x1, x2]
    unfold leastZ
    split <;> omega
  · have hl' : l < k := by omega
    have t1 := h l a b hl' ha hb'
    have t2 := h l k b hl' hk hb'
    have t3 := h l a k hl' ha hk
    have t4 := h l k k hl' hk hk
    rw [h0] at t4
    unfold prodZ at t1 t2 t3 t4
    unfold leastZ prodZ
    generalize S a b = ab at *
    generalize S a k = ak at *
    generalize S k b = kb at *
    generalize S a l = al at *
    generalize S l b = lb at *
    generalize S k l = kl at *
    generalize S l k = lk at *
    clear hf hb h
    grind
theorem fw_ok2 {m : Nat → Nat → Int} (hm : bd2 n m) (hn6 : n ≤ 6) (hok : ∀ i, i < n → 0 ≤ fwK n (fw0 m) n i i) : (∀ i, i < n → fwK n (fw0 m) n i i = 0) ∧ TriS n n (fwK n (fw0 m) n) := by
  have hd : ∀ {k}, k ≤ n → ∀ i, i < n → fwK n (fw0 m) k i i = 0 := fun {k} hk i hi => by
    have h1 := fwK_le (n := n) (fw0 m) i i hk
    have h2 := fwK_le (n := n) (fw0 m) i i (Nat.zero_le k)
    have h3 := hok i hi
    have h4 : fwK n (fw0 m) 0 i i ≤ 0 := by
      rw [fwK]
      unfold fw0 leastZ
      rw [if_pos rfl]
      split <;> omega
    omega
  have ht : ∀ {k}, k ≤ n → TriS n k (fwK n (fw0 m) k) := fun {k} => by
    induction k with
    | zero => exact fun _ l a b hl => absurd hl (Nat.not_lt_zero _)
    | succ k ih =>
      intro hk
      have h1 := ih (by omega)
      exact tri_step2 (by omega) (hd (by omega) k (by omega)) (fwK_small2 hm hn6 (by omega)) h1
  exact ⟨hd (Nat.le_refl n), ht (Nat.le_refl n)⟩
theorem fw_le2 {m : Nat → Nat → Int} (hm : bd2 n m) (hn6 : n ≤ 6) (hok : ∀ i, i < n → 0 ≤ fwK n (fw0 m) n i i) {i k s : Nat} {c : Int} (h : Wk n m i k c s) : fwK n (fw0 m) n i k ≠ 1000000000 ∧ fwK n (fw0 m) n i k ≤ c := by
  obtain ⟨hd, ht⟩ := fw_ok2 hm hn6 hok
  have hb := fwK_small2 hm hn6 (Nat.le_refl n)
  induction h with
  | nil hi => rw [hd i hi]; omega
  | snoc hw hk hne ih =>
    rename_i j k s c
    obtain ⟨h1, h2⟩ := ih
    have h3 := ht j i k hw.last hw.first hk
    have h4 := fw_m (n := n) (m := m) j k
    have h5 := hb i j hw.first hw.last
    have h6 := hb j k hw.last hk
    have h7 := hb i k hw.first hk
    have h8 := hm j k hw.last hk
    rw [prodZ_fin h1 (by omega)] at h3
    omega
theorem fix_le2 (hm : bd2 n m) (hn6 : n ≤ 6) (hfix : ∀ i k, i < n → k < n → bf n m n i k = bf n m (n + 1) i k) {i k s : Nat} {c : Int} (h : Wk n m i k c s) : bf n m n i k ≠ 1000000000 ∧ bf n m n i k ≤ c := by
  induction h with
  | nil hi =>
    have := bf_mono (n := n) (m := m) (Nat.zero_le n) i i
    rw [bf, if_pos rfl] at this
    omega
  | snoc hw hk hne ih =>
    rename_i j k s c
    obtain ⟨h1, h2⟩ := ih
    have h3 := mnF_le (bf n m n i k) (fun j => prodZ (bf n m n i j) (m j k)) hw.last
    rw [prodZ_fin h1 hne] at h3
    have h4 := bf_bd2 hm (s := n) hw.first hw.last
    have h5 := hm _ _ hw.last hk
    rw [hfix i k hw.first hk, bf]
    omega
theorem fix_closed2 (hm : bd2 n m) (hn6 : n ≤ 6) (hfix : ∀ i k, i < n → k < n → bf n m n i k = bf n m (n + 1) i k) {x s : Nat} {c : Int} (h : Wk n m x x c s) : 0 ≤ c := by
  apply Classical.byContradiction
  intro hc
  have h1 := (fix_le2 hm hn6 hfix (h.rep 14000000)).2
  have h2 := bf_bd2 hm (s := n) h.first h.first
  omega
theorem closed_fix2 (hm : bd2 n m) (hn6 : n ≤ 6) (hc : ∀ x c s, Wk n m x x c s → 0 ≤ c) {i k : Nat} (hi : i < n) (hk : k < n) : bf n m n i k = bf n m (n + 1) i k := by
  have h1 := bf_mono1 (n := n) (m := m) n i k
  by_cases h : bf n m (n + 1) i k = 1000000000
  · have := bf_bd2 hm (s := n) hi hk
    omega
  · obtain ⟨t, _, h2⟩ := bf_sound (n + 1) hi hk h
    obtain ⟨c', s', h3, h4, h5⟩ := Wk.short hc _ h2
    have h6 := (bf_le2 hm h3 (by omega)).2
    have h7 := bf_mono (n := n) (m := m) (show s' ≤ n by omega) i k
    omega
theorem ways_ok2 (hm : bd2 n m) (hn6 : n ≤ 6) : (∀ i, i < n → 0 ≤ fwK n (fw0 m) n i i) ↔ ∀ i k, i < n → k < n → bf n m n i k = bf n m (n + 1) i k := by
  constructor
  · intro hok i k hi hk
    refine closed_fix2 hm hn6 (fun x c s h => ?_) hi hk
    have h1 := (fw_le2 hm hn6 hok h).2
    rw [(fw_ok2 hm hn6 hok).1 x h.first] at h1
    exact h1
  · intro hfix i hi
    apply Classical.byContradiction
    intro hneg
    obtain ⟨s, hw⟩ := fw_sound (n := n) (m := m) (Nat.le_refl n) i i hi hi (by omega)
    have := fix_closed2 hm hn6 hfix hw
    omega
theorem ways_eq2 (hm : bd2 n m) (hn6 : n ≤ 6) (hok : ∀ i, i < n → 0 ≤ fwK n (fw0 m) n i i) {i k : Nat} (hi : i < n) (hk : k < n) : fwK n (fw0 m) n i k = bf n m n i k := by
  have hfix := (ways_ok2 hm hn6).1 hok
  have b1 := bf_bd2 hm (s := n) hi hk
  have b2 := fwK_small2 hm hn6 (Nat.le_refl n) i k hi hk
  by_cases h1 : fwK n (fw0 m) n i k = 1000000000
  · by_cases h2 : bf n m n i k = 1000000000
    · rw [h1, h2]
    · obtain ⟨t, _, hw⟩ := bf_sound n hi hk h2
      exact absurd h1 (fw_le2 hm hn6 hok hw).1
  · obtain ⟨s, hw⟩ := fw_sound (n := n) (m := m) (Nat.le_refl n) i k hi hk h1
    obtain ⟨h3, h4⟩ := fix_le2 hm hn6 hfix hw
    obtain ⟨t, _, hw2⟩ := bf_sound n hi hk h3
    have := (fw_le2 hm hn6 hok hw2).2
    omega
end
end Go.Proofs.YtjkfighooijblaaGreat
