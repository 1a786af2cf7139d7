/-
  The plain laws of ways: told potentials are potentials, reduced steps cost at least 0, centres, proved ways are cheapest. By an AI agent.
-/
import Derived.Test.YtbffcbjbeeagmaaWyY
namespace Go.Proofs.Ytbffcbjbeeagmaa

theorem ok_facts {M : List (List Int)} (h : okW M = true) : sqB M = true ∧ ∀ i k, i < M.length → k < M.length → bf M.length (entM M) M.length i k = bf M.length (entM M) (M.length + 1) i k := by
  unfold okW at h
  rw [Bool.and_eq_true] at h
  exact ⟨h.1, okB_t.1 h.2⟩
theorem potL_at {M : List (List Int)} {k : Nat} (hk : k < M.length) : (potL M).getD k 0 = potF M k := tab_getD hk 0
theorem pot_has {M : List (List Int)} (h : potB M = true) : hasB M (potL M) = true := by
  unfold potB at h
  rw [Bool.and_eq_true] at h
  obtain ⟨h1, h2⟩ := h
  obtain ⟨hs, hfix⟩ := ok_facts h1
  obtain ⟨hn, _, hnum'⟩ := sq_facts hs
  have hnum : ∀ a b, a < M.length → b < M.length → numB (entM M a b) = true := hnum'
  rw [pot_num hs] at h2
  unfold hasB askB
  simp only [Bool.and_eq_true, decide_eq_true_eq]
  refine ⟨⟨hs, potL_len M, h2⟩, ptB_t.2 fun i k hi hk => ?_⟩
  rw [potL_at hi, potL_at hk]
  have hfi : -1000000 ≤ potF M i ∧ potF M i ≤ 1000000 := by
    have := fin_bd (p := potL M) h2 (i := i) (by rw [potL_len]; exact hi)
    rwa [potL_at hi] at this
  have hki := pot_le hs hk
  by_cases hm : entM M i k = 1000000000
  · rw [hm, prodZ_inf (Or.inr rfl)]
    omega
  · rw [prodZ_fin (by omega) hm]
    rcases mnF_at 1000000000 (fun a => bf M.length (entM M) M.length a i) M.length with e | ⟨a, ha, e⟩
    · have : potF M i = 1000000000 := e
      omega
    · have e2 : potF M i = bf M.length (entM M) M.length a i := e
      have h3 : potF M k ≤ bf M.length (entM M) M.length a k := mnF_le 1000000000 (fun a => bf M.length (entM M) M.length a k) ha
      have h4 := hfix a k ha hk
      have h5 : bf M.length (entM M) (M.length + 1) a k ≤ prodZ (bf M.length (entM M) M.length a i) (entM M i k) := by
        rw [bf]
        exact mnF_le _ (fun j => prodZ (bf M.length (entM M) M.length a j) (entM M j k)) hi
      rw [prodZ_fin (by omega) hm] at h5
      omega
theorem red_pos {M : List (List Int)} {p : List Int} (h : hasB M p = true) {i k : Nat} (hi : i < M.length) (hk : k < M.length) : 0 ≤ rdF (entM M) p i k := by
  unfold hasB at h
  rw [Bool.and_eq_true] at h
  obtain ⟨hs, hpn, hpf⟩ := ask_facts h.1
  have h1 := ptB_t.1 h.2 i k hi hk
  have h2 := fin_bd hpf (i := i) (by rw [hpn]; exact hi)
  have h3 := fin_bd hpf (i := k) (by rw [hpn]; exact hk)
  unfold rdF
  by_cases hm : entM M i k = 1000000000
  · rw [prodZ_inf (Or.inl hm)]; omega
  · rw [prodZ_fin (by omega) hm] at h1
    rw [prodZ_fin hm (by omega)]
    omega
theorem walk_pot {n : Nat} {m : Nat → Nat → Int} {p : List Int} (hp : ptB n m p = true) (hb : ∀ i, i < n → -1000000 ≤ p.getD i 0 ∧ p.getD i 0 ≤ 1000000) {i k s : Nat} {c : Int} (h : Wk n m i k c s) : p.getD k 0 - p.getD i 0 ≤ c := by
  induction h with
  | nil _ => omega
  | snoc hw hk hne ih =>
    rename_i j k s c
    have h1 := ptB_t.1 hp j k hw.last hk
    have h2 := hb j hw.last
    rw [prodZ_fin (by omega) hne] at h1
    omega
/-- a way is a walk of its cost. -/
theorem way_walk {n : Nat} {m : Nat → Nat → Int} {l : List Int} (hm : ∀ a b, a < n → b < n → numB (m a b) = true) (hv : vtB n l = true) (hl : l.length ≤ 20) : ∀ t, t < l.length → stB m l t = true → Wk n m (vx l 0) (vx l t) (coF m l t) t
  | 0, ht, _ => Wk.nil (vt_at hv ht).2
  | t + 1, ht, hs => by
    have hs2 : stB m l t = true ∧ m (vx l t) (vx l (t + 1)) ≠ 1000000000 := by
      unfold stB at hs
      rw [Bool.and_eq_true, Bool.not_eq_true', decide_eq_false_iff_not] at hs
      exact hs
    have ih := way_walk hm hv hl t (by omega) hs2.1
    have hne : coF m l t ≠ 1000000000 := by
      rcases co_bd hm hv (by omega) t (by omega) with h | h
      · rw [hs2.1] at h
        exact absurd h.1 (by simp)
      · omega
    have h2 := (vt_at hv ht).2
    refine (ih.snoc h2 hs2.2).cast ?_ rfl
    rw [coF, prodZ_fin hne hs2.2]
theorem way_pr {n : Nat} {m : Nat → Nat → Int} {p l : List Int} (hm : ∀ a b, a < n → b < n → numB (m a b) = true) (hv : vtB n l = true) (hl : l.length ≤ 20) : ∀ t, t < l.length → stB m l t = true → prB m p l t = true → coF m l t = p.getD (vx l t) 0 - p.getD (vx l 0) 0
  | 0, _, _, _ => by unfold coF; omega
  | t + 1, ht, hs, hp => by
    have hs2 : stB m l t = true ∧ m (vx l t) (vx l (t + 1)) ≠ 1000000000 := by
      unfold stB at hs
      rw [Bool.and_eq_true, Bool.not_eq_true', decide_eq_false_iff_not] at hs
      exact hs
    have hp2 : prB m p l t = true ∧ p.getD (vx l (t + 1)) 0 = p.getD (vx l t) 0 + m (vx l t) (vx l (t + 1)) := by
      unfold prB at hp
      rw [Bool.and_eq_true, decide_eq_true_eq] at hp
      exact hp
    have ih := way_pr hm hv hl t (by omega) hs2.1 hp2.1
    have hne : coF m l t ≠ 1000000000 := by
      rcases co_bd hm hv (by omega) t (by omega) with h | h
      · rw [hs2.1] at h
        exact absurd h.1 (by simp)
      · omega
    rw [coF, prodZ_fin hne hs2.2]
    omega
/-- a proved way is cheapest. -/
theorem proved_cheapest {M : List (List Int)} {p l : List Int} (h : proB M p l = true) (hc : okW M = true) : bf M.length (entM M) M.length (vx l 0) (vx l (l.length - 1)) = cowX M l ∧ vx l 0 < M.length ∧ vx l (l.length - 1) < M.length ∧ 1 ≤ l.length ∧ l.getD 0 0 = (vx l 0 : Int) ∧ l.getD (l.length - 1) 0 = (vx l (l.length - 1) : Int) := by
  obtain ⟨hs, hfix⟩ := ok_facts hc
  obtain ⟨hn, _, hnum'⟩ := sq_facts hs
  have hnum : ∀ a b, a < M.length → b < M.length → numB (entM M a b) = true := hnum'
  unfold proB proX hasB wayB at h
  simp only [Bool.and_eq_true] at h
  obtain ⟨⟨⟨ha, hpt⟩, hl, hv, hst⟩, hpr⟩ := h
  obtain ⟨_, hpn, hpf⟩ := ask_facts ha
  have hl2 := inB_t.1 hl
  have h0 := vt_at hv (t := 0) (by omega)
  have h1 := vt_at hv (t := l.length - 1) (by omega)
  have hw := way_walk hnum hv (by omega) (l.length - 1) (by omega) hst
  have hpc := way_pr (p := p) hnum hv (by omega) (l.length - 1) (by omega) hst hpr
  obtain ⟨h3, h4⟩ := fix_le hnum hn.2 hfix hw
  obtain ⟨t, _, h5⟩ := bf_sound M.length h0.2 h1.2 h3
  have h6 := walk_pot hpt (fun i hi => fin_bd hpf (by rw [hpn]; exact hi)) h5
  refine ⟨?_, h0.2, h1.2, by omega, h0.1, h1.1⟩
  unfold cowX
  omega
/-! ### centres -/
theorem mx_ge (a : Int) (f : Nat → Int) : ∀ k, a ≤ mxF a f k
  | 0 => Int.le_refl _
  | k + 1 => by have := mx_ge a f k; unfold mxF mstZ; split <;> omega
theorem mx_ge2 (a : Int) (f : Nat → Int) : ∀ {k j : Nat}, j < k → f j ≤ mxF a f k
  | 0, _, h => by omega
  | k + 1, j, h => by
    unfold mxF mstZ
    by_cases e : j = k
    · subst e; split <;> omega
    · have := mx_ge2 a f (k := k) (j := j) (by omega)
      split <;> omega
theorem cen_le (f : Nat → Int) : ∀ {k i : Nat}, i < k → (cenF f k).2 ≤ f i
  | 0, _, h => by omega
  | k + 1, i, h => by
    unfold cenF
    by_cases e : i = k
    · subst e; split
      · exact Int.le_refl _
      · omega
    · have := cen_le f (k := k) (i := i) (by omega)
      split
      · simp only; omega
      · exact this
theorem cen_at (f : Nat → Int) : ∀ {k : Nat}, (cenF f k).2 ≠ 1000000000 → (cenF f k).1 < k ∧ f (cenF f k).1 = (cenF f k).2
  | 0, h => absurd rfl h
  | k + 1, h => by
    unfold cenF at h ⊢
    by_cases e : f k < (cenF f k).2
    · rw [if_pos e]; exact ⟨by simp, rfl⟩
    · rw [if_neg e] at h ⊢
      obtain ⟨h1, h2⟩ := cen_at f h
      exact ⟨by omega, h2⟩
/-- the greatest of a row, begun with 0. -/
theorem row_max {M : List (List Int)} (h : okW M = true) {i : Nat} (hi : i < M.length) : mxF 0 (bf M.length (entM M) M.length i) M.length = rmxF M i := by
  obtain ⟨hs, hfix⟩ := ok_facts h
  obtain ⟨hn, _, hnum'⟩ := sq_facts hs
  have hnum : ∀ a b, a < M.length → b < M.length → numB (entM M a b) = true := hnum'
  have hd : bf M.length (entM M) M.length i i = 0 := by
    obtain ⟨h1, h2⟩ := fix_le hnum hn.2 hfix (Wk.nil hi)
    obtain ⟨t, _, h3⟩ := bf_sound M.length hi hi h1
    have := fix_closed hnum hn.2 hfix h3
    omega
  unfold rmxF
  have h0 := mx_ge2 (bf M.length (entM M) M.length i 0) (bf M.length (entM M) M.length i) (k := M.length) hi
  have key : ∀ (a b : Int) (f : Nat → Int) (k : Nat), mxF (mstZ a b) f k = mstZ (mxF a f k) b := by
    intro a b f k
    induction k with
    | zero => rfl
    | succ q ih => unfold mxF; rw [ih]; unfold mstZ; split <;> split <;> (try split) <;> (try split) <;> omega
  have k1 := key (bf M.length (entM M) M.length i 0) 0 (bf M.length (entM M) M.length i) M.length
  have k2 := key 0 (bf M.length (entM M) M.length i 0) (bf M.length (entM M) M.length i) M.length
  have h5 := mx_ge2 0 (bf M.length (entM M) M.length i) (k := M.length) (j := 0) (by omega)
  have h6 := mx_ge2 (bf M.length (entM M) M.length i 0) (bf M.length (entM M) M.length i) (k := M.length) hi
  rw [hd] at h6
  have e1 : mstZ 0 (bf M.length (entM M) M.length i 0) = mstZ (bf M.length (entM M) M.length i 0) 0 := by unfold mstZ; split <;> split <;> omega
  rw [e1, k1] at k2
  have e2 : mstZ (mxF (bf M.length (entM M) M.length i 0) (bf M.length (entM M) M.length i) M.length) 0 = mxF (bf M.length (entM M) M.length i 0) (bf M.length (entM M) M.length i) M.length := by unfold mstZ; split <;> omega
  have e3 : mstZ (mxF 0 (bf M.length (entM M) M.length i) M.length) (bf M.length (entM M) M.length i 0) = mxF 0 (bf M.length (entM M) M.length i) M.length := by unfold mstZ; split <;> omega
  rw [e2, e3] at k2
  exact k2.symm
end Go.Proofs.Ytbffcbjbeeagmaa
