/-
  Chips on a graph, plainly, on: a potential for each connected graph; what toppling ends in; reducing: debts first, then what does not burn. No program in sight.
-/
import Derived.Test.YtmhmdbmiimpbnaaChipT
namespace Go.Proofs.Ytmhmdbmiimpbnaa

/-! ### An order in which each vertex has a neighbour ahead of it -/
theorem rank_step {n : Int} {ls : List Lk} {N : Nat} (hn : n = N) (hg : goodL n ls = true) (hc : connB n ls = true) {q : Nat} (hq : q < N) : ∀ k, 1 ≤ k → k ≤ N → ∃ xs : List Int, ∃ r : Nat → Nat, Ris 0 n xs ∧ xs.length = k ∧ (q : Int) ∈ xs ∧ r q = 0 ∧
    ∀ v : Nat, (v : Int) ∈ xs → v ≠ q → r v < k ∧ ∃ u : Nat, (u : Int) ∈ xs ∧ 0 < betF ls v u ∧ r u < r v
  | 0, h, _ => by omega
  | 1, _, _ => ⟨[(q : Int)], fun _ => 0, ⟨by omega, by omega, by simp only [Ris]; omega⟩, rfl, by simp, rfl, fun v hv hvq => absurd (by simp at hv; omega) hvq⟩
  | k + 2, _, hk => by
    obtain ⟨xs, r, hr, hl, hqx, hrq, hv⟩ := rank_step hn hg hc hq (k + 1) (by omega) (by omega)
    have hreach : ∀ v : Int, 0 ≤ v → v < n → Reach ls v := by
      simpa [connB] using hc
    -- a link leads out
    have hex : ∃ a b : Nat, a < N ∧ b < N ∧ (a : Int) ∈ xs ∧ (b : Int) ∉ xs ∧ 0 < betF ls b a := by
      apply Classical.byContradiction
      intro hno
      have hcl : ∀ i, i < ls.length → ((ls.getD i Lk.z).a ∈ xs ↔ (ls.getD i Lk.z).b ∈ xs) := by
        intro i hi
        obtain ⟨x, hx⟩ : ∃ x, ls.getD i Lk.z = x := ⟨_, rfl⟩
        have hgl := good_lk hg hi hx
        rw [hx]
        obtain ⟨a, ha⟩ : ∃ a : Nat, x.a = a := ⟨x.a.toNat, by omega⟩
        obtain ⟨b, hb⟩ : ∃ b : Nat, x.b = b := ⟨x.b.toNat, by omega⟩
        have hp := fun (s t : Nat) => betF_pos_iff hg ls.length (Nat.le_refl _) s t
        rw [List.take_length] at hp
        have e1 : 0 < betF ls a b := (hp _ _).2 ⟨i, hi, by rw [hx]; left; exact ⟨ha, hb⟩⟩
        have e2 : 0 < betF ls b a := (hp _ _).2 ⟨i, hi, by rw [hx]; right; exact ⟨ha, hb⟩⟩
        rw [ha, hb]
        constructor
        · intro h; apply Classical.byContradiction; intro h'; exact hno ⟨a, b, by omega, by omega, h, h', e2⟩
        · intro h; apply Classical.byContradiction; intro h'; exact hno ⟨b, a, by omega, by omega, h, h', e1⟩
      have hall : ∀ v : Int, 0 ≤ v → v < n → v ∈ xs := by
        by_cases h0 : (0 : Int) ∈ xs
        · exact fun v h1 h2 => hreach v h1 h2 (fun y => y ∈ xs) h0 hcl
        · have := hreach q (by omega) (by omega) (fun y => y ∉ xs) h0 (fun i hi => not_congr (hcl i hi))
          exact absurd hqx this
      have := (hr.full).2 hall
      omega
    obtain ⟨a, b, ha, hb, hax, hbx, hpos⟩ := hex
    have hbq : b ≠ q := fun e => hbx (by rw [e]; exact hqx)
    refine ⟨putL xs b, fun v => if v = b then k + 1 else r v, putL_ris hr (by omega) (by omega), by rw [putL_new hr hbx, hl], (putL_mem _ _ _).2 (Or.inr hqx), (by show (if q = b then k + 1 else r q) = 0; rw [if_neg (Ne.symm hbq)]; exact hrq), fun v hvx hvq => ?_⟩
    show (if v = b then k + 1 else r v) < k + 2 ∧ ∃ u : Nat, (u : Int) ∈ putL xs b ∧ 0 < betF ls v u ∧ (if u = b then k + 1 else r u) < (if v = b then k + 1 else r v)
    have hab : a ≠ b := fun e => hbx (by rw [← e]; exact hax)
    by_cases e : v = b
    · subst e
      rw [if_pos rfl]
      refine ⟨by omega, a, (putL_mem _ _ _).2 (Or.inr hax), hpos, ?_⟩
      rw [if_neg hab]
      by_cases eq : a = q
      · subst eq; rw [hrq]; omega
      · exact (hv a hax eq).1
    · have hvx' : (v : Int) ∈ xs := by
        rcases (putL_mem _ _ _).1 hvx with h | h
        · exact absurd (by omega) e
        · exact h
      obtain ⟨h1, u, hu, hb1, hlt⟩ := hv v hvx' hvq
      have hub : u ≠ b := fun e' => hbx (by rw [← e']; exact hu)
      rw [if_neg e]
      exact ⟨by omega, u, (putL_mem _ _ _).2 (Or.inr hu), hb1, by rw [if_neg hub]; exact hlt⟩

theorem pot_exists {n : Int} {ls : List Lk} {N : Nat} (hn : n = N) (hg : goodL n ls = true) (hc : connB n ls = true) {q : Nat} (hq : q < N) : ∃ f, Pot N (betF ls) (valF ls) q f := by
  have hgn := good_n hg
  obtain ⟨xs, r, hr, hl, hqx, hrq, hv⟩ := rank_step hn hg hc hq N (by omega) (Nat.le_refl _)
  have hall := (hr.full).1 (by omega)
  refine ⟨_, pot_of (gr_of hn hg) (by omega) r hrq fun v hvN hvq => ?_⟩
  obtain ⟨h1, u, hu, hb, hlt⟩ := hv v (hall v (by omega) (by omega)) hvq
  have := hr.bound _ hu
  exact ⟨by omega, u, by omega, hb, hlt⟩

section
variable {N : Nat} {bet : Nat → Nat → Int} {val : Nat → Int}

/-! ### Toppling -/
/-- Chips c are reached from d by toppling each vertex s v times, and no script that ends stable topples less. -/
structure TS (N : Nat) (bet : Nat → Nat → Int) (val : Nat → Int) (z : Nat) (d c s : Nat → Int) : Prop where
  nn : ∀ v, v < N → 0 ≤ s v
  z0 : s z = 0
  eq : ∀ j, j < N → j ≠ z → c j = d j - ap N bet val s j
  lo : ∀ j, j < N → 0 ≤ c j
  sum : sm N c ≤ sm N d
  least : ∀ t : Nat → Int, (∀ v, v < N → 0 ≤ t v) → t z = 0 → (∀ j, j < N → j ≠ z → d j - ap N bet val t j < val j) → ∀ v, v < N → s v ≤ t v

theorem TS.start {z : Nat} {d : Nat → Int} (hd : ∀ j, j < N → 0 ≤ d j) : TS N bet val z d d (fun _ => 0) :=
  ⟨fun _ _ => Int.le_refl _, rfl, fun j _ _ => by rw [ap_zero]; omega, hd, Int.le_refl _, fun t ht _ _ v hv => ht v hv⟩
/-- One more toppling. -/
theorem TS.topple {z : Nat} {d c s : Nat → Int} (g : Gr N bet val) (h : TS N bet val z d c s) {v : Nat} (hv : v < N) (hvz : v ≠ z) (hc : val v ≤ c v) :
    TS N bet val z d (fun j => c j - 1 * lapE bet val v j) (fun i => if i = v then s v + 1 else s i) := by
  refine ⟨fun i hi => ?_, by rw [if_neg (Ne.symm hvz)]; exact h.z0, fun j hj hjz => ?_, fun j hj => ?_, ?_, fun t ht htz hst i hi => ?_⟩
  · have := h.nn i hi; have := h.nn v hv; split <;> omega
  · rw [ap_upd hv, h.eq j hj hjz]; omega
  · have := h.lo j hj
    have := g.nn v j
    unfold lapE
    by_cases e : v = j
    · subst e; rw [if_pos rfl]; omega
    · rw [if_neg e]; omega
  · rw [sm_sub, sm_mul, lap_zero g hv]; have := h.sum; omega
  · by_cases e : i = v
    · subst e
      rw [if_pos rfl]
      have hle := h.least t ht htz hst
      have h1 := hle i hv
      by_cases e2 : s i = t i
      · have h2 := ap_le g hv hle e2
        have h3 := hst i hv hvz
        have h4 := h.eq i hv hvz
        omega
      · omega
    · rw [if_neg e]; exact h.least t ht htz hst i hi
/-- What is put on z does not matter, if it is no more than was there. -/
theorem TS.clear {z : Nat} {d c s : Nat → Int} (h : TS N bet val z d c s) (hz : z < N) : TS N bet val z d (fun j => if j = z then 0 else c j) s := by
  refine ⟨h.nn, h.z0, fun j hj hjz => by rw [if_neg hjz]; exact h.eq j hj hjz, fun j hj => ?_, ?_, h.least⟩
  · have := h.lo j hj; split <;> omega
  · have := h.sum; have := h.lo z hz; rw [sm_upd hz]; omega
theorem TS.bound {z : Nat} {d c s : Nat → Int} (h : TS N bet val z d c s) {j : Nat} (hj : j < N) : 0 ≤ c j ∧ c j ≤ sm N d := by
  have := sm_at hj h.lo
  have := h.sum
  exact ⟨h.lo j hj, by omega⟩
/-- The ends are the same. -/
theorem TS.unique {z : Nat} {d c s c' s' : Nat → Int} (h : TS N bet val z d c s) (h' : TS N bet val z d c' s') (hs : ∀ j, j < N → j ≠ z → c j < val j) (hs' : ∀ j, j < N → j ≠ z → c' j < val j) :
    (∀ v, v < N → s v = s' v) ∧ ∀ j, j < N → j ≠ z → c j = c' j := by
  have h1 := h.least s' h'.nn h'.z0 (fun j hj hjz => by rw [← h'.eq j hj hjz]; exact hs' j hj hjz)
  have h2 := h'.least s h.nn h.z0 (fun j hj hjz => by rw [← h.eq j hj hjz]; exact hs j hj hjz)
  have e : ∀ v, v < N → s v = s' v := fun v hv => by have := h1 v hv; have := h2 v hv; omega
  exact ⟨e, fun j hj hjz => by rw [h.eq j hj hjz, h'.eq j hj hjz, ap_congr e]⟩

/-- The weight of chips. -/
def wt (N : Nat) (f c : Nat → Int) : Int := sm N fun j => f j * c j
theorem wt_nonneg {f c : Nat → Int} (hc : ∀ j, j < N → 0 ≤ f j * c j) : 0 ≤ wt N f c := sm_nonneg hc
theorem wt_fire (f c : Nat → Int) (v : Nat) (k : Int) : wt N f (fun j => c j - k * lapE bet val v j) = wt N f c - k * sm N (fun j => lapE bet val v j * f j) := by
  unfold wt
  rw [sm_congr (g := fun j => f j * c j - k * (lapE bet val v j * f j)) (fun j _ => by rw [Int.mul_sub, Int.mul_left_comm, Int.mul_comm (f j) (lapE bet val v j)]), sm_sub, sm_mul]
theorem wt_congr {f c c' : Nat → Int} (h : ∀ j, j < N → f j * c j = f j * c' j) : wt N f c = wt N f c' := sm_congr h
/-- A toppling lowers the weight. -/
theorem wt_down {z : Nat} {f c : Nat → Int} (p : Pot N bet val z f) {v : Nat} (hv : v < N) (hvz : v ≠ z) : wt N f (fun j => c j - 1 * lapE bet val v j) + 1 ≤ wt N f c := by
  rw [wt_fire]; have := p.lap v hv hvz; omega
theorem TS.wt_nn {z : Nat} {f d c s : Nat → Int} (p : Pot N bet val z f) (h : TS N bet val z d c s) : 0 ≤ wt N f c := sm_nonneg fun j hj => Int.mul_nonneg (p.nn j) (h.lo j hj)
theorem TS.wt_clear {z : Nat} {f c : Nat → Int} (p : Pot N bet val z f) : wt N f (fun j => if j = z then 0 else c j) = wt N f c := wt_congr fun j _ => by
  by_cases e : j = z
  · subst e; rw [p.q0]; simp
  · rw [if_neg e]
/-- How often each vertex topples at most. -/
theorem TS.script_le {z : Nat} {f d c s : Nat → Int} (p : Pot N bet val z f) (h : TS N bet val z d c s) {v : Nat} (hv : v < N) : s v ≤ wt N f d := by
  have h1 := h.wt_nn p
  have h2 : wt N f c = wt N f d - sm N (fun v => s v * sm N (fun j => lapE bet val v j * f j)) := by
    rw [← ap_pot]
    unfold wt
    rw [← sm_sub]
    refine sm_congr fun j hj => ?_
    by_cases e : j = z
    · subst e; rw [p.q0]; simp
    · rw [h.eq j hj e, Int.mul_sub]
  have h3 : sm N s ≤ sm N (fun v => s v * sm N (fun j => lapE bet val v j * f j)) := sm_mono fun v hv => by
    by_cases e : v = z
    · subst e; rw [h.z0]; simp
    · have := p.lap v hv e
      have := Int.mul_le_mul_of_nonneg_left this (h.nn v hv)
      rwa [Int.mul_one] at this
  have h4 := sm_at hv h.nn
  omega
end

end Go.Proofs.Ytmhmdbmiimpbnaa
