/-
  Reducing chips, plainly: paying debts takes the least script; what burns; firing what does not burn, till all burns. No program in sight.
-/
import Derived.Test.YtmhmdbmiimpbnaaChipU
namespace Go.Proofs.Ytmhmdbmiimpbnaa

section
variable {N : Nat} {bet : Nat → Nat → Int} {val : Nat → Int}

theorem lapE_self (v : Nat) : lapE bet val v v = val v := if_pos rfl
theorem lapE_other {v j : Nat} (h : v ≠ j) : lapE bet val v j = - bet v j := if_neg h

/-! ### Paying debts -/
structure BS (N : Nat) (bet : Nat → Nat → Int) (val : Nat → Int) (q : Nat) (d c s : Nat → Int) : Prop where
  nn : ∀ v, v < N → 0 ≤ s v
  q0 : s q = 0
  eq : ∀ j, j < N → c j = d j + ap N bet val s j
  up : ∀ j, j < N → j ≠ q → c j ≤ 40
  least : ∀ t : Nat → Int, (∀ v, v < N → 0 ≤ t v) → t q = 0 → (∀ j, j < N → j ≠ q → 0 ≤ d j + ap N bet val t j) → ∀ v, v < N → s v ≤ t v

theorem BS.start {q : Nat} {d : Nat → Int} (hd : ∀ j, j < N → d j ≤ 40) : BS N bet val q d d (fun _ => 0) :=
  ⟨fun _ _ => Int.le_refl _, rfl, fun j _ => by rw [ap_zero]; omega, fun j hj _ => hd j hj, fun t ht _ _ v hv => ht v hv⟩
theorem BS.congr {q : Nat} {d c c' s s' : Nat → Int} (h : BS N bet val q d c s) (hq : q < N) (e : ∀ j, j < N → c j = c' j) (e' : ∀ j, j < N → s j = s' j) : BS N bet val q d c' s' :=
  ⟨fun v hv => by rw [← e' v hv]; exact h.nn v hv, by rw [← e' q hq]; exact h.q0, fun j hj => by rw [← e j hj, ← ap_congr e']; exact h.eq j hj, fun j hj hjq => by rw [← e j hj]; exact h.up j hj hjq,
    fun t ht htq hs v hv => by rw [← e' v hv]; exact h.least t ht htq hs v hv⟩
/-- A vertex in debt takes chips back, as often as it must. -/
theorem BS.borrow {q : Nat} {d c s : Nat → Int} (g : Gr N bet val) (hN : N ≤ 8) (h : BS N bet val q d c s) {v : Nat} (hv : v < N) (hvq : v ≠ q) {k : Int} (hk : 1 ≤ k) (hc : c v + (k - 1) * val v < 0) :
    BS N bet val q d (fun j => c j + k * lapE bet val v j) (fun i => if i = v then s v + k else s i) := by
  refine ⟨fun i hi => ?_, by rw [if_neg (Ne.symm hvq)]; exact h.q0, fun j hj => ?_, fun j hj hjq => ?_, fun t ht htq hst i hi => ?_⟩
  · have := h.nn i hi; have := h.nn v hv; split <;> omega
  · rw [ap_upd hv, h.eq j hj]; omega
  · by_cases e : v = j
    · subst e
      rw [lapE_self]
      have := g.val_le hN hv
      rw [Int.sub_mul] at hc
      omega
    · rw [lapE_other e]
      have := h.up j hj hjq
      have := Int.mul_nonneg (show 0 ≤ k by omega) (g.nn v j)
      rw [Int.mul_neg]
      omega
  · by_cases e : i = v
    · subst e
      rw [if_pos rfl]
      have hle := h.least t ht htq hst
      have h1 := hle i hv
      apply Classical.byContradiction
      intro hno
      have hs' : ∀ u, u < N → (fun x => if x = i then s i + (t i - s i) else s x) u ≤ t u := fun u hu => by
        by_cases e2 : u = i
        · subst e2; simp only [if_true]; omega
        · simp only [if_neg e2]; exact hle u hu
      have h2 := ap_le g hv hs' (by simp only [if_true]; omega)
      rw [ap_upd hv, lapE_self] at h2
      have h3 := hst i hv hvq
      have h4 := h.eq i hv
      have h5 : (t i - s i) * val i ≤ (k - 1) * val i := Int.mul_le_mul_of_nonneg_right (by omega) (g.val_nn hv)
      omega
    · rw [if_neg e]; exact h.least t ht htq hst i hi
theorem BS.unique {q : Nat} {d c s c' s' : Nat → Int} (h : BS N bet val q d c s) (h' : BS N bet val q d c' s') (hs : ∀ j, j < N → j ≠ q → 0 ≤ c j) (hs' : ∀ j, j < N → j ≠ q → 0 ≤ c' j) :
    (∀ v, v < N → s v = s' v) ∧ ∀ j, j < N → c j = c' j := by
  have h1 := h.least s' h'.nn h'.q0 (fun j hj hjq => by rw [← h'.eq j hj]; exact hs' j hj hjq)
  have h2 := h'.least s h.nn h.q0 (fun j hj hjq => by rw [← h.eq j hj]; exact hs j hj hjq)
  have e : ∀ v, v < N → s v = s' v := fun v hv => by have := h1 v hv; have := h2 v hv; omega
  exact ⟨e, fun j hj => by rw [h.eq j hj, h'.eq j hj, ap_congr e]⟩

theorem wt_add (f c : Nat → Int) (v : Nat) (k : Int) : wt N f (fun j => c j + k * lapE bet val v j) = wt N f c + k * sm N (fun j => lapE bet val v j * f j) := by
  unfold wt
  rw [sm_congr (g := fun j => f j * c j + k * (lapE bet val v j * f j)) (fun j _ => by rw [Int.mul_add, Int.mul_left_comm, Int.mul_comm (f j) (lapE bet val v j)]), sm_add, sm_mul]
theorem wt_rise {q : Nat} {f c : Nat → Int} (p : Pot N bet val q f) {v : Nat} (hv : v < N) (hvq : v ≠ q) {k : Int} (hk : 1 ≤ k) : wt N f c + 1 ≤ wt N f (fun j => c j + k * lapE bet val v j) := by
  rw [wt_add]
  have h1 := p.lap v hv hvq
  have := Int.mul_le_mul hk h1 (by omega) (by omega)
  omega
theorem wt_upper {q : Nat} {f c : Nat → Int} {M : Int} (p : Pot N bet val q f) (hc : ∀ j, j < N → j ≠ q → c j ≤ M) : wt N f c ≤ M * sm N f := by
  unfold wt
  rw [← sm_mul]
  refine sm_mono fun j hj => ?_
  by_cases e : j = q
  · subst e; rw [p.q0]; simp
  · rw [Int.mul_comm M]; exact Int.mul_le_mul_of_nonneg_left (hc j hj e) (p.nn j)
theorem wt_lower {q : Nat} {f c : Nat → Int} {M : Int} (p : Pot N bet val q f) (hc : ∀ j, j < N → j ≠ q → M ≤ c j) : M * sm N f ≤ wt N f c := by
  unfold wt
  rw [← sm_mul]
  refine sm_mono fun j hj => ?_
  by_cases e : j = q
  · subst e; rw [p.q0]; simp
  · rw [Int.mul_comm M]; exact Int.mul_le_mul_of_nonneg_left (hc j hj e) (p.nn j)
theorem pot_sum {q : Nat} {f : Nat → Int} (p : Pot N bet val q f) (hN : N ≤ 8) : 0 ≤ sm N f ∧ sm N f ≤ 800000000000 := by
  have h1 := sm_nonneg (N := N) (f := f) (fun j _ => p.nn j)
  have h2 := sm_mono (N := N) (f := f) (g := fun _ => 100000000000) (fun j _ => p.up j)
  rw [sm_const] at h2
  omega
/-- All but one place. -/
theorem sm_but {f : Nat → Int} {v : Nat} (hv : v < N) : sm N f = f v + sm N (fun j => if j = v then 0 else f j) := by
  rw [sm_upd hv]; omega
/-- The bounds while debts are paid. -/
theorem BS.bound {q : Nat} {f d c s : Nat → Int} (p : Pot N bet val q f) (g : Gr N bet val) (hN : N ≤ 8) (h : BS N bet val q d c s) (hd : ∀ j, j < N → -40 ≤ d j ∧ d j ≤ 40) :
    (∀ j, j < N → -1000000000000000 ≤ c j ∧ c j ≤ 1000000000000000) ∧ ∀ v, v < N → 0 ≤ s v ∧ s v ≤ 1000000000000000 := by
  obtain ⟨p0, p1⟩ := pot_sum p hN
  have hw : wt N f c = wt N f d + sm N (fun v => s v * sm N (fun j => lapE bet val v j * f j)) := by
    rw [← ap_pot]
    unfold wt
    rw [← sm_add]
    exact sm_congr fun j hj => by rw [h.eq j hj, Int.mul_add]
  have hs : sm N s ≤ sm N (fun v => s v * sm N (fun j => lapE bet val v j * f j)) := sm_mono fun v hv => by
    by_cases e : v = q
    · subst e; rw [h.q0]; simp
    · have := Int.mul_le_mul_of_nonneg_left (p.lap v hv e) (h.nn v hv)
      rwa [Int.mul_one] at this
  have hs0 := sm_nonneg h.nn
  have hwl := wt_lower (M := -40) p (fun j hj _ => (hd j hj).1)
  have hwu := wt_upper (M := 40) p h.up
  have hlow : ∀ v, v < N → v ≠ q → -64000000000000 ≤ c v := by
    intro v hv hvq
    have h1 : wt N f c = f v * c v + sm N (fun j => if j = v then 0 else f j * c j) := sm_but hv
    have h2 : sm N (fun j => if j = v then 0 else f j * c j) ≤ 40 * sm N f := by
      rw [← sm_mul]
      refine sm_mono fun j hj => ?_
      by_cases e : j = v
      · subst e; rw [if_pos rfl]; have := p.nn j; omega
      · rw [if_neg e]
        by_cases e2 : j = q
        · subst e2; rw [p.q0]; simp
        · rw [Int.mul_comm 40]; exact Int.mul_le_mul_of_nonneg_left (h.up j hj e2) (p.nn j)
    have h3 := p.pos v hv hvq
    by_cases h4 : 0 ≤ c v
    · omega
    · have h5 : f v * c v ≤ 1 * c v := Int.mul_le_mul_of_nonpos_right h3 (by omega)
      omega
  refine ⟨fun j hj => ?_, fun v hv => ?_⟩
  · by_cases e : j = q
    · subst e
      have h1 : sm N c = c j + sm N (fun i => if i = j then 0 else c i) := sm_but hj
      have h2 : sm N c = sm N d := by
        rw [sm_congr h.eq, sm_add, ap_sum g]; omega
      have h3 := sm_mono (N := N) (f := fun i => if i = j then 0 else c i) (g := fun _ => 40) (fun i hi => by
        by_cases e : i = j
        · rw [if_pos e]; omega
        · rw [if_neg e]; exact h.up i hi e)
      have h4 := sm_mono (N := N) (f := fun _ => -64000000000000) (g := fun i => if i = j then 0 else c i) (fun i hi => by
        by_cases e : i = j
        · rw [if_pos e]; omega
        · rw [if_neg e]; exact hlow i hi e)
      have h5 := sm_mono (N := N) (f := d) (g := fun _ => 40) (fun i hi => (hd i hi).2)
      have h6 := sm_mono (N := N) (f := fun _ => -40) (g := d) (fun i hi => (hd i hi).1)
      rw [sm_const] at h3 h4 h5 h6
      omega
    · have := hlow j hj e
      have := h.up j hj e
      omega
  · have := sm_at hv h.nn
    have := h.nn v hv
    omega
theorem bs_end {q : Nat} {f d : Nat → Int} (g : Gr N bet val) (hN : N ≤ 8) (p : Pot N bet val q f) : ∀ (k : Nat) (c s : Nat → Int), BS N bet val q d c s → (40 * sm N f - wt N f c).toNat ≤ k → ∃ c' s', BS N bet val q d c' s' ∧ ∀ j, j < N → j ≠ q → 0 ≤ c' j := by
  intro k
  induction k with
  | zero =>
    intro c s h hk
    refine ⟨c, s, h, fun j hj hjq => ?_⟩
    apply Classical.byContradiction
    intro hno
    have h1 := wt_rise (c := c) p hj hjq (Int.le_refl 1)
    have h2 := wt_upper (M := 40) p (h.borrow g hN hj hjq (Int.le_refl 1) (by simp; omega)).up
    omega
  | succ k ih =>
    intro c s h hk
    by_cases hs : ∀ j, j < N → j ≠ q → 0 ≤ c j
    · exact ⟨c, s, h, hs⟩
    · have : ∃ j, j < N ∧ j ≠ q ∧ c j < 0 := by
        apply Classical.byContradiction
        intro hno
        exact hs fun j hj hjq => by
          apply Classical.byContradiction
          intro q'
          exact hno ⟨j, hj, hjq, by omega⟩
      obtain ⟨j, hj, hjq, hc⟩ := this
      have h1 := wt_rise (c := c) p hj hjq (Int.le_refl 1)
      have h2 := h.borrow g hN hj hjq (Int.le_refl 1) (by simp; omega)
      have h3 := wt_upper (M := 40) p h2.up
      exact ih _ _ h2 (by omega)

/-! ### What burns -/
def Burn (N : Nat) (bet : Nat → Nat → Int) (c : Nat → Int) (q v : Nat) : Prop := ∀ S : Nat → Bool, S q = true → (∀ v, v < N → c v < sm N (fun u => if S u = true then bet v u else 0) → S v = true) → S v = true
open Classical in
noncomputable def burnB (N : Nat) (bet : Nat → Nat → Int) (c : Nat → Int) (q v : Nat) : Bool := decide (Burn N bet c q v)
open Classical in
theorem burnB_t {c : Nat → Int} {q v : Nat} : burnB N bet c q v = true ↔ Burn N bet c q v := by unfold burnB; exact decide_eq_true_iff
theorem burnB_q (c : Nat → Int) (q : Nat) : burnB N bet c q q = true := burnB_t.2 fun _ h _ => h
theorem sm_set_mono {S T : Nat → Bool} (nn : ∀ i j, 0 ≤ bet i j) (v : Nat) (h : ∀ u, u < N → S u = true → T u = true) : sm N (fun u => if S u = true then bet v u else 0) ≤ sm N (fun u => if T u = true then bet v u else 0) := sm_mono fun u hu => by
  by_cases e : S u = true
  · rw [if_pos e, if_pos (h u hu e)]; exact Int.le_refl _
  · rw [if_neg e]; split
    · exact nn v u
    · exact Int.le_refl _
theorem burn_closed {c : Nat → Int} {q : Nat} (nn : ∀ i j, 0 ≤ bet i j) {v : Nat} (hv : v < N) (h : c v < sm N (fun u => if burnB N bet c q u = true then bet v u else 0)) : burnB N bet c q v = true := burnB_t.2 fun S hS hcl => hcl v hv (by
  have := sm_set_mono (N := N) (bet := bet) (S := burnB N bet c q) (T := S) nn v (fun u _ hu => burnB_t.1 hu S hS hcl)
  omega)
theorem burn_step {c : Nat → Int} {q : Nat} {M : Nat → Bool} (nn : ∀ i j, 0 ≤ bet i j) (hM : ∀ u, u < N → M u = true → burnB N bet c q u = true) {v : Nat} (hv : v < N) (h : c v < sm N (fun u => if M u = true then bet v u else 0)) : burnB N bet c q v = true := burn_closed nn hv (by
  have := sm_set_mono (N := N) (bet := bet) (S := M) (T := burnB N bet c q) nn v hM
  omega)
theorem burn_marks {c : Nat → Int} {q : Nat} {M : Nat → Bool} (hq : M q = true) (hM : ∀ u, u < N → M u = true → burnB N bet c q u = true) (hcl : ∀ v, v < N → c v < sm N (fun u => if M u = true then bet v u else 0) → M v = true) {v : Nat} (hv : v < N) : M v = burnB N bet c q v := by
  rw [Bool.eq_iff_iff]
  exact ⟨hM v hv, fun h => burnB_t.1 h M hq hcl⟩
theorem burn_congr {c c' : Nat → Int} (h : ∀ j, j < N → c j = c' j) (q v : Nat) : burnB N bet c q v = burnB N bet c' q v := by
  rw [Bool.eq_iff_iff, burnB_t, burnB_t]
  exact ⟨fun k S hS hcl => k S hS fun v hv hh => hcl v hv (by rw [← h v hv]; exact hh), fun k S hS hcl => k S hS fun v hv hh => hcl v hv (by rw [h v hv]; exact hh)⟩
/-- What burns in the end has less than its valence. -/
theorem burn_small {c : Nat → Int} {q v : Nat} (g : Gr N bet val) (hv : v < N) (hvq : v ≠ q) (h : burnB N bet c q v = true) : c v < val v := by
  apply Classical.byContradiction
  intro hno
  have := burnB_t.1 h (fun u => decide (u ≠ v)) (by simp; exact Ne.symm hvq) (fun u hu hc => by
    by_cases e : u = v
    · subst e
      have h1 := sm_mono (N := N) (f := fun w => if decide (w ≠ u) = true then bet u w else 0) (g := bet u) (fun w _ => by
        split
        · exact Int.le_refl _
        · exact g.nn u w)
      rw [← g.vs u hu] at h1
      omega
    · simpa using e)
  simp at this

/-- 1 where it does not burn. -/
noncomputable def unb (N : Nat) (bet : Nat → Nat → Int) (c : Nat → Int) (q v : Nat) : Int := if burnB N bet c q v = true then 0 else 1
theorem unb_nn (c : Nat → Int) (q v : Nat) : 0 ≤ unb N bet c q v ∧ unb N bet c q v ≤ 1 := by unfold unb; split <;> omega
theorem unb_q (c : Nat → Int) (q : Nat) : unb N bet c q q = 0 := if_pos (burnB_q c q)
theorem unb_congr {c c' : Nat → Int} (h : ∀ j, j < N → c j = c' j) (q v : Nat) : unb N bet c q v = unb N bet c' q v := by unfold unb; rw [burn_congr h]
/-- Firing what does not burn makes no debts. -/
theorem unb_fire {c : Nat → Int} {q : Nat} (g : Gr N bet val) (hc : ∀ j, j < N → j ≠ q → 0 ≤ c j) {j : Nat} (hj : j < N) (hjq : j ≠ q) : 0 ≤ c j - ap N bet val (unb N bet c q) j := by
  rw [ap_eq g hj]
  have hs : 0 ≤ sm N (fun u => unb N bet c q u * bet u j) := sm_nonneg fun u _ => Int.mul_nonneg (unb_nn c q u).1 (g.nn u j)
  by_cases e : burnB N bet c q j = true
  · have : unb N bet c q j = 0 := if_pos e
    rw [this]
    have := hc j hj hjq
    omega
  · have h1 : unb N bet c q j = 1 := if_neg e
    rw [h1]
    have h2 : ¬ c j < sm N (fun u => if burnB N bet c q u = true then bet j u else 0) := fun q' => e (burn_closed g.nn hj q')
    have h3 : sm N (fun u => if burnB N bet c q u = true then bet j u else 0) + sm N (fun u => unb N bet c q u * bet u j) = val j := by
      rw [← sm_add, g.vs j hj]
      refine sm_congr fun u _ => ?_
      unfold unb
      by_cases e2 : burnB N bet c q u = true
      · rw [if_pos e2, if_pos e2]; omega
      · rw [if_neg e2, if_neg e2, g.sym u j]; omega
    omega
theorem unb_down {c c' f : Nat → Int} {q : Nat} (p : Pot N bet val q f) (hc' : ∀ j, j < N → c' j = c j - ap N bet val (unb N bet c q) j) (hex : ∃ v, v < N ∧ burnB N bet c q v = false) : wt N f c' + 1 ≤ wt N f c := by
  have h1 : wt N f c' = wt N f c - sm N (fun v => unb N bet c q v * sm N (fun j => lapE bet val v j * f j)) := by
    rw [← ap_pot]
    unfold wt
    rw [← sm_sub]
    exact sm_congr fun j hj => by rw [hc' j hj, Int.mul_sub]
  obtain ⟨v, hv, hb⟩ := hex
  have hvu : unb N bet c q v = 1 := if_neg (by simp [hb])
  have hvq : v ≠ q := fun e => by subst e; rw [burnB_q] at hb; cases hb
  have h2 := sm_at (f := fun v => unb N bet c q v * sm N (fun j => lapE bet val v j * f j)) hv (fun i hi => by
    by_cases e : i = q
    · subst e; rw [unb_q]; simp
    · have := p.lap i hi e
      exact Int.mul_nonneg (unb_nn c q i).1 (by omega))
  simp only [hvu] at h2
  have := p.lap v hv hvq
  omega

/-! ### Firing till all burns -/
inductive Run (N : Nat) (bet : Nat → Nat → Int) (val : Nat → Int) (q : Nat) : (Nat → Int) → (Nat → Int) → (Nat → Int) → (Nat → Int) → Prop
  | stop (c s : Nat → Int) : (∀ v, v < N → burnB N bet c q v = true) → Run N bet val q c s c s
  | step (c s c1 s1 c' s' : Nat → Int) : (∃ v, v < N ∧ burnB N bet c q v = false) → (∀ j, j < N → c1 j = c j - ap N bet val (unb N bet c q) j) → (∀ j, j < N → s1 j = s j + unb N bet c q j) → Run N bet val q c1 s1 c' s' → Run N bet val q c s c' s'
theorem Run.unique {q : Nat} {c s a b : Nat → Int} (h : Run N bet val q c s a b) : ∀ {c2 s2 a2 b2 : Nat → Int}, (∀ j, j < N → c j = c2 j) → (∀ j, j < N → s j = s2 j) → Run N bet val q c2 s2 a2 b2 → (∀ j, j < N → a j = a2 j) ∧ ∀ j, j < N → b j = b2 j := by
  induction h with
  | stop c s hb =>
    intro c2 s2 a2 b2 ec es h2
    cases h2 with
    | stop _ _ _ => exact ⟨ec, es⟩
    | step _ _ c1 s1 _ _ hex _ _ _ =>
      obtain ⟨v, hv, hvb⟩ := hex
      rw [← burn_congr ec, hb v hv] at hvb
      cases hvb
  | step c s c1 s1 c' s' hex e1 e2 hr ih =>
    intro c2 s2 a2 b2 ec es h2
    cases h2 with
    | stop _ _ hb =>
      obtain ⟨v, hv, hvb⟩ := hex
      rw [burn_congr ec, hb v hv] at hvb
      cases hvb
    | step _ _ c3 s3 _ _ _ e3 e4 hr2 =>
      refine ih (fun j hj => ?_) (fun j hj => ?_) hr2
      · rw [e1 j hj, e3 j hj, ec j hj, ap_congr (fun v _ => unb_congr ec q v)]
      · rw [e2 j hj, e4 j hj, es j hj, unb_congr ec]
theorem Run.fin {q : Nat} {c s a b : Nat → Int} (g : Gr N bet val) (h : Run N bet val q c s a b) (hc : ∀ j, j < N → j ≠ q → 0 ≤ c j) : (∀ j, j < N → j ≠ q → 0 ≤ a j) ∧ (∀ v, v < N → burnB N bet a q v = true) ∧ sm N a = sm N c := by
  induction h with
  | stop c s hb => exact ⟨hc, hb, rfl⟩
  | step c s c1 s1 c' s' hex e1 e2 hr ih =>
    obtain ⟨h1, h2, h3⟩ := ih (fun j hj hjq => by rw [e1 j hj]; exact unb_fire g hc hj hjq)
    refine ⟨h1, h2, ?_⟩
    rw [h3, sm_congr e1, sm_sub, ap_sum g]; omega
theorem run_end {q : Nat} {f : Nat → Int} (g : Gr N bet val) (p : Pot N bet val q f) : ∀ (k : Nat) (c s : Nat → Int), (∀ j, j < N → j ≠ q → 0 ≤ c j) → (wt N f c).toNat ≤ k → ∃ a b, Run N bet val q c s a b := by
  have hwn : ∀ c : Nat → Int, (∀ j, j < N → j ≠ q → 0 ≤ c j) → 0 ≤ wt N f c := fun c hc => by
    have := wt_lower (M := 0) p hc
    omega
  intro k
  induction k with
  | zero =>
    intro c s hc hk
    by_cases hex : ∃ v, v < N ∧ burnB N bet c q v = false
    · have h1 := unb_down (c' := fun j => c j - ap N bet val (unb N bet c q) j) p (fun _ _ => rfl) hex
      have h2 := hwn _ (fun j hj hjq => unb_fire g hc hj hjq)
      omega
    · exact ⟨c, s, Run.stop c s fun v hv => by
        cases hb : burnB N bet c q v with
        | true => rfl
        | false => exact absurd ⟨v, hv, hb⟩ hex⟩
  | succ k ih =>
    intro c s hc hk
    by_cases hex : ∃ v, v < N ∧ burnB N bet c q v = false
    · have h1 := unb_down (c' := fun j => c j - ap N bet val (unb N bet c q) j) p (fun _ _ => rfl) hex
      have h2 := hwn _ (fun j hj hjq => unb_fire g hc hj hjq)
      obtain ⟨a, b, hr⟩ := ih (fun j => c j - ap N bet val (unb N bet c q) j) (fun j => s j + unb N bet c q j) (fun j hj hjq => unb_fire g hc hj hjq) (by omega)
      exact ⟨a, b, Run.step c s _ _ a b hex (fun _ _ => rfl) (fun _ _ => rfl) hr⟩
    · exact ⟨c, s, Run.stop c s fun v hv => by
        cases hb : burnB N bet c q v with
        | true => rfl
        | false => exact absurd ⟨v, hv, hb⟩ hex⟩

/-! ### The reduced chips and their script -/
def RedEnd (N : Nat) (bet : Nat → Nat → Int) (val : Nat → Int) (q : Nat) (d : Nat → Int) (r : List Int × List Int) : Prop :=
  ∃ c1 s1 a b, r = (tab N a, tab N b) ∧ BS N bet val q d c1 s1 ∧ (∀ j, j < N → j ≠ q → 0 ≤ c1 j) ∧ Run N bet val q c1 (fun v => - s1 v) a b
theorem RedEnd.unique {q : Nat} {d : Nat → Int} {r r' : List Int × List Int} (h : RedEnd N bet val q d r) (h' : RedEnd N bet val q d r') : r = r' := by
  obtain ⟨c1, s1, a, b, rfl, hb, hc, hr⟩ := h
  obtain ⟨c2, s2, a2, b2, rfl, hb2, hc2, hr2⟩ := h'
  obtain ⟨e1, e2⟩ := hb.unique hb2 hc hc2
  obtain ⟨e3, e4⟩ := hr.unique e2 (fun j hj => by rw [e1 j hj]) hr2
  rw [tab_congr e3, tab_congr e4]
noncomputable def redR (N : Nat) (bet : Nat → Nat → Int) (val : Nat → Int) (q : Nat) (d : Nat → Int) : List Int × List Int := Classical.epsilon (RedEnd N bet val q d)
theorem RedEnd.eq {q : Nat} {d : Nat → Int} {r : List Int × List Int} (h : RedEnd N bet val q d r) : redR N bet val q d = r := RedEnd.unique (Classical.epsilon_spec ⟨r, h⟩) h
theorem redEnd_exists {q : Nat} {f d : Nat → Int} (g : Gr N bet val) (hN : N ≤ 8) (p : Pot N bet val q f) (hd : ∀ j, j < N → d j ≤ 40) : ∃ r, RedEnd N bet val q d r := by
  obtain ⟨c, s, h1, h2⟩ := bs_end g hN p _ d _ (BS.start hd) (Nat.le_refl _)
  obtain ⟨a, b, h3⟩ := run_end g p _ c (fun v => - s v) h2 (Nat.le_refl _)
  exact ⟨_, c, s, a, b, rfl, h1, h2, h3⟩
/-- What is known of reduced chips. -/
theorem RedEnd.props {q : Nat} {d : Nat → Int} {r : List Int × List Int} (g : Gr N bet val) (hN : N ≤ 8) (hq : q < N) (h : RedEnd N bet val q d r) (hd : ∀ j, j < N → -40 ≤ d j ∧ d j ≤ 40) :
    ∃ a b, r = (tab N a, tab N b) ∧ (∀ j, j < N → j ≠ q → 0 ≤ a j ∧ a j ≤ 34) ∧ (∀ v, v < N → burnB N bet a q v = true) ∧ sm N a = sm N d ∧ -1000 ≤ a q ∧ a q ≤ 1000 := by
  obtain ⟨c1, s1, a, b, rfl, hb, hc, hr⟩ := h
  obtain ⟨h1, h2, h3⟩ := hr.fin g hc
  have h4 : sm N c1 = sm N d := by rw [sm_congr hb.eq, sm_add, ap_sum g]; omega
  have h5 : ∀ j, j < N → j ≠ q → 0 ≤ a j ∧ a j ≤ 34 := fun j hj hjq => by
    have := burn_small g hj hjq (h2 j hj)
    have := g.val_le hN hj
    have := h1 j hj hjq
    omega
  refine ⟨a, b, rfl, h5, h2, by omega, ?_⟩
  have h6 : sm N a = a q + sm N (fun i => if i = q then 0 else a i) := sm_but hq
  have h7 := sm_mono (N := N) (f := fun i => if i = q then 0 else a i) (g := fun _ => 34) (fun i hi => by
    by_cases e : i = q
    · rw [if_pos e]; omega
    · rw [if_neg e]; exact (h5 i hi e).2)
  have h8 := sm_nonneg (N := N) (f := fun i => if i = q then 0 else a i) (fun i hi => by
    by_cases e : i = q
    · rw [if_pos e]; omega
    · rw [if_neg e]; exact (h5 i hi e).1)
  have h9 := sm_mono (N := N) (f := d) (g := fun _ => 40) (fun i hi => (hd i hi).2)
  have h10 := sm_mono (N := N) (f := fun _ => -40) (g := d) (fun i hi => (hd i hi).1)
  rw [sm_const] at h7 h9 h10
  omega
end

end Go.Proofs.Ytmhmdbmiimpbnaa
