/-
  Reducing chips, plainly, as both walks need it: passes that pay debts; passes that fire what does not burn.
-/
import Derived.Test.YtmhmdbmiimpbnaaBurnR
namespace Go.Proofs.Ytmhmdbmiimpbnaa

section
variable {N : Nat} {bet : Nat → Nat → Int} {val : Nat → Int}

theorem val_pos {q : Nat} {f : Nat → Int} (g : Gr N bet val) (p : Pot N bet val q f) {v : Nat} (hv : v < N) (hvq : v ≠ q) : 1 ≤ val v := by
  have h1 := p.lap v hv hvq
  have h2 := sm_mono (N := N) (f := fun j => lapE bet val v j * f j) (g := fun j => if j = v then val v * f v else 0) (fun j _ => by
    by_cases e : j = v
    · subst e; rw [if_pos rfl, lapE_self]; exact Int.le_refl _
    · rw [if_neg e, lapE_other (Ne.symm e)]
      have := Int.mul_nonneg (g.nn v j) (p.nn j)
      rw [Int.neg_mul]; omega)
  rw [sm_one, if_pos hv] at h2
  have h3 := g.val_nn hv
  apply Classical.byContradiction
  intro hno
  have : val v = 0 := by omega
  rw [this, Int.zero_mul] at h2
  omega

/-! ### A pass that pays debts -/
/-- Has anything been paid in this pass? If not, no vertex up to k has a debt. -/
def Db (N : Nat) (q : Nat) (f c : Nat → Int) (k : Nat) (c' : Nat → Int) : Prop := wt N f c + 1 ≤ wt N f c' ∨ ((∀ j, j < N → c' j = c j) ∧ ∀ j, j < k → j ≠ q → 0 ≤ c j)
theorem Db.start (N : Nat) (q : Nat) (f c : Nat → Int) : Db N q f c 0 c := Or.inr ⟨fun _ _ => rfl, fun j hj => by omega⟩
theorem Db.next {q : Nat} {f c c' : Nat → Int} {k : Nat} (h : Db N q f c k c') (hk : k < N) (hs : k ≠ q → 0 ≤ c' k) : Db N q f c (k + 1) c' := by
  rcases h with h | ⟨h1, h2⟩
  · exact Or.inl h
  · refine Or.inr ⟨h1, fun j hj hjz => ?_⟩
    by_cases e : j = k
    · subst e; rw [← h1 j hk]; exact hs hjz
    · exact h2 j (by omega) hjz
theorem Db.pay {q : Nat} {f c c' c'' : Nat → Int} {k k' : Nat} (h : Db N q f c k c') (hd : wt N f c' + 1 ≤ wt N f c'') : Db N q f c k' c'' := by
  rcases h with h | ⟨h1, h2⟩
  · exact Or.inl (by omega)
  · refine Or.inl ?_
    rw [← wt_congr (N := N) (f := f) (c := c') (c' := c) (fun j hj => by rw [h1 j hj])]
    exact hd
theorem Db.end {q : Nat} {f c c' : Nat → Int} (h : Db N q f c N c') {v : Nat} (hv : v < N) (hvq : v ≠ q) (hc : c v < 0) : wt N f c + 1 ≤ wt N f c' := by
  rcases h with h | ⟨_, h2⟩
  · exact h
  · have := h2 v hv hvq; omega
/-- How much is still to pay. -/
def owed (N : Nat) (f c : Nat → Int) : Nat := (40 * sm N f - wt N f c).toNat
theorem owed_lt {q : Nat} {f d c c' s s' : Nat → Int} (p : Pot N bet val q f) (h : BS N bet val q d c s) (h' : BS N bet val q d c' s') (hw : wt N f c + 1 ≤ wt N f c') : owed N f c' + 1 ≤ owed N f c := by
  have h1 := wt_upper (M := 40) p h.up
  have h2 := wt_upper (M := 40) p h'.up
  unfold owed
  omega

/-! ### A pass that fires what does not burn -/
/-- What has been fired of the unburnt up to k. -/
noncomputable def pt (N : Nat) (bet : Nat → Nat → Int) (c : Nat → Int) (q k v : Nat) : Int := if v < k then unb N bet c q v else 0
theorem pt_nn (c : Nat → Int) (q k v : Nat) : 0 ≤ pt N bet c q k v ∧ pt N bet c q k v ≤ 1 := by
  have := unb_nn (N := N) (bet := bet) c q v
  unfold pt; split <;> omega
theorem pt_zero (c : Nat → Int) (q v : Nat) : pt N bet c q 0 v = 0 := if_neg (by omega)
theorem pt_end {c : Nat → Int} {q v : Nat} (hv : v < N) : pt N bet c q N v = unb N bet c q v := if_pos hv
theorem pt_skip {c : Nat → Int} {q k : Nat} (h : burnB N bet c q k = true) (v : Nat) : pt N bet c q (k + 1) v = pt N bet c q k v := by
  unfold pt
  by_cases e : v = k
  · subst e; rw [if_pos (by omega), if_neg (by omega)]; exact if_pos h
  · by_cases e2 : v < k
    · rw [if_pos e2, if_pos (by omega)]
    · rw [if_neg e2, if_neg (by omega)]
theorem pt_fire {c : Nat → Int} {q k : Nat} (h : burnB N bet c q k = false) (v : Nat) : pt N bet c q (k + 1) v = if v = k then pt N bet c q k k + 1 else pt N bet c q k v := by
  unfold pt
  by_cases e : v = k
  · subst e; rw [if_pos (by omega), if_pos rfl, if_neg (by omega)]
    have : unb N bet c q v = 1 := if_neg (by simp [h])
    omega
  · rw [if_neg e]
    by_cases e2 : v < k
    · rw [if_pos e2, if_pos (by omega)]
    · rw [if_neg e2, if_neg (by omega)]
theorem ap_bound {s : Nat → Int} (g : Gr N bet val) (hN : N ≤ 8) (hs : ∀ v, v < N → 0 ≤ s v ∧ s v ≤ 1) {j : Nat} (hj : j < N) : -40 ≤ ap N bet val s j ∧ ap N bet val s j ≤ 40 := by
  rw [ap_eq g hj]
  have h1 := sm_nonneg (N := N) (f := fun u => s u * bet u j) fun u hu => Int.mul_nonneg (hs u hu).1 (g.nn u j)
  have h2 := sm_mono (N := N) (f := fun u => s u * bet u j) (g := fun _ => 5) fun u hu => by
    have h3 := Int.mul_le_mul_of_nonneg_right (hs u hu).2 (g.nn u j)
    have h4 := g.le u j
    omega
  rw [sm_const] at h2
  have h5 := g.val_le hN hj
  have h6 := g.val_nn hj
  have h7 := Int.mul_nonneg (hs j hj).1 h6
  have h8 := Int.mul_le_mul_of_nonneg_right (hs j hj).2 h6
  omega

/-- The state between two passes. -/
structure P2 (N : Nat) (bet : Nat → Nat → Int) (val : Nat → Int) (q : Nat) (f c1 s1 c s : Nat → Int) : Prop where
  run : ∀ a b, Run N bet val q c s a b → Run N bet val q c1 (fun v => - s1 v) a b
  nn : ∀ j, j < N → j ≠ q → 0 ≤ c j
  lo : c1 q ≤ c q
  sum : sm N c = sm N c1
  sc : ∀ v, v < N → - s1 v ≤ s v ∧ s v + wt N f c ≤ wt N f c1
theorem P2.start {q : Nat} {f d c1 s1 : Nat → Int} (h : BS N bet val q d c1 s1) (hc : ∀ j, j < N → j ≠ q → 0 ≤ c1 j) : P2 N bet val q f c1 s1 c1 (fun v => - s1 v) :=
  ⟨fun _ _ h => h, hc, Int.le_refl _, rfl, fun v hv => ⟨Int.le_refl _, by have := h.nn v hv; omega⟩⟩
theorem P2.wt_nn {q : Nat} {f c1 s1 c s : Nat → Int} (p : Pot N bet val q f) (h : P2 N bet val q f c1 s1 c s) : 0 ≤ wt N f c := by
  have := wt_lower (M := 0) p h.nn
  omega
theorem P2.next {q : Nat} {f c1 s1 c s c' s' : Nat → Int} (g : Gr N bet val) (p : Pot N bet val q f) (hq : q < N) (h : P2 N bet val q f c1 s1 c s) (hex : ∃ v, v < N ∧ burnB N bet c q v = false)
    (ec : ∀ j, j < N → c' j = c j - ap N bet val (pt N bet c q N) j) (es : ∀ j, j < N → s' j = s j + pt N bet c q N j) : P2 N bet val q f c1 s1 c' s' ∧ wt N f c' + 1 ≤ wt N f c := by
  have ec' : ∀ j, j < N → c' j = c j - ap N bet val (unb N bet c q) j := fun j hj => by rw [ec j hj, ap_congr fun v hv => pt_end hv]
  have es' : ∀ j, j < N → s' j = s j + unb N bet c q j := fun j hj => by rw [es j hj, pt_end hj]
  have hd := unb_down p ec' hex
  refine ⟨⟨fun a b hr => h.run a b (Run.step c s c' s' a b hex ec' es' hr), fun j hj hjq => by rw [ec' j hj]; exact unb_fire g h.nn hj hjq, ?_, ?_, fun v hv => ?_⟩, hd⟩
  · rw [ec' q hq, ap_eq g hq, unb_q]
    have h1 := sm_nonneg (N := N) (f := fun u => unb N bet c q u * bet u q) fun u _ => Int.mul_nonneg (unb_nn c q u).1 (g.nn u q)
    have := h.lo
    omega
  · rw [sm_congr ec', sm_sub, ap_sum g, h.sum]; omega
  · rw [es' v hv]
    have h1 := h.sc v hv
    have h2 := unb_nn (N := N) (bet := bet) c q v
    omega
theorem P2.bound {q : Nat} {f d c1 s1 c s : Nat → Int} (g : Gr N bet val) (p : Pot N bet val q f) (hN : N ≤ 8) (hq : q < N) (hb : BS N bet val q d c1 s1) (hd : ∀ j, j < N → -40 ≤ d j ∧ d j ≤ 40) (h : P2 N bet val q f c1 s1 c s) :
    (∀ j, j < N → -2000000000000000 ≤ c j ∧ c j ≤ 2000000000000000) ∧ ∀ v, v < N → -2000000000000000 ≤ s v ∧ s v ≤ 2000000000000000 := by
  obtain ⟨b1, b2⟩ := hb.bound p g hN hd
  have hw := h.wt_nn p
  obtain ⟨p0, p1⟩ := pot_sum p hN
  have hw1 := wt_upper (M := 40) p hb.up
  have h1 : sm N c = c q + sm N (fun i => if i = q then 0 else c i) := sm_but hq
  have h2 : sm N c1 = c1 q + sm N (fun i => if i = q then 0 else c1 i) := sm_but hq
  have h3 := sm_mono (N := N) (f := fun i => if i = q then 0 else c1 i) (g := fun _ => 40) (fun i hi => by
    by_cases e : i = q
    · rw [if_pos e]; omega
    · rw [if_neg e]; exact hb.up i hi e)
  rw [sm_const] at h3
  have h4 : ∀ i, i < N → 0 ≤ (if i = q then 0 else c i) := fun i hi => by
    by_cases e : i = q
    · rw [if_pos e]; omega
    · rw [if_neg e]; exact h.nn i hi e
  have h5 := sm_nonneg h4
  have h6 := h.sum
  have h7 := h.lo
  have h8 := b1 q hq
  refine ⟨fun j hj => ?_, fun v hv => ?_⟩
  · by_cases e : j = q
    · subst e; omega
    · have h9 := sm_at hj h4
      rw [if_neg e] at h9
      have := h.nn j hj e
      omega
  · have := h.sc v hv
    have := b2 v hv
    omega
/-- All burns: the end. -/
theorem P2.fin {q : Nat} {f d c1 s1 c s : Nat → Int} (hb : BS N bet val q d c1 s1) (hc : ∀ j, j < N → j ≠ q → 0 ≤ c1 j) (h : P2 N bet val q f c1 s1 c s) (ha : ∀ v, v < N → burnB N bet c q v = true) : RedEnd N bet val q d (tab N c, tab N s) :=
  ⟨c1, s1, c, s, rfl, hb, hc, h.run c s (Run.stop c s ha)⟩

/-- How often a vertex must take chips back at once. -/
theorem times_ok {x v : Int} (hx : x < 0) (hv : 1 ≤ v) : 1 ≤ (-x + v - 1) / v ∧ x + ((-x + v - 1) / v - 1) * v < 0 ∧ (-x + v - 1) / v ≤ -x ∧ 0 ≤ x + (-x + v - 1) / v * v := by
  have h1 := Int.mul_ediv_add_emod (-x + v - 1) v
  have h2 := Int.emod_nonneg (-x + v - 1) (show v ≠ 0 by omega)
  have h3 := Int.emod_lt_of_pos (-x + v - 1) (show 0 < v by omega)
  generalize (-x + v - 1) / v = t at h1 ⊢
  generalize (-x + v - 1) % v = r at h1 h2 h3
  have e1 : t * v = v * t := Int.mul_comm _ _
  have e2 : (t - 1) * v = t * v - v := by rw [Int.sub_mul]; omega
  have ht : 1 ≤ t := by
    apply Classical.byContradiction
    intro hno
    have : v * t ≤ 0 := Int.mul_nonpos_of_nonneg_of_nonpos (by omega) (by omega)
    omega
  refine ⟨ht, by omega, ?_, by omega⟩
  have : 1 * (t - 1) ≤ v * (t - 1) := Int.mul_le_mul_of_nonneg_right hv (by omega)
  rw [Int.mul_sub v] at this
  omega
end

open Go.RowKit

/-- What both reductions give back: two lists in new memory. -/
def RetRed (N : Nat) (bet : Nat → Nat → Int) (val : Nat → Int) (q : Nat) (d : Nat → Int) (w : World) (e : Ending) (w' : World) : Prop :=
  ∃ (a b : Nat → Int) (g cap gt : Nat), RedEnd N bet val q d (tab N a, tab N b) ∧ e = .returned (.tuple #[.slice (some ⟨g, 0, none⟩) N cap, .slice (some ⟨gt, 0, none⟩) N N]) ∧ w.heap.size ≤ g ∧ w.heap.size ≤ gt ∧ Own w' g 3 (ints (tab N a)) ∧ Own w' gt 3 (ints (tab N b)) ∧ Below w.heap.size w w'

end Go.Proofs.Ytmhmdbmiimpbnaa
