/-
  Circuits: all of them are in the list; a negative closed walk holds a negative circuit. Plain. By an AI agent.
-/
import Derived.Test.YtjkfighooijblaaGreatWzP
import Derived.Test.YtjkfighooijblaaGreatAsP
namespace Go.Proofs.YtjkfighooijblaaGreat

/-- a circuit that begins with its least node. -/
structure Cir (n : Nat) (m : Nat → Nat → Int) (c : List Int) : Prop where
  pth : Pth n m c
  shut : m (laV c) (vx c 0) ≠ 1000000000
  low : ∀ t, 0 < t → t < c.length → vx c 0 < vx c t
theorem vx_app {l : List Int} (r : List Int) {t : Nat} (h : t < l.length) : vx (l ++ r) t = vx l t := by
  unfold vx
  rw [List.getD_eq_getElem?_getD, List.getElem?_append_left h, ← List.getD_eq_getElem?_getD]
theorem stB_at {m : Nat → Nat → Int} {l : List Int} : ∀ {s t : Nat}, stB m l s = true → t < s → m (vx l t) (vx l (t + 1)) ≠ 1000000000
  | 0, _, _, h => absurd h (Nat.not_lt_zero _)
  | s + 1, t, h, ht => by
    unfold stB at h
    rw [Bool.and_eq_true] at h
    by_cases e : t = s
    · subst e
      have := h.2
      simpa using this
    · exact stB_at h.1 (by omega)
theorem own_mem {m : Nat → Nat → Int} {l : List Int} (h : m (laV l) (vx l 0) ≠ 1000000000) : l ∈ ownC m l := by
  unfold ownC
  rw [if_neg h]
  simp
theorem cirF_all {n : Nat} {m : Nat → Nat → Int} : ∀ (f : Nat) {l c : List Int}, Pth n m l → n ≤ l.length + f → Cir n m c → (∃ r, c = l ++ r) → c ∈ cirF n m f l
  | f, l, c, h, hf, hc, ⟨r, hr⟩ => by
    cases r with
    | nil =>
      rw [List.append_nil] at hr
      subst hr
      cases f with
      | zero => exact own_mem hc.shut
      | succ f => rw [cirF_succ]; exact List.mem_append_left _ (own_mem hc.shut)
    | cons x r =>
      have hp := h.pos
      have hlc : l.length < c.length := by rw [hr]; simp
      have hcl := hc.pth.len
      cases f with
      | zero => omega
      | succ f =>
        have hx := vt_at hc.pth.vt hlc
        have hx0 : c.getD l.length 0 = x := by rw [hr]; simp [List.getD_eq_getElem?_getD]
        rw [hx0] at hx
        have h0 : vx c 0 = vx l 0 := by rw [hr]; exact vx_app _ (by omega)
        have hlow := hc.low l.length (by omega) hlc
        have hlast : vx c (l.length - 1) = laV l := by unfold laV; rw [hr]; exact vx_app _ (by omega)
        have harc := stB_at hc.pth.st (t := l.length - 1) (by omega)
        rw [hlast, show l.length - 1 + 1 = l.length by omega] at harc
        have hni : (((vx c l.length : Nat) : Int)) ∉ l := (not_mem_vx h.vt).2 fun t ht e => hc.pth.nd t l.length ht hlc (by rw [← e]; rw [hr]; exact vx_app _ ht)
        obtain ⟨k, hk⟩ : ∃ k, vx c l.length = k := ⟨_, rfl⟩
        rw [hk] at hx hlow harc hni
        obtain ⟨hxk, hkn⟩ := hx
        have hp2 := h.ext hkn harc hni
        rw [cirF_succ]
        refine List.mem_append_right _ ?_
        unfold cirT
        rw [List.mem_flatMap]
        refine ⟨k - (vx l 0 + 1), List.mem_range.2 (by omega), ?_⟩
        rw [show vx l 0 + 1 + (k - (vx l 0 + 1)) = k by omega, if_pos (exB_t.2 ⟨harc, hni⟩)]
        exact cirF_all f hp2 (by rw [List.length_append, List.length_singleton]; omega) hc ⟨r, by rw [hr, hxk]; simp⟩
theorem allC_all {n : Nat} {m : Nat → Nat → Int} {c : List Int} (hc : Cir n m c) : c ∈ allC n m n := by
  have hp := hc.pth.pos
  unfold allC
  rw [List.mem_flatMap]
  refine ⟨vx c 0, List.mem_range.2 hc.pth.hd, cirF_all (n - 1) (Pth.one m hc.pth.hd) (by simp; omega) hc ?_⟩
  cases c with
  | nil => simp at hp
  | cons x r =>
    have := (vt_at hc.pth.vt (t := 0) (by simp)).1
    exact ⟨r, by rw [← this]; rfl⟩

/-! ### a negative closed walk holds a negative circuit -/
/-- the nodes of a round without a node twice. -/
structure Rnd (n : Nat) (F : Nat → Nat → Int) (v : Nat → Nat) (s : Nat) : Prop where
  pos : 0 < s
  lt : ∀ t, t ≤ s → v t < n
  nd : ∀ a b, a < b → b < s → v a ≠ v b
  shut : v s = v 0
  arc : ∀ t, t < s → F (v t) (v (t + 1)) ≠ 1000000000
theorem wk_arc {n : Nat} {F : Nat → Nat → Int} {i k : Nat} {c : Int} (h : Wk n F i k c 1) : F i k ≠ 1000000000 ∧ c = F i k := by
  generalize hs : 1 = s at h
  cases h with
  | nil _ => omega
  | snoc hw hk hne =>
    rename_i j s c
    obtain rfl : s = 0 := by omega
    cases hw
    exact ⟨hne, by omega⟩
theorem wk_sum {n : Nat} {F : Nat → Nat → Int} {v : Nat → Nat} {P : Nat → Int} {s : Nat} (h : ∀ a b, a ≤ b → b ≤ s → Wk n F (v a) (v b) (P b - P a) (b - a)) : (∀ t, t < s → F (v t) (v (t + 1)) ≠ 1000000000) ∧ ∀ t, t ≤ s → smN (fun t => F (v t) (v (t + 1))) t = P t - P 0 := by
  have key : ∀ t, t < s → F (v t) (v (t + 1)) ≠ 1000000000 ∧ P (t + 1) - P t = F (v t) (v (t + 1)) := fun t ht => wk_arc ((h t (t + 1) (by omega) ht).cast rfl (by omega))
  refine ⟨fun t ht => (key t ht).1, fun t => ?_⟩
  induction t with
  | zero => intro _; simp [smN]
  | succ t ih =>
    intro ht
    have h1 := ih (by omega)
    have h2 := (key t ht).2
    show smN (fun t => F (v t) (v (t + 1))) t + F (v t) (v (t + 1)) = _
    omega
theorem neg_round {n : Nat} {F : Nat → Nat → Int} : ∀ (s : Nat) {x : Nat} {c : Int}, Wk n F x x c s → c < 0 → ∃ v q, Rnd n F v q ∧ smN (fun t => F (v t) (v (t + 1))) q < 0 := by
  intro s
  induction s using Nat.strongRecOn with
  | ind s ih =>
    intro x c h hc
    obtain ⟨v, P, v0, vs, P0, Ps, hv, hw⟩ := h.split
    by_cases hrep : ∃ a b, a < b ∧ b < s ∧ v a = v b
    · obtain ⟨a, b, hab, hbs, hvv⟩ := hrep
      have w1 := hw a b (by omega) (by omega)
      rw [← hvv] at w1
      have w2 := (hw 0 a (by omega) (by omega)).append ((show Wk n F (v a) (v s) (P s - P b) (s - b) by rw [hvv]; exact hw b s (by omega) (Nat.le_refl _)))
      rw [v0, vs, P0, Ps] at w2
      by_cases hn : P b - P a < 0
      · exact ih (b - a) (by omega) w1 hn
      · exact ih (a - 0 + (s - b)) (by omega) w2 (by omega)
    · have hpos : 0 < s := by
        rcases Nat.eq_zero_or_pos s with e | e
        · subst e
          cases h
          omega
        · exact e
      obtain ⟨harc, hsum⟩ := wk_sum hw
      refine ⟨v, s, ⟨hpos, hv, fun a b h1 h2 e => hrep ⟨a, b, h1, h2, e⟩, by rw [v0, vs], harc⟩, ?_⟩
      rw [hsum s (Nat.le_refl _), P0, Ps]
      omega

/-! ### a round, begun at its least node, is a circuit of the list -/
theorem Rnd.turn {n : Nat} {F : Nat → Nat → Int} {v : Nat → Nat} {s : Nat} (h : Rnd n F v s) : Rnd n F (fun t => if t < s then v (t + 1) else v 1) s ∧ smN (fun t => F (if t < s then v (t + 1) else v 1) (if t + 1 < s then v (t + 1 + 1) else v 1)) s = smN (fun t => F (v t) (v (t + 1))) s := by
  obtain ⟨hp, hl, hn, hs, ha⟩ := h
  obtain ⟨q, rfl⟩ : ∃ q, s = q + 1 := ⟨s - 1, by omega⟩
  refine ⟨⟨hp, fun t ht => ?_, fun a b hab hb => ?_, ?_, fun t ht => ?_⟩, ?_⟩
  · split
    · exact hl _ (by omega)
    · exact hl _ (by omega)
  · rw [if_pos (by omega), if_pos hb]
    by_cases e : b + 1 = q + 1
    · rw [e, hs]
      exact fun e2 => hn 0 (a + 1) (by omega) (by omega) e2.symm
    · exact hn (a + 1) (b + 1) (by omega) (by omega)
  · rw [if_neg (by omega), if_pos (by omega)]
  · rw [if_pos ht]
    by_cases e : t + 1 < q + 1
    · rw [if_pos e]; exact ha (t + 1) e
    · rw [if_neg e, show t + 1 = q + 1 by omega, hs]
      exact ha 0 (by omega)
  · have h1 : ∀ k, k ≤ q → smN (fun t => F (if t < q + 1 then v (t + 1) else v 1) (if t + 1 < q + 1 then v (t + 1 + 1) else v 1)) k = smN (fun t => F (v t) (v (t + 1))) (k + 1) - F (v 0) (v 1) := by
      intro k
      induction k with
      | zero => intro _; simp [smN]
      | succ k ih =>
        intro hk
        have := ih (by omega)
        show smN (fun t => F (if t < q + 1 then v (t + 1) else v 1) (if t + 1 < q + 1 then v (t + 1 + 1) else v 1)) k + F (if k < q + 1 then v (k + 1) else v 1) (if k + 1 < q + 1 then v (k + 1 + 1) else v 1) = smN (fun t => F (v t) (v (t + 1))) (k + 1) + F (v (k + 1)) (v (k + 1 + 1)) - F (v 0) (v 1)
        rw [if_pos (by omega), if_pos (by omega)]
        omega
    show smN (fun t => F (if t < q + 1 then v (t + 1) else v 1) (if t + 1 < q + 1 then v (t + 1 + 1) else v 1)) q + F (if q < q + 1 then v (q + 1) else v 1) (if q + 1 < q + 1 then v (q + 1 + 1) else v 1) = smN (fun t => F (v t) (v (t + 1))) (q + 1)
    rw [h1 q (Nat.le_refl _), if_pos (by omega), if_neg (by omega), hs]
    omega
theorem Rnd.first {n : Nat} {F : Nat → Nat → Int} {s : Nat} : ∀ (r : Nat) {v : Nat → Nat}, Rnd n F v s → r < s → (∀ t, t < s → v r ≤ v t) → ∃ v', Rnd n F v' s ∧ smN (fun t => F (v' t) (v' (t + 1))) s = smN (fun t => F (v t) (v (t + 1))) s ∧ ∀ t, 0 < t → t < s → v' 0 < v' t
  | 0, v, h, hr, hl => ⟨v, h, rfl, fun t h0 ht => by
    have h1 := hl t ht
    have h2 := h.nd 0 t h0 ht
    omega⟩
  | r + 1, v, h, hr, hl => by
    obtain ⟨h1, h2⟩ := h.turn
    obtain ⟨v', g1, g2, g3⟩ := Rnd.first r h1 (by omega) (fun t ht => by
      rw [if_pos (by omega), if_pos ht]
      by_cases e : t + 1 < s
      · exact hl _ e
      · rw [show t + 1 = s by omega, h.shut]; exact hl 0 h.pos)
    exact ⟨v', g1, g2.trans h2, g3⟩
theorem least_at (v : Nat → Nat) : ∀ s, 0 < s → ∃ r, r < s ∧ ∀ t, t < s → v r ≤ v t
  | 0, h => absurd h (Nat.lt_irrefl _)
  | s + 1, _ => by
    by_cases e : s = 0
    · subst e; exact ⟨0, by omega, fun t ht => by rw [show t = 0 by omega]; exact Nat.le_refl _⟩
    · obtain ⟨r, h1, h2⟩ := least_at v s (by omega)
      by_cases g : v r ≤ v s
      · exact ⟨r, by omega, fun t ht => by
          by_cases e2 : t = s
          · rw [e2]; exact g
          · exact h2 t (by omega)⟩
      · exact ⟨s, by omega, fun t ht => by
          by_cases e2 : t = s
          · rw [e2]; exact Nat.le_refl _
          · have := h2 t (by omega); omega⟩
/-- the next node of a circuit. -/
def nxV (c : List Int) (t : Nat) : Nat := if t + 1 < c.length then vx c (t + 1) else vx c 0
def sumC (F : Nat → Nat → Int) (c : List Int) : Int := smN (fun t => F (vx c t) (nxV c t)) c.length
theorem cir_tab {n : Nat} {F : Nat → Nat → Int} {v : Nat → Nat} {s : Nat} (h : Rnd n F v s) (hl : ∀ t, 0 < t → t < s → v 0 < v t) : Cir n F (tab s fun x => ((v x : Nat) : Int)) ∧ sumC F (tab s fun x => ((v x : Nat) : Int)) = smN (fun t => F (v t) (v (t + 1))) s := by
  have hv : ∀ t, t < s → vx (tab s fun x => ((v x : Nat) : Int)) t = v t := fun t ht => vx_tab ht
  have hlen : (tab s fun x => ((v x : Nat) : Int)).length = s := tab_length _ _
  have hg : ∀ t, t < s → (tab s fun x => ((v x : Nat) : Int)).getD t 0 = (v t : Int) := fun t ht => tab_getD ht _
  generalize (tab s fun x => ((v x : Nat) : Int)) = c at hv hlen hg
  subst hlen
  have hp := h.pos
  have hnx : ∀ t, t < c.length → nxV c t = v (t + 1) := fun t ht => by
    unfold nxV
    by_cases e : t + 1 < c.length
    · rw [if_pos e, hv _ e]
    · rw [if_neg e, hv 0 hp, show t + 1 = c.length by omega, h.shut]
  refine ⟨⟨⟨hp, allB_t.2 fun t ht => ?_, stB_t.2 fun t ht => ?_, fun a b hab hb => ?_⟩, ?_, fun t h0 ht => ?_⟩, smN_congr fun t ht => ?_⟩
  · rw [hg t ht]
    have := h.lt t (by omega)
    omega
  · rw [hv t (by omega), hv (t + 1) (by omega)]
    exact h.arc t (by omega)
  · rw [hv a (by omega), hv b hb]
    exact h.nd a b hab hb
  · unfold laV
    rw [hv _ (by omega), hv 0 hp, ← h.shut]
    have := h.arc (c.length - 1) (by omega)
    rwa [show c.length - 1 + 1 = c.length by omega] at this
  · rw [hv 0 hp, hv t ht]
    exact hl t h0 ht
  · rw [hv t ht, hnx t ht]
/-- a negative closed walk holds a negative circuit. -/
theorem neg_cir {n : Nat} {F : Nat → Nat → Int} {x s : Nat} {c : Int} (h : Wk n F x x c s) (hc : c < 0) : ∃ l, Cir n F l ∧ sumC F l < 0 := by
  obtain ⟨v, q, h1, h2⟩ := neg_round s h hc
  obtain ⟨r, r1, r2⟩ := least_at v q h1.pos
  obtain ⟨v', g1, g2, g3⟩ := Rnd.first r h1 r1 r2
  obtain ⟨k1, k2⟩ := cir_tab g1 g3
  exact ⟨_, k1, by rw [k2, g2]; exact h2⟩
theorem Cir.arc {n : Nat} {m : Nat → Nat → Int} {c : List Int} (h : Cir n m c) {t : Nat} (ht : t < c.length) : m (vx c t) (nxV c t) ≠ 1000000000 := by
  unfold nxV
  by_cases e : t + 1 < c.length
  · rw [if_pos e]; exact stB_t.1 h.pth.st t (by omega)
  · rw [if_neg e]
    have := h.shut
    unfold laV at this
    rwa [show c.length - 1 = t by omega] at this
theorem Cir.congr {n : Nat} {m F : Nat → Nat → Int} {c : List Int} (h : Cir n m c) (hF : ∀ i k, i < n → k < n → m i k ≠ 1000000000 → F i k ≠ 1000000000) : Cir n F c := by
  have hp := h.pth.pos
  refine ⟨⟨hp, h.pth.vt, stB_t.2 fun t ht => hF _ _ (vt_at h.pth.vt (by omega)).2 (vt_at h.pth.vt (by omega)).2 (stB_t.1 h.pth.st t ht), h.pth.nd⟩, hF _ _ h.pth.la h.pth.hd h.shut, h.low⟩
/-- a circuit is a closed walk through each of its nodes. -/
theorem Cir.walk {n : Nat} {m : Nat → Nat → Int} {c : List Int} (h : Cir n m c) : ∀ t, t ≤ c.length → Wk n m (vx c 0) (if t < c.length then vx c t else vx c 0) (smN (fun t => m (vx c t) (nxV c t)) t) t
  | 0, _ => by
    rw [if_pos (show 0 < c.length from h.pth.pos)]
    exact Wk.nil h.pth.hd
  | t + 1, ht => by
    have ih := Cir.walk h t (by omega)
    rw [if_pos (show t < c.length by omega)] at ih
    have ha := h.arc (t := t) (by omega)
    have hn : nxV c t < n := by
      unfold nxV
      split
      · exact (vt_at h.pth.vt (by omega)).2
      · exact h.pth.hd
    have := Wk.snoc ih hn ha
    unfold nxV at this
    exact this
/-- the cost as the program counts it. -/
theorem coF_sum {m : Nat → Nat → Int} {l : List Int} (hm : ∀ t, t + 1 < l.length → m (vx l t) (vx l (t + 1)) ≠ 1000000000 ∧ -1000000 ≤ m (vx l t) (vx l (t + 1)) ∧ m (vx l t) (vx l (t + 1)) ≤ 1000000) : ∀ t, t < 900 → t + 1 ≤ l.length → coF m l t = smN (fun t => m (vx l t) (vx l (t + 1))) t ∧ -(1000000 * (t : Int)) ≤ coF m l t ∧ coF m l t ≤ 1000000 * (t : Int)
  | 0, _, _ => ⟨rfl, by simp [coF], by simp [coF]⟩
  | t + 1, h9, ht => by
    obtain ⟨h1, h2, h3⟩ := coF_sum hm t (by omega) (by omega)
    obtain ⟨g1, g2, g3⟩ := hm t (by omega)
    have e : coF m l (t + 1) = coF m l t + m (vx l t) (vx l (t + 1)) := prodZ_fin (by omega) g1
    refine ⟨by rw [e, h1]; rfl, by omega, by omega⟩
theorem cyC_sum {n : Nat} {m : Nat → Nat → Int} {c : List Int} (hm : ∀ a b, a < n → b < n → numB (m a b) = true) (hn6 : n ≤ 6) (h : Cir n m c) : cyC m c = sumC m c ∧ -6000000 ≤ sumC m c ∧ sumC m c ≤ 6000000 := by
  have hp := h.pth.pos
  have hl := h.pth.len
  obtain ⟨q, hq⟩ : ∃ q, c.length = q + 1 := ⟨c.length - 1, by omega⟩
  have hb : ∀ t, t < c.length → -1000000 ≤ m (vx c t) (nxV c t) ∧ m (vx c t) (nxV c t) ≤ 1000000 := fun t ht => by
    have h1 : nxV c t < n := by
      unfold nxV
      split
      · exact (vt_at h.pth.vt (by omega)).2
      · exact h.pth.hd
    have h2 := numB_t (hm _ _ (vt_at h.pth.vt ht).2 h1)
    have h3 := h.arc ht
    omega
  obtain ⟨h1, h2, h3⟩ := coF_sum (m := m) (l := c) (fun t ht => by
    have g1 := h.arc (t := t) (by omega)
    have g2 := hb t (by omega)
    unfold nxV at g1 g2
    rw [if_pos ht] at g1 g2
    exact ⟨g1, g2⟩) q (by omega) (by omega)
  have h4 : smN (fun t => m (vx c t) (vx c (t + 1))) q = smN (fun t => m (vx c t) (nxV c t)) q := smN_congr fun t ht => by
    unfold nxV
    rw [if_pos (by omega)]
  have h5 : nxV c q = vx c 0 := by unfold nxV; rw [if_neg (by omega)]
  have h6 := hb q (by omega)
  have h7 := h.shut
  unfold laV at h7
  rw [hq, Nat.add_sub_cancel] at h7
  have e : cyC m c = coF m c q + m (vx c q) (vx c 0) := by
    unfold cyC laV
    rw [hq, Nat.add_sub_cancel]
    exact prodZ_fin (by omega) h7
  have e2 : sumC m c = smN (fun t => m (vx c t) (nxV c t)) q + m (vx c q) (nxV c q) := by
    unfold sumC
    rw [hq]
    rfl
  rw [h5] at e2 h6
  omega
end Go.Proofs.YtjkfighooijblaaGreat
