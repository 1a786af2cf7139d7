/-
  Permanents, plain: of the turned matrix, of the shifted one. By an AI agent.
-/
import Derived.Test.YtfgdhlnmndgjbaaGreatDoorRkP
import Derived.Test.YtfgdhlnmndgjbaaGreatDoorWyG
namespace Go.Proofs.YtfgdhlnmndgjbaaGreatDoor
open Go.RowKit

/-! ### The least and its number do not hang on the order -/
theorem bwF_comm (s : Int × Nat) (x y : Int) : bwF (bwF s x) y = bwF (bwF s y) x := by
  obtain ⟨a, p⟩ := s
  grind [bwF]
theorem fold_perm {L M : List Int} (h : L.Perm M) : ∀ s, L.foldl bwF s = M.foldl bwF s := by
  induction h with
  | nil => intro s; rfl
  | cons x _ ih => intro s; exact ih _
  | swap x y l => intro s; simp only [List.foldl_cons]; rw [bwF_comm]
  | trans _ _ ih1 ih2 => intro s; rw [ih1, ih2]
theorem pmT_perm {L M : List Int} (h : L.Perm M) : pmT L = pmT M := fold_perm h _

/-! ### Permutations, each once -/
theorem prm_pre {n : Nat} : ∀ (f : Nat) {l c : List Int}, c ∈ prm n f l → ∃ r, c = l ++ r
  | 0, l, c, h => by
    unfold prm at h
    split at h
    · exact ⟨[], by simpa using h⟩
    · simp at h
  | f + 1, l, c, h => by
    unfold prm at h
    split at h
    · exact ⟨[], by simpa using h⟩
    · obtain ⟨k, _, hk⟩ := List.mem_flatMap.1 h
      split at hk
      · simp at hk
      · obtain ⟨r, e⟩ := prm_pre f hk
        exact ⟨(k : Int) :: r, by rw [e, List.append_assoc]; rfl⟩
theorem prmT_pre {n f : Nat} {l c : List Int} : ∀ {j : Nat}, c ∈ prmT n f l j → ∃ k : Nat, k < j ∧ ∃ r, c = l ++ [(k : Int)] ++ r
  | 0, h => by simp [prmT] at h
  | j + 1, h => by
    rw [prmT_succ] at h
    rcases List.mem_append.1 h with h | h
    · obtain ⟨k, hk, r⟩ := prmT_pre h
      exact ⟨k, by omega, r⟩
    · split at h
      · simp at h
      · exact ⟨j, by omega, prm_pre f h⟩
theorem prm_nodup {n : Nat} : ∀ (f : Nat) (l : List Int), (prm n f l).Nodup
  | 0, l => by unfold prm; split <;> simp
  | f + 1, l => by
    have hT : ∀ j, (prmT n f l j).Nodup := fun j => by
      induction j with
      | zero => simp [prmT]
      | succ j ih =>
        rw [prmT_succ, List.nodup_append]
        refine ⟨ih, by split; simp; exact prm_nodup f _, fun a ha b hb e => ?_⟩
        subst e
        obtain ⟨k, hk, r, e1⟩ := prmT_pre ha
        split at hb
        · simp at hb
        · obtain ⟨r2, e2⟩ := prm_pre f hb
          rw [e1, List.append_assoc, List.append_assoc] at e2
          have := List.append_cancel_left e2
          simp only [List.cons_append, List.nil_append] at this
          injection this with h1 _
          omega
    have := hT n
    unfold prm
    split
    · simp
    · exact this

/-! ### The inverse -/
def posN (n : Nat) (c : List Int) (k : Nat) : Nat := ((List.range n).find? fun i => decide (vx c i = k)).getD 0
def invL (n : Nat) (c : List Int) : List Int := tab n fun k => ((posN n c k : Nat) : Int)
theorem prm_onto {n : Nat} {c : List Int} (hc : Ndp n c) (hl : c.length = n) {k : Nat} (hk : k < n) : ∃ i, i < n ∧ vx c i = k := by
  rcases Classical.em (∃ i, i < n ∧ vx c i = k) with h | h
  · exact h
  · exfalso
    have h2 : (k : Int) ∉ c := fun hm => by
      obtain ⟨t, ht, e⟩ := (mem_vxA hc.vt).1 hm
      exact h ⟨t, by omega, e⟩
    have := (hc.ext hk h2).len
    rw [List.length_append, List.length_singleton, hl] at this
    omega
theorem posN_at {n : Nat} {c : List Int} (hc : Ndp n c) (hl : c.length = n) {i : Nat} (hi : i < n) : posN n c (vx c i) = i := by
  unfold posN
  cases h : (List.range n).find? fun j => decide (vx c j = vx c i) with
  | none =>
    have := List.find?_eq_none.1 h i (List.mem_range.2 hi)
    simp at this
  | some j =>
    have h1 : vx c j = vx c i := by simpa using List.find?_some h
    have h2 : j < n := List.mem_range.1 (List.mem_of_find?_eq_some h)
    show j = i
    rcases Nat.lt_trichotomy j i with h3 | h3 | h3
    · exact absurd h1 (hc.nd j i h3 (by omega))
    · exact h3
    · exact absurd h1.symm (hc.nd i j h3 (by omega))
theorem posN_of {n : Nat} {c : List Int} (hc : Ndp n c) (hl : c.length = n) {k : Nat} (hk : k < n) : posN n c k < n ∧ vx c (posN n c k) = k := by
  obtain ⟨i, hi, rfl⟩ := prm_onto hc hl hk
  rw [posN_at hc hl hi]
  exact ⟨hi, rfl⟩
theorem vx_inv {n : Nat} {c : List Int} {k : Nat} (hk : k < n) : vx (invL n c) k = posN n c k := by
  unfold vx invL
  rw [tab_getD hk]
  simp
theorem inv_len (n : Nat) (c : List Int) : (invL n c).length = n := tab_length _ _
theorem inv_nd {n : Nat} {c : List Int} (hc : Ndp n c) (hl : c.length = n) : Ndp n (invL n c) := by
  refine ⟨?_, fun i j hij hj => ?_⟩
  · unfold vtB
    refine allB_t.2 fun t ht => ?_
    rw [inv_len] at ht
    have h1 := posN_of hc hl ht
    unfold invL
    rw [tab_getD ht]
    omega
  · rw [inv_len] at hj
    rw [vx_inv (by omega), vx_inv hj]
    intro e
    have h1 := (posN_of hc hl (show i < n by omega)).2
    have h2 := (posN_of hc hl hj).2
    rw [e, h2] at h1
    omega
theorem ext_vx {n : Nat} {c d : List Int} (hc : vtB n c = true) (hd : vtB n d = true) (h1 : c.length = n) (h2 : d.length = n) (h : ∀ i, i < n → vx c i = vx d i) : c = d := by
  apply List.ext_getElem (by rw [h1, h2])
  intro i hi hi2
  have g1 := (vt_at hc hi).1
  have g2 := (vt_at hd hi2).1
  have g3 := h i (by omega)
  rw [List.getD_eq_getElem?_getD, List.getElem?_eq_getElem hi, Option.getD_some] at g1
  rw [List.getD_eq_getElem?_getD, List.getElem?_eq_getElem hi2, Option.getD_some] at g2
  omega
theorem inv_inv {n : Nat} {c : List Int} (hc : Ndp n c) (hl : c.length = n) : invL n (invL n c) = c := by
  have hi := inv_nd hc hl
  refine ext_vx (inv_nd hi (inv_len _ _)).vt hc.vt (inv_len _ _) hl fun i hin => ?_
  rw [vx_inv hin]
  have h1 : vx (invL n c) (vx c i) = i := by
    rw [vx_inv ((vt_at hc.vt (by omega)).2), posN_at hc hl hin]
  have h2 := posN_at hi (inv_len n c) (i := vx c i) ((vt_at hc.vt (by omega)).2)
  rw [h1] at h2
  exact h2
theorem nodup_mapOn {α β : Type} {f : α → β} : ∀ {l : List α}, l.Nodup → (∀ x ∈ l, ∀ y ∈ l, f x = f y → x = y) → (l.map f).Nodup
  | [], _, _ => by simp
  | a :: l, h, hf => by
    rw [List.nodup_cons] at h
    rw [List.map_cons, List.nodup_cons]
    refine ⟨fun hm => ?_, nodup_mapOn h.2 fun x hx y hy => hf x (List.mem_cons_of_mem _ hx) y (List.mem_cons_of_mem _ hy)⟩
    obtain ⟨b, hb, e⟩ := List.mem_map.1 hm
    have := hf b (List.mem_cons_of_mem _ hb) a (by simp) e
    subst this
    exact h.1 hb
theorem perm_of_nodup {l m : List (List Int)} (hl : l.Nodup) (hm : m.Nodup) (h : ∀ x, x ∈ l ↔ x ∈ m) : l.Perm m := by
  rw [List.perm_iff_count]
  intro x
  rw [hl.count, hm.count]
  simp only [h x]
theorem inv_perm (n : Nat) : ((prmA n).map (invL n)).Perm (prmA n) := by
  refine perm_of_nodup (nodup_mapOn (prm_nodup n []) fun x hx y hy e => ?_) (prm_nodup n []) fun x => ?_
  · obtain ⟨h1, h2⟩ := prmA_mem.1 hx
    obtain ⟨h3, h4⟩ := prmA_mem.1 hy
    rw [← inv_inv h1 h2, e, inv_inv h3 h4]
  · constructor
    · intro h
      obtain ⟨c, hc, rfl⟩ := List.mem_map.1 h
      obtain ⟨h1, h2⟩ := prmA_mem.1 hc
      exact prmA_mem.2 ⟨inv_nd h1 h2, inv_len _ _⟩
    · intro h
      obtain ⟨h1, h2⟩ := prmA_mem.1 h
      exact List.mem_map.2 ⟨invL n x, prmA_mem.2 ⟨inv_nd h1 h2, inv_len _ _⟩, inv_inv h1 h2⟩

/-! ### The turned matrix -/
def turnM (m : Nat → Nat → Int) : Nat → Nat → Int := fun a b => m b a
theorem cost_turn {n : Nat} {m : Nat → Nat → Int} (hm : ∀ a b, a < n → b < n → numB (m a b) = true) (hn : 1 ≤ n ∧ n ≤ 6) {c : List Int} (hc : Ndp n c) (hl : c.length = n) : costP (turnM m) c = costP m (invL n c) := by
  have h1 := (prm_cost (m := turnM m) (fun a b ha hb => hm b a hb ha) hn hc hl).2
  have h2 := (prm_cost hm hn (inv_nd hc hl) (inv_len n c)).2
  have hf : finP (turnM m) c = finP m (invL n c) := by
    unfold finP
    rw [Bool.eq_iff_iff, fnB_t, fnB_t, inv_len, hl]
    constructor
    · intro h k hk
      have h3 := posN_of hc hl hk
      have := h _ h3.1
      unfold turnM at this
      rw [h3.2] at this
      rwa [vx_inv hk]
    · intro h i hi
      have h3 := (vt_at hc.vt (show i < c.length by omega)).2
      have := h _ h3
      rw [vx_inv h3, posN_at hc hl hi] at this
      exact this
  have hs : smN (fun i => turnM m i (vx c i)) n = smN (fun i => m i (vx (invL n c) i)) n := by
    rw [← smN_perm (vx c) (fun i => m i (vx (invL n c) i)) (fun t ht => (vt_at hc.vt (by omega)).2) (fun i j hij hj => hc.nd i j hij (by omega))]
    refine smN_congr fun i hi => ?_
    rw [vx_inv ((vt_at hc.vt (show i < c.length by omega)).2), posN_at hc hl hi]
    rfl
  rcases h1 with ⟨a1, a2⟩ | ⟨a1, _, a2, _⟩
  · rcases h2 with ⟨b1, b2⟩ | ⟨b1, _⟩
    · rw [a2, b2]
    · rw [hf, b1] at a1; exact absurd a1 (by simp)
  · rcases h2 with ⟨b1, _⟩ | ⟨b1, _, b2, _⟩
    · rw [hf, b1] at a1; exact absurd a1 (by simp)
    · rw [a2, b2, hs]
theorem prm_turn {n : Nat} {m : Nat → Nat → Int} (hm : ∀ a b, a < n → b < n → numB (m a b) = true) (hn : 1 ≤ n ∧ n ≤ 6) : prmM n (turnM m) = prmM n m := by
  unfold prmM
  have h1 : (prmA n).map (costP (turnM m)) = ((prmA n).map (invL n)).map (costP m) := by
    rw [List.map_map]
    exact List.map_congr_left fun c hc => by
      obtain ⟨h1, h2⟩ := prmA_mem.1 hc
      exact cost_turn hm hn h1 h2
  rw [h1]
  exact pmT_perm ((inv_perm n).map _)

/-! ### The shifted matrix -/
def shZ (b x : Int) : Int := if x = 1000000000 then 1000000000 else x + b
theorem shift_fold (b : Int) : ∀ (L : List Int) (s : Int × Nat), (∀ x ∈ L, x = 1000000000 ∨ (x < 1000000000 ∧ x + b < 1000000000)) → (s.1 = 1000000000 ∨ (s.1 < 1000000000 ∧ s.1 + b < 1000000000)) →
    (L.map (shZ b)).foldl bwF (shZ b s.1, s.2) = (shZ b (L.foldl bwF s).1, (L.foldl bwF s).2)
  | [], s, _, _ => rfl
  | x :: L, s, h, hs => by
    have hx := h x (by simp)
    rw [List.map_cons, List.foldl_cons, List.foldl_cons]
    have e : bwF (shZ b s.1, s.2) (shZ b x) = (shZ b (bwF s x).1, (bwF s x).2) ∧ ((bwF s x).1 = 1000000000 ∨ ((bwF s x).1 < 1000000000 ∧ (bwF s x).1 + b < 1000000000)) := by
      obtain ⟨a, p⟩ := s
      unfold bwF shZ
      simp only at hs ⊢
      by_cases h1 : x < a
      · have g : a = 1000000000 ∨ a ≠ 1000000000 := by omega
        rcases g with g | g
        · subst g
          have : x ≠ 1000000000 := by omega
          rw [if_pos rfl, if_neg this, if_pos (by omega), if_pos h1]
          refine ⟨by simp only [if_neg this], by simp only; omega⟩
        · have : x ≠ 1000000000 := by omega
          rw [if_neg g, if_neg this, if_pos (by omega), if_pos h1]
          refine ⟨by simp only [if_neg this], by simp only; omega⟩
      · by_cases h2 : x = a
        · subst h2
          rw [if_neg (Int.lt_irrefl _), if_pos rfl, if_neg h1, if_pos rfl]
          exact ⟨rfl, by simp only; omega⟩
        · have g : a ≠ 1000000000 := by omega
          have g2 : x = 1000000000 ∨ x ≠ 1000000000 := by omega
          rw [if_neg h1, if_neg h2, if_neg g]
          rcases g2 with g2 | g2
          · subst g2
            rw [if_pos rfl, if_neg (by omega), if_neg (by omega)]
            exact ⟨rfl, by simp only; omega⟩
          · rw [if_neg g2, if_neg (by omega), if_neg (by omega)]
            exact ⟨rfl, by simp only; omega⟩
    rw [e.1]
    exact shift_fold b L (bwF s x) (fun y hy => h y (List.mem_cons_of_mem _ hy)) e.2
theorem pmT_shift {b : Int} {L : List Int} (h : ∀ x ∈ L, x = 1000000000 ∨ (x < 1000000000 ∧ x + b < 1000000000)) : pmT (L.map (shZ b)) = (shZ b (pmT L).1, (pmT L).2) := by
  have := shift_fold b L (1000000000, 0) h (Or.inl rfl)
  unfold pmT
  rw [← this]
  rfl
def shM1 (m : Nat → Nat → Int) (b : Int) : Nat → Nat → Int := fun i k => prodZ (m i k) b
theorem smN_cst (b : Int) : ∀ n : Nat, smN (fun _ => b) n = (n : Int) * b
  | 0 => by simp [smN]
  | n + 1 => by
    unfold smN
    rw [smN_cst b n]
    have : ((n + 1 : Nat) : Int) = (n : Int) + 1 := by omega
    rw [this, Int.add_mul, Int.one_mul]
theorem sh_at {m : Nat → Nat → Int} {b : Int} (hb : -1000000 ≤ b ∧ b ≤ 1000000) {i k : Nat} (h : numB (m i k) = true) : (m i k = 1000000000 ∧ shM1 m b i k = 1000000000) ∨ (m i k ≠ 1000000000 ∧ shM1 m b i k = m i k + b ∧ shM1 m b i k ≠ 1000000000) := by
  have h5 := numB_t h
  unfold shM1 prodZ
  by_cases e : m i k = 1000000000
  · exact Or.inl ⟨e, if_pos (Or.inl e)⟩
  · rw [if_neg (by rintro (g | g); exact e g; omega)]
    exact Or.inr ⟨e, rfl, by omega⟩
theorem cost_shift {n : Nat} {m : Nat → Nat → Int} {b : Int} (hb : -1000000 ≤ b ∧ b ≤ 1000000) (hm : ∀ i k, i < n → k < n → numB (m i k) = true) (hs : ∀ i k, i < n → k < n → numB (shM1 m b i k) = true) (hn : 1 ≤ n ∧ n ≤ 6) {c : List Int} (hc : Ndp n c) (hl : c.length = n) :
    costP (shM1 m b) c = shZ ((n : Int) * b) (costP m c) := by
  have h1 := (prm_cost hs hn hc hl).2
  have h2 := (prm_cost hm hn hc hl).2
  have hat : ∀ s, s < n → numB (m s (vx c s)) = true := fun s hs2 => hm s (vx c s) hs2 (vt_at hc.vt (by omega)).2
  have hf : finP (shM1 m b) c = finP m c := by
    unfold finP
    rw [Bool.eq_iff_iff, fnB_t, fnB_t]
    constructor
    · intro h s hs2 e
      rcases sh_at hb (hat s (by omega)) with g | g
      · exact h s hs2 g.2
      · exact g.1 e
    · intro h s hs2 e
      rcases sh_at hb (hat s (by omega)) with g | g
      · exact h s hs2 g.1
      · exact g.2.2 e
  unfold shZ
  rcases h1 with ⟨a1, a2⟩ | ⟨a1, a3, a2, _⟩
  · rcases h2 with ⟨b1, b2⟩ | ⟨b1, _⟩
    · rw [a2, if_pos b2]
    · rw [hf, b1] at a1; exact absurd a1 (by simp)
  · rcases h2 with ⟨b1, _⟩ | ⟨b1, b3, b2, _⟩
    · rw [hf, b1] at a1; exact absurd a1 (by simp)
    · rw [if_neg (by omega), a2, b2, ← smN_cst b n, ← smN_add]
      refine smN_congr fun i hi => ?_
      rcases sh_at hb (hat i hi) with g | g
      · unfold finP at b1
        exact absurd g.1 (fnB_t.1 b1 i (by omega))
      · exact g.2.1
theorem prm_shift {n : Nat} {m : Nat → Nat → Int} {b : Int} (hb : -1000000 ≤ b ∧ b ≤ 1000000) (hm : ∀ i k, i < n → k < n → numB (m i k) = true) (hs : ∀ i k, i < n → k < n → numB (shM1 m b i k) = true) (hn : 1 ≤ n ∧ n ≤ 6) :
    prmM n (shM1 m b) = (shZ ((n : Int) * b) (prmM n m).1, (prmM n m).2) := by
  unfold prmM
  have h1 : (prmA n).map (costP (shM1 m b)) = ((prmA n).map (costP m)).map (shZ ((n : Int) * b)) := by
    rw [List.map_map]
    exact List.map_congr_left fun c hc => by
      obtain ⟨h1, h2⟩ := prmA_mem.1 hc
      exact cost_shift hb hm hs hn h1 h2
  rw [h1]
  refine pmT_shift fun x hx => ?_
  obtain ⟨c, hc, rfl⟩ := List.mem_map.1 hx
  obtain ⟨g1, g2⟩ := prmA_mem.1 hc
  rcases (prm_cost hm hn g1 g2).2 with ⟨_, h⟩ | ⟨_, h3, _, h4, h5⟩
  · exact Or.inl h
  · refine Or.inr ⟨h3, ?_⟩
    have : (n : Int) * b ≤ 6 * 1000000 := by
      have h6 : (n : Int) * b ≤ (n : Int) * 1000000 := Int.mul_le_mul_of_nonneg_left hb.2 (by omega)
      omega
    omega

/-! ### There is a way -/
theorem bwF_pos (s : Int × Nat) (x : Int) (h : 1 ≤ s.2 ∨ x ≤ s.1) : 1 ≤ (bwF s x).2 := by
  unfold bwF
  split
  · simp
  · split
    · simp
    · rcases h with h | h
      · exact h
      · omega
theorem fold_pos : ∀ (L : List Int) (s : Int × Nat), 1 ≤ s.2 → 1 ≤ (L.foldl bwF s).2
  | [], _, h => h
  | x :: L, s, h => fold_pos L _ (bwF_pos s x (Or.inl h))
theorem prm_ways {n : Nat} {m : Nat → Nat → Int} (hm : ∀ i k, i < n → k < n → numB (m i k) = true) (hn : 1 ≤ n ∧ n ≤ 6) : 1 ≤ (prmM n m).2 := by
  have hid : tab n (fun k => ((k : Nat) : Int)) ∈ prmA n := by
    refine prmA_mem.2 ⟨⟨?_, fun i j hij hj => ?_⟩, tab_length _ _⟩
    · unfold vtB
      refine allB_t.2 fun t ht => ?_
      rw [tab_length] at ht
      rw [tab_getD ht]
      omega
    · rw [tab_length] at hj
      unfold vx
      rw [tab_getD (by omega), tab_getD hj]
      omega
  unfold prmM pmT
  cases h : (prmA n).map (costP m) with
  | nil =>
    have : prmA n = [] := by simpa using h
    rw [this] at hid
    exact absurd hid (by simp)
  | cons x L =>
    rw [List.foldl_cons]
    refine fold_pos L _ (bwF_pos _ _ (Or.inr ?_))
    have hx : x ∈ (prmA n).map (costP m) := by rw [h]; simp
    obtain ⟨c, hc, rfl⟩ := List.mem_map.1 hx
    obtain ⟨g1, g2⟩ := prmA_mem.1 hc
    rcases (prm_cost hm hn g1 g2).2 with ⟨_, h⟩ | ⟨_, h3, _⟩
    · exact Int.le_of_eq h
    · exact Int.le_of_lt h3
end Go.Proofs.YtfgdhlnmndgjbaaGreatDoor
