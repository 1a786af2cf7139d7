/-
  Bounds of ranks are in order, and outer products are of rank one: plain. By an AI agent.
-/
import Derived.Test.YtnbenpalneodlaaRkT
namespace Go.Proofs.Ytnbenpalneodlaa

/-! ### alike columns -/
def Alk (R : Nat) (a b : Nat → Int) : Prop := ∃ d : Int, ∀ i, i < R → (a i = 1000000000 ∧ b i = 1000000000) ∨ (a i ≠ 1000000000 ∧ b i ≠ 1000000000 ∧ b i = a i + d)
theorem Alk.refl (R : Nat) (a : Nat → Int) : Alk R a a := ⟨0, fun i _ => by
  by_cases h : a i = 1000000000
  · exact Or.inl ⟨h, h⟩
  · exact Or.inr ⟨h, h, by omega⟩⟩
theorem akF_spec {a b : Nat → Int} : ∀ (t : Nat) (s : Bool × Int), akF a b t = some s → ∀ i, i < t → (a i = 1000000000 ∧ b i = 1000000000) ∨ (a i ≠ 1000000000 ∧ b i ≠ 1000000000 ∧ s.1 = true ∧ b i - a i = s.2)
  | 0, _, _, i, hi => absurd hi (Nat.not_lt_zero _)
  | t + 1, s, h, i, hi => by
    cases h0 : akF a b t with
    | none => rw [akF_none h0 (Nat.le_succ t)] at h; cases h
    | some s0 =>
      obtain ⟨e1, e2, e3, e4, e5⟩ := akF_eqs h0
      have ih := akF_spec t s0 h0
      by_cases ha : a t = 1000000000 <;> by_cases hb : b t = 1000000000
      · rw [e1 ha hb] at h
        injection h with h
        subst h
        by_cases e : i = t
        · subst e; exact Or.inl ⟨ha, hb⟩
        · exact ih i (by omega)
      · rw [e2 ha hb] at h; cases h
      · rw [e3 ha hb] at h; cases h
      · by_cases hd : s0.1 = true → b t - a t = s0.2
        · rw [e5 ha hb hd] at h
          injection h with h
          subst h
          by_cases e : i = t
          · subst e; exact Or.inr ⟨ha, hb, rfl, rfl⟩
          · rcases ih i (by omega) with q | ⟨q1, q2, q3, q4⟩
            · exact Or.inl q
            · exact Or.inr ⟨q1, q2, rfl, by rw [q4, hd q3]⟩
        · have h6 : s0.1 = true ∧ b t - a t ≠ s0.2 := by
            by_cases g : s0.1 = true
            · exact ⟨g, fun q => hd fun _ => q⟩
            · exact absurd (fun q => absurd q g) hd
          rw [e4 ha hb h6.1 h6.2] at h; cases h
theorem alk_of {R : Nat} {a b : Nat → Int} (h : alkB R a b = true) : Alk R a b := by
  unfold alkB at h
  obtain ⟨s, hs⟩ := Option.isSome_iff_exists.1 h
  refine ⟨s.2, fun i hi => ?_⟩
  rcases akF_spec R s hs i hi with q | ⟨q1, q2, _, q4⟩
  · exact Or.inl q
  · exact Or.inr ⟨q1, q2, by omega⟩
theorem Alk.join {R : Nat} {f a b : Nat → Int} (h : Alk R f a) (g : Alk R f b) : Alk R a b := by
  obtain ⟨d, h⟩ := h
  obtain ⟨e, g⟩ := g
  refine ⟨e - d, fun i hi => ?_⟩
  rcases h i hi with ⟨h1, h2⟩ | ⟨h1, h2, h3⟩
  · rcases g i hi with ⟨g1, g2⟩ | ⟨g1, g2, g3⟩
    · exact Or.inl ⟨h2, g2⟩
    · exact absurd h1 g1
  · rcases g i hi with ⟨g1, g2⟩ | ⟨g1, g2, g3⟩
    · exact absurd g1 h1
    · exact Or.inr ⟨h2, g2, by omega⟩

/-! ### every column is in a class -/
theorem cls_cover (al : Nat → Nat → Bool) : ∀ k c, c < k → ∃ i, i < (clsL al k).length ∧ (al (vx ((clsL al k).getD i []) 0) c = true ∨ vx ((clsL al k).getD i []) 0 = c)
  | 0, c, hc => absurd hc (Nat.not_lt_zero _)
  | k + 1, c, hc => by
    have ih := cls_cover al k c
    have ok := clsL_ok al k
    show ∃ i, i < (clPut (fun c => al (vx c 0) k) k (clsL al k)).length ∧ (al (vx ((clPut (fun c => al (vx c 0) k) k (clsL al k)).getD i []) 0) c = true ∨ vx ((clPut (fun c => al (vx c 0) k) k (clsL al k)).getD i []) 0 = c)
    generalize clsL al k = L at ih ok
    rcases clPut_cases (fun c => al (vx c 0) k) k L with ⟨i, h1, h2, h3⟩ | h3
    · rw [h3, List.length_set]
      have hfst : ∀ j, j < L.length → vx ((L.set i (L.getD i [] ++ [(k : Int)])).getD j []) 0 = vx (L.getD j []) 0 := fun j hj => by
        by_cases e : j = i
        · subst e
          rw [show (L.set j (L.getD j [] ++ [(k : Int)])).getD j [] = L.getD j [] ++ [(k : Int)] by simp [List.getD_eq_getElem?_getD, hj]]
          unfold vx
          rw [List.getD_eq_getElem?_getD, List.getElem?_append_left (ok.ne j hj).1, ← List.getD_eq_getElem?_getD]
        · rw [getD_setN e]
      by_cases e : c = k
      · subst e
        exact ⟨i, h1, Or.inl (by rw [hfst i h1]; exact h2)⟩
      · obtain ⟨j, j1, j2⟩ := ih (by omega)
        exact ⟨j, j1, by rw [hfst j j1]; exact j2⟩
    · rw [h3, List.length_append, List.length_singleton]
      by_cases e : c = k
      · subst e
        exact ⟨L.length, by omega, Or.inr (by simp [vx, List.getD_eq_getElem?_getD])⟩
      · obtain ⟨j, j1, j2⟩ := ih (by omega)
        exact ⟨j, by omega, by rw [show (L ++ [[(k : Int)]]).getD j [] = L.getD j [] by rw [List.getD_eq_getElem?_getD, List.getElem?_append_left j1, ← List.getD_eq_getElem?_getD]]; exact j2⟩
/-- more columns than classes: two of them are alike. -/
theorem cls_two {R C : Nat} (m : Nat → Nat → Int) {v : Nat → Nat} {n : Nat} (hn : (clsL (alM R m) C).length < n) (hv : ∀ t, t < n → v t < C) : ∃ a b, a < b ∧ b < n ∧ Alk R (fun t => m t (v a)) (fun t => m t (v b)) := by
  have hc := cls_cover (alM R m) C
  generalize hL : clsL (alM R m) C = L at hn hc
  have hx : ∀ t, ∃ i, t < n → i < L.length ∧ (alM R m (vx (L.getD i []) 0) (v t) = true ∨ vx (L.getD i []) 0 = v t) := fun t => by
    by_cases h : t < n
    · obtain ⟨i, h1, h2⟩ := hc (v t) (hv t h)
      exact ⟨i, fun _ => ⟨h1, h2⟩⟩
    · exact ⟨0, fun h' => absurd h' h⟩
  obtain ⟨F, hF⟩ : ∃ F : Nat → Nat, ∀ t, t < n → F t < L.length ∧ (alM R m (vx (L.getD (F t) []) 0) (v t) = true ∨ vx (L.getD (F t) []) 0 = v t) := ⟨fun t => Classical.choose (hx t), fun t ht => Classical.choose_spec (hx t) ht⟩
  obtain ⟨a, b, h1, h2, h3⟩ := pigeon L.length F (fun t ht => (hF t (by omega)).1)
  refine ⟨a, b, h1, by omega, ?_⟩
  have ha := (hF a (by omega)).2
  have hb := (hF b (by omega)).2
  rw [h3] at ha
  have key : ∀ x, (alM R m (vx (L.getD (F b) []) 0) (v x) = true ∨ vx (L.getD (F b) []) 0 = v x) → Alk R (fun t => m t (vx (L.getD (F b) []) 0)) (fun t => m t (v x)) := fun x h => by
    rcases h with h | h
    · exact alk_of h
    · rw [h]; exact Alk.refl _ _
  exact (key a ha).join (key b hb)

/-! ### the least of costs -/
theorem bwF_spec : ∀ (L : List Int) (s : Int × Nat), (L.foldl bwF s).1 ≤ s.1 ∧ ((L.foldl bwF s).1 = s.1 ∨ (L.foldl bwF s).1 ∈ L) ∧ ((L.foldl bwF s).1 < s.1 → (L.foldl bwF s).2 = L.count (L.foldl bwF s).1) ∧ ((L.foldl bwF s).1 = s.1 → (L.foldl bwF s).2 = s.2 + L.count (L.foldl bwF s).1)
  | [], s => ⟨Int.le_refl _, Or.inl rfl, fun h => absurd h (Int.lt_irrefl _), fun _ => by simp⟩
  | x :: L, s => by
    obtain ⟨h1, h2, h3, h4⟩ := bwF_spec L (bwF s x)
    rw [List.foldl_cons]
    generalize L.foldl bwF (bwF s x) = r at h1 h2 h3 h4
    have hle := bwF_le s x
    unfold bwF at h1 h2 h3 h4 hle
    by_cases e1 : x < s.1
    · rw [if_pos e1] at h1 h2 h3 h4 hle
      refine ⟨by omega, ?_, fun _ => ?_, fun h => by omega⟩
      · rcases h2 with h2 | h2
        · right; rw [h2]; simp
        · right; exact List.mem_cons_of_mem _ h2
      · by_cases e : r.1 = x
        · rw [h4 e, e, List.count_cons_self]; omega
        · rw [h3 (by simp only at h1; omega), List.count_cons_of_ne (fun q => e q.symm)]
    · rw [if_neg e1] at h1 h2 h3 h4 hle
      by_cases e2 : x = s.1
      · rw [if_pos e2] at h1 h2 h3 h4 hle
        refine ⟨h1, ?_, fun h => ?_, fun h => ?_⟩
        · rcases h2 with h2 | h2
          · exact Or.inl h2
          · right; exact List.mem_cons_of_mem _ h2
        · rw [h3 h, List.count_cons_of_ne (by omega)]
        · rw [h4 h, h, e2, List.count_cons_self]; simp only; omega
      · rw [if_neg e2] at h1 h2 h3 h4 hle
        refine ⟨h1, ?_, fun h => ?_, fun h => ?_⟩
        · rcases h2 with h2 | h2
          · exact Or.inl h2
          · right; exact List.mem_cons_of_mem _ h2
        · rw [h3 h, List.count_cons_of_ne (by omega)]
        · rw [h4 h, List.count_cons_of_ne (by omega)]
theorem count_two {A : List (List Int)} {f : List Int → Int} {b : Int} {c d : List Int} (hc : c ∈ A) (hd : d ∈ A) (hne : c ≠ d) (ec : f c = b) (ed : f d = b) : (A.map f).count b ≠ 1 := by
  rw [List.count_eq_countP, List.countP_map, List.countP_eq_length_filter]
  intro h
  obtain ⟨x, hx⟩ := List.length_eq_one_iff.1 h
  have h1 : c ∈ A.filter ((fun x => x == b) ∘ f) := List.mem_filter.2 ⟨hc, by simp [ec]⟩
  have h2 : d ∈ A.filter ((fun x => x == b) ∘ f) := List.mem_filter.2 ⟨hd, by simp [ed]⟩
  rw [hx, List.mem_singleton] at h1 h2
  exact hne (h1.trans h2.symm)

/-! ### a regular part has no two lines alike -/
def swN (p q x : Nat) : Nat := if x = p then q else if x = q then p else x
theorem swN_l (p q : Nat) : swN p q p = q := by unfold swN; rw [if_pos rfl]
theorem swN_r (p q : Nat) : swN p q q = p := by
  unfold swN
  by_cases h : q = p
  · rw [if_pos h, h]
  · rw [if_neg h, if_pos rfl]
theorem swN_o {p q x : Nat} (h1 : x ≠ p) (h2 : x ≠ q) : swN p q x = x := by unfold swN; rw [if_neg h1, if_neg h2]
theorem swN_lt {p q x n : Nat} (hp : p < n) (hq : q < n) (hx : x < n) : swN p q x < n := by
  unfold swN
  split
  · exact hq
  · split
    · exact hp
    · exact hx
theorem swN_inj {p q x y : Nat} (h : swN p q x = swN p q y) : x = y := by
  unfold swN at h
  split at h <;> split at h <;> (try split at h) <;> (try split at h) <;> omega
theorem reg_sw {n : Nat} {q : Nat → Nat → Int} (hm : ∀ a b, a < n → b < n → numB (q a b) = true) (hn : n ≤ 900) (h : regF n q = true) : ∃ c, Ndp n c ∧ c.length = n ∧ (∀ t, t < n → q t (vx c t) ≠ 1000000000) ∧ ∀ p s, p < n → s < n → p ≠ s → q p (vx c s) ≠ 1000000000 → q s (vx c p) ≠ 1000000000 → q p (vx c s) + q s (vx c p) ≠ q p (vx c p) + q s (vx c s) := by
  unfold regF at h
  rw [Bool.and_eq_true, decide_eq_true_eq, decide_eq_true_eq] at h
  obtain ⟨h1, h2⟩ := h
  obtain ⟨s1, s2, s3, _⟩ := bwF_spec ((prmA n).map (costP q)) (1000000000, 0)
  change (prmM n q).1 ≤ 1000000000 at s1
  change (prmM n q).1 = 1000000000 ∨ (prmM n q).1 ∈ (prmA n).map (costP q) at s2
  change (prmM n q).1 < 1000000000 → (prmM n q).2 = ((prmA n).map (costP q)).count (prmM n q).1 at s3
  rw [h2] at s3
  generalize (prmM n q).1 = B at h1 s1 s2 s3
  have hcnt := s3 (by omega)
  rcases s2 with s2 | s2
  · exact absurd s2 h1
  obtain ⟨c, hc, ec⟩ := List.mem_map.1 s2
  obtain ⟨hnd, hcl⟩ := prmA_mem.1 hc
  have hb := cs_bd hm hnd.vt (by omega) hn n (by omega)
  have ecn : csF q c n = B := by rw [← ec]; unfold costP; rw [hcl]
  rw [ecn] at hb
  rcases hb with ⟨_, hb⟩ | ⟨hf, hs, _, _⟩
  · omega
  have hfin := fnB_t.1 hf
  refine ⟨c, hnd, hcl, hfin, fun p s hp hs' hne f1 f2 heq => ?_⟩
  have hdl := (hnd.at hcl).1
  have hdi := (hnd.at hcl).2
  have hinj : ∀ i j, i < n → j < n → vx c i = vx c j → i = j := fun i j hi hj e => by
    rcases Nat.lt_trichotomy i j with g | g | g
    · exact absurd e (hdi i j g hj)
    · exact g
    · exact absurd e.symm (hdi j i g hi)
  have hv : ∀ t, t < n → vx (tab n fun x => ((vx c (swN p s x) : Nat) : Int)) t = vx c (swN p s t) := fun t ht => vx_tab (g := fun x => vx c (swN p s x)) ht
  have hd : Ndp n (tab n fun x => ((vx c (swN p s x) : Nat) : Int)) := ndp_tab (g := fun x => vx c (swN p s x)) (fun t ht => hdl _ (swN_lt hp hs' ht)) (fun i j hij hj e => by
    have := swN_inj (hinj _ _ (swN_lt hp hs' (by omega)) (swN_lt hp hs' hj) e)
    omega)
  have hdn : (tab n fun x => ((vx c (swN p s x) : Nat) : Int)).length = n := tab_length _ _
  generalize (tab n fun x => ((vx c (swN p s x) : Nat) : Int)) = d at hv hd hdn
  have hb2 := cs_bd hm hd.vt (by omega) hn n (by omega)
  have hfd : fnB q d n = true := fnB_t.2 fun t ht => by
    rw [hv t ht]
    by_cases e1 : t = p
    · subst e1; rw [swN_l]; exact f1
    · by_cases e2 : t = s
      · subst e2; rw [swN_r]; exact f2
      · rw [swN_o e1 e2]; exact hfin t ht
  have hsum : smN (fun i => q i (vx d i)) n = smN (fun i => q i (vx c i)) n := by
    have g1 : smN (fun i => q i (vx d i) - q i (vx c i)) n = smN (fun i => (if i = p then q p (vx c s) - q p (vx c p) else 0) + (if i = s then q s (vx c p) - q s (vx c s) else 0)) n := by
      refine smN_congr fun i hi => ?_
      rw [hv i hi]
      by_cases e1 : i = p
      · subst e1; rw [swN_l, if_pos rfl, if_neg hne]; omega
      · by_cases e2 : i = s
        · subst e2; rw [swN_r, if_neg e1, if_pos rfl]; omega
        · rw [swN_o e1 e2, if_neg e1, if_neg e2]; omega
    rw [smN_sub, smN_add] at g1
    have g2 := smN_point (fun _ => q p (vx c s) - q p (vx c p)) hp
    have g3 := smN_point (fun _ => q s (vx c p) - q s (vx c s)) hs'
    omega
  have hcd : costP q d = B := by
    unfold costP
    rw [hdn]
    rcases hb2 with ⟨hb2, _⟩ | ⟨_, hb2, _, _⟩
    · rw [hfd] at hb2; cases hb2
    · rw [hb2, hsum, ← hs]
  refine count_two hc (prmA_mem.2 ⟨hd, hdn⟩) (fun e => ?_) ec hcd hcnt.symm
  have := hv p hp
  rw [← e, swN_l] at this
  exact hne (hinj p s hp hs' this)
theorem reg_rows {n : Nat} {q : Nat → Nat → Int} (hm : ∀ a b, a < n → b < n → numB (q a b) = true) (hn : n ≤ 900) (h : regF n q = true) {i j : Nat} (hi : i < n) (hj : j < n) (hne : i ≠ j) (ha : Alk n (q i) (q j)) : False := by
  obtain ⟨c, hnd, hcl, hfin, key⟩ := reg_sw hm hn h
  obtain ⟨d, ha⟩ := ha
  have a1 := ha (vx c i) ((hnd.at hcl).1 i hi)
  have a2 := ha (vx c j) ((hnd.at hcl).1 j hj)
  have f1 := hfin i hi
  have f2 := hfin j hj
  rcases a1 with a1 | a1
  · exact f1 a1.1
  rcases a2 with a2 | a2
  · exact f2 a2.2
  exact key i j hi hj hne a2.1 a1.2.1 (by omega)
theorem reg_cols {n : Nat} {q : Nat → Nat → Int} (hm : ∀ a b, a < n → b < n → numB (q a b) = true) (hn : n ≤ 900) (h : regF n q = true) {i j : Nat} (hi : i < n) (hj : j < n) (hne : i ≠ j) (ha : Alk n (fun t => q t i) (fun t => q t j)) : False := by
  obtain ⟨c, hnd, hcl, hfin, key⟩ := reg_sw hm hn h
  obtain ⟨d, ha⟩ := ha
  obtain ⟨p, hp, ep⟩ := hitB_t.1 (hit_all (vx c) (hnd.at hcl).1 (hnd.at hcl).2 hi)
  obtain ⟨s, hs, es⟩ := hitB_t.1 (hit_all (vx c) (hnd.at hcl).1 (hnd.at hcl).2 hj)
  have a1 := ha p hp
  have a2 := ha s hs
  have f1 := hfin p hp
  have f2 := hfin s hs
  have k := key p s hp hs (fun e => hne (by rw [← ep, ← es, e]))
  rw [ep, es] at k
  rw [ep] at f1
  rw [es] at f2
  simp only at a1 a2
  rcases a1 with a1 | a1
  · exact f1 a1.1
  rcases a2 with a2 | a2
  · exact f2 a2.2
  exact k a1.2.1 a2.1 (by omega)

/-! ### bounds of ranks -/
theorem rkF_spec (R C : Nat) (m : Nat → Nat → Int) : ∀ K, rkF R C m K ≤ K ∧ (rkF R C m K = 0 ∨ hasR R C (rkF R C m K) m = true)
  | 0 => ⟨Nat.le_refl _, Or.inl rfl⟩
  | K + 1 => by
    unfold rkF
    by_cases h : hasR R C (K + 1) m = true
    · rw [if_pos h]; exact ⟨Nat.le_refl _, Or.inr h⟩
    · rw [if_neg h]
      have := rkF_spec R C m K
      exact ⟨by omega, this.2⟩
theorem has_cls {R C n : Nat} {m : Nat → Nat → Int} (hm : ∀ a b, a < R → b < C → numB (m a b) = true) (hn : n ≤ 900) (h : hasR R C n m = true) : n ≤ (clsL (alM R m) C).length ∧ n ≤ (clsL (alM C (trM m)) R).length := by
  rw [hasR_any] at h
  obtain ⟨r, hr, h⟩ := List.any_eq_true.1 h
  obtain ⟨c, hc, h⟩ := List.any_eq_true.1 h
  obtain ⟨hrl, hrc⟩ := rkC_mem.1 hr
  obtain ⟨hcl, hcc⟩ := rkC_mem.1 hc
  have hrv : ∀ t, t < n → vx r t < R := fun t ht => hrc.lt t (by omega)
  have hcv : ∀ t, t < n → vx c t < C := fun t ht => hcc.lt t (by omega)
  have hpm : ∀ a b, a < n → b < n → numB (ptM m r c a b) = true := fun a b ha hb => hm _ _ (hrv a ha) (hcv b hb)
  constructor
  · rcases Nat.lt_or_ge (clsL (alM R m) C).length n with g | g
    · obtain ⟨a, b, h1, h2, d, h3⟩ := cls_two m g hcv
      exact (reg_cols hpm hn h (show a < n by omega) h2 (by omega) ⟨d, fun t ht => h3 (vx r t) (hrv t ht)⟩).elim
    · exact g
  · rcases Nat.lt_or_ge (clsL (alM C (trM m)) R).length n with g | g
    · obtain ⟨a, b, h1, h2, d, h3⟩ := cls_two (trM m) g hrv
      exact (reg_rows hpm hn h (show a < n by omega) h2 (by omega) ⟨d, fun t ht => h3 (vx c t) (hcv t ht)⟩).elim
    · exact g
theorem trk_hi {M : List (List Int)} (h : matB M = true) : trk M ≤ hiN M ∧ hiN M ≤ (ccL M).length ∧ ((ccL M).map List.length).sum = colN M := by
  obtain ⟨h1, h2, _, h4, _⟩ := mat_facts h
  refine ⟨?_, Nat.min_le_left _ _, cls_sum _ _⟩
  obtain ⟨g1, g2⟩ := rkF_spec M.length (colN M) (entM M) (min M.length (colN M))
  change trk M ≤ _ at g1
  change trk M = 0 ∨ hasR M.length (colN M) (trk M) (entM M) = true at g2
  rcases g2 with g2 | g2
  · omega
  · have := has_cls h4 (Nat.le_trans g1 (by have := Nat.min_le_left M.length (colN M); omega)) g2
    exact Nat.le_min.2 this

/-! ### outer products -/
structure OutF (u v : List Int) : Prop where
  mat : matB (ouL u v) = true
  len : (ouL u v).length = u.length
  col : colN (ouL u v) = v.length
  ou : 1 ≤ u.length ∧ u.length ≤ 6
  ov : 1 ≤ v.length ∧ v.length ≤ 6
  ent : ∀ i k, i < u.length → k < v.length → entM (ouL u v) i k = u.getD i 0 + v.getD k 0
  one : r1B (ouL u v).length (colN (ouL u v)) (entM (ouL u v)) = true
  l1 : (p1L (ouL u v).length (entM (ouL u v))).length = u.length
  l2 : (p2L (colN (ouL u v)) (entM (ouL u v))).length = v.length
  sum : ∀ i k, i < u.length → k < v.length → (p1L (ouL u v).length (entM (ouL u v))).getD i 0 + (p2L (colN (ouL u v)) (entM (ouL u v))).getD k 0 = entM (ouL u v) i k
  bd : ∀ i k, i < u.length → k < v.length → -2000000 ≤ entM (ouL u v) i k ∧ entM (ouL u v) i k ≤ 2000000
  bd1 : ∀ i, i < u.length → -2000000 ≤ (p1L (ouL u v).length (entM (ouL u v))).getD i 0 ∧ (p1L (ouL u v).length (entM (ouL u v))).getD i 0 ≤ 2000000
  bd2 : ∀ k, k < v.length → -4000000 ≤ (p2L (colN (ouL u v)) (entM (ouL u v))).getD k 0 ∧ (p2L (colN (ouL u v)) (entM (ouL u v))).getD k 0 ≤ 4000000
theorem outF {u v : List Int} (h : ouB u v = true) : OutF u v := by
  unfold ouB at h
  rw [Bool.and_eq_true, Bool.and_eq_true] at h
  obtain ⟨hu, hv, hm⟩ := h
  obtain ⟨u1, u2⟩ := fv_facts hu
  obtain ⟨v1, v2⟩ := fv_facts hv
  have hlen : (ouL u v).length = u.length := toG_len _ _ _
  have hrow : ∀ i, i < u.length → (ouL u v).getD i [] = tab v.length (outM u v i) := fun i hi => toG_row _ hi
  have hcol : colN (ouL u v) = v.length := by unfold colN; rw [hrow 0 (by omega), tab_length]
  have hent : ∀ i k, i < u.length → k < v.length → entM (ouL u v) i k = u.getD i 0 + v.getD k 0 := fun i k hi hk => by
    unfold entM
    rw [hrow i hi, tab_getD hk]
    rfl
  have hp1 : ∀ i, i < u.length → (p1L (ouL u v).length (entM (ouL u v))).getD i 0 = u.getD i 0 + v.getD 0 0 := fun i hi => by
    unfold p1L
    rw [tab_getD (by rw [hlen]; exact hi), hent i 0 hi (by omega)]
  have hp2 : ∀ k, k < v.length → (p2L (colN (ouL u v)) (entM (ouL u v))).getD k 0 = v.getD k 0 - v.getD 0 0 := fun k hk => by
    unfold p2L
    rw [tab_getD (by rw [hcol]; exact hk), hent 0 k (by omega) hk, hent 0 0 (by omega) (by omega)]
    omega
  refine ⟨hm, hlen, hcol, u1, v1, hent, r1B_t.2 fun i k hi hk => ?_, ?_, ?_, fun i k hi hk => ?_, fun i k hi hk => ?_, fun i hi => ?_, fun k hk => ?_⟩
  · rw [hlen] at hi
    rw [hcol] at hk
    unfold okO
    rw [hent i k hi hk, hent i 0 hi (by omega), hent 0 k (by omega) hk, hent 0 0 (by omega) (by omega)]
    have := u2 i hi
    have := v2 k hk
    exact ⟨by omega, by omega⟩
  · unfold p1L; rw [tab_length, hlen]
  · unfold p2L; rw [tab_length, hcol]
  · rw [hp1 i hi, hp2 k hk, hent i k hi hk]; omega
  · rw [hent i k hi hk]
    have := u2 i hi
    have := v2 k hk
    omega
  · rw [hp1 i hi]
    have := u2 i hi
    have := v2 0 (by omega)
    omega
  · rw [hp2 k hk]
    have := v2 k hk
    have := v2 0 (by omega)
    omega
end Go.Proofs.Ytnbenpalneodlaa
