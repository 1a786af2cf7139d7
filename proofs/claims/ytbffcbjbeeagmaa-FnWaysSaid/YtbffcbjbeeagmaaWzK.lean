/-
  Ways, plain: what the law asks of costs, cheapest ways and negative circuits. By an AI agent.
-/
import Derived.Test.YtbffcbjbeeagmaaWzD
import Derived.Test.YtbffcbjbeeagmaaWzJ
namespace Go.Proofs.Ytbffcbjbeeagmaa

theorem wy_ext {n : Nat} {m : Nat → Nat → Int} {l : List Int} (hm : ∀ a b, a < n → b < n → numB (m a b) = true) (h1 : 1 ≤ l.length) (h8 : l.length ≤ 800) (hv : vtB n l = true) (hs : stB m l (l.length - 1) = true) {k : Nat} (hk : k < n) (hne : m (laV l) k ≠ 1000000000) :
    vtB n (l ++ [(k : Int)]) = true ∧ stB m (l ++ [(k : Int)]) ((l ++ [(k : Int)]).length - 1) = true ∧ coF m (l ++ [(k : Int)]) ((l ++ [(k : Int)]).length - 1) = coF m l (l.length - 1) + m (laV l) k ∧ laV (l ++ [(k : Int)]) = k := by
  obtain ⟨q, hq⟩ : ∃ q, l.length = q + 1 := ⟨l.length - 1, by omega⟩
  have hc : coF m l (l.length - 1) ≠ 1000000000 := by
    rcases co_bd hm hv (by omega) (l.length - 1) (by omega) with ⟨g, _⟩ | ⟨_, g1, g2⟩
    · rw [hs] at g; cases g
    · omega
  have hl : (l ++ [(k : Int)]).length - 1 = q + 1 := by rw [List.length_append, List.length_singleton]; omega
  have h2 : laV (l ++ [(k : Int)]) = k := by unfold laV; rw [hl, ← hq, vx_snoc_eq]
  refine ⟨allB_t.2 fun t ht => ?_, ?_, ?_, h2⟩
  · rw [List.length_append, List.length_singleton] at ht
    by_cases e : t = l.length
    · subst e
      simp [List.getD_eq_getElem?_getD]
      omega
    · have := allB_t.1 hv t (by omega)
      rwa [List.getD_eq_getElem?_getD, List.getElem?_append_left (by omega), ← List.getD_eq_getElem?_getD]
  · rw [hl]
    unfold laV at hne
    rw [hq, Nat.add_sub_cancel] at hs hne
    unfold stB
    rw [stB_snoc _ (by omega), hs, vx_snoc_lt _ (by omega), ← hq, vx_snoc_eq]
    simp [hne]
  · rw [hl]
    unfold laV at hne ⊢
    rw [hq, Nat.add_sub_cancel] at hc hne ⊢
    have h3 : coF m (l ++ [(k : Int)]) (q + 1) = prodZ (coF m (l ++ [(k : Int)]) q) (m (vx (l ++ [(k : Int)]) q) (vx (l ++ [(k : Int)]) (q + 1))) := rfl
    rw [h3, coF_snoc _ (by omega), vx_snoc_lt _ (by omega), ← hq, vx_snoc_eq, prodZ_fin hc hne]
theorem ch_way {n : Nat} {m : Nat → Nat → Int} {b : Nat} (hm : ∀ a b, a < n → b < n → numB (m a b) = true) : ∀ (s a : Nat) (l : List Int), 1 ≤ l.length → l.length + s ≤ 800 → vtB n l = true → stB m l (l.length - 1) = true → laV l = a → a < n → exF n m b s a ≠ 1000000000 →
    vtB n (l ++ chP n m b s a) = true ∧ stB m (l ++ chP n m b s a) ((l ++ chP n m b s a).length - 1) = true ∧ coF m (l ++ chP n m b s a) ((l ++ chP n m b s a).length - 1) = coF m l (l.length - 1) + exF n m b s a ∧ laV (l ++ chP n m b s a) = b
  | 0, a, l, _, _, h3, h4, h5, _, h7 => by
    unfold exF at h7 ⊢
    have e : a = b := by
      by_cases e : a = b
      · exact e
      · rw [if_neg e] at h7; exact absurd rfl h7
    rw [if_pos e]
    unfold chP
    rw [List.append_nil]
    exact ⟨h3, h4, by omega, by rw [h5, e]⟩
  | s + 1, a, l, h1, h2, h3, h4, h5, h6, h7 => by
    obtain ⟨g1, ⟨g2, g3⟩, _, g4⟩ := chK_spec h7
    have hch : chP n m b (s + 1) a = (chK n m b s a : Int) :: chP n m b s (chK n m b s a) := rfl
    generalize chK n m b s a = k at g1 g2 g3 g4 hch
    obtain ⟨e1, e2, e3, e4⟩ := wy_ext hm h1 (by omega) h3 h4 g1 (by rw [h5]; exact g2)
    have hl : (l ++ [(k : Int)]).length = l.length + 1 := by simp
    have ih := ch_way hm s k (l ++ [(k : Int)]) (by omega) (by omega) e1 e2 e4 g1 g4
    have hL : l ++ chP n m b (s + 1) a = (l ++ [(k : Int)]) ++ chP n m b s k := by rw [hch]; simp
    rw [hL]
    refine ⟨ih.1, ih.2.1, ?_, ih.2.2.2⟩
    rw [ih.2.2.1, e3, h5, ← g3, prodZ_fin g2 g4]
    omega
theorem getD_memW {l : List Int} {j : Nat} (h : j < l.length) : l.getD j 0 ∈ l := by rw [List.getD_eq_getElem?_getD, List.getElem?_eq_getElem h]; exact List.getElem_mem h
/-- what a cheapest way is. -/
theorem ch_good {M : List (List Int)} {f t : Int} (h : chB M f t = true) (hc : cosB M = true) : ∃ a b : Nat, f = (a : Int) ∧ t = (b : Int) ∧ a < M.length ∧ b < M.length ∧ cowW M (chX M f t) = true ∧ numB (cowX M (chX M f t)) = true ∧ cowX M (chX M f t) = bf M.length (entM M) M.length a b ∧ (1 ≤ (chX M f t).length ∧ (chX M f t).length ≤ M.length) ∧ (chX M f t).getD 0 0 = f ∧ (chX M f t).getD ((chX M f t).length - 1) 0 = t := by
  unfold chB at h
  simp only [Bool.and_eq_true, Bool.not_eq_true', decide_eq_false_iff_not] at h
  obtain ⟨h1, h2, h3, h4, h5⟩ := h
  obtain ⟨n1, _, hnum⟩ := sq_facts h1
  have hnum : ∀ a b, a < M.length → b < M.length → numB (entM M a b) = true := hnum
  have e2 := inB_t.1 h2
  have e3 := inB_t.1 h3
  obtain ⟨a, rfl⟩ : ∃ a : Nat, f = (a : Int) := ⟨f.toNat, by omega⟩
  obtain ⟨b, rfl⟩ : ∃ b : Nat, t = (b : Int) := ⟨t.toNat, by omega⟩
  rw [Int.toNat_natCast, Int.toNat_natCast] at h5
  have ha : a < M.length := by omega
  have hb : b < M.length := by omega
  have hok : okB M.length (entM M) = true := by unfold okW at h4; rw [h1, Bool.true_and] at h4; exact h4
  obtain ⟨s1, s2, _⟩ := chS_spec (ex_meet hnum n1.2 (okB_t.1 hok) ha hb h5)
  have hX : chX M (a : Int) (b : Int) = [(a : Int)] ++ chP M.length (entM M) b (chS M.length (entM M) a b) a := rfl
  generalize chS M.length (entM M) a b = s at s1 s2 hX
  have hp := Pth.one (entM M) ha
  have hla : laV [(a : Int)] = a := rfl
  have hw := ch_way hnum s a [(a : Int)] (Nat.le_refl _) (by simp; omega) hp.vt hp.st hla ha (by rw [s2]; exact h5)
  have hlen : ([(a : Int)] ++ chP M.length (entM M) b s a).length = s + 1 := by rw [List.length_append, chP_len]; simp; omega
  rw [← hX] at hw hlen
  have hz : coF (entM M) [(a : Int)] ([(a : Int)].length - 1) = 0 := rfl
  obtain ⟨w1, w2, w3, w4⟩ := hw
  rw [hz, Int.zero_add, s2] at w3
  have hcow : cowX M (chX M (a : Int) (b : Int)) = bf M.length (entM M) M.length a b := w3
  have hway : cowW M (chX M (a : Int) (b : Int)) = true := by
    unfold cowW wayB
    rw [h1, w1, w2, inB_t.2 (by rw [hlen]; omega)]
    rfl
  have hnb : numB (bf M.length (entM M) M.length a b) = true := by
    unfold cosB nmB at hc
    rw [Bool.and_eq_true, List.all_eq_true] at hc
    have g1 := hc.2 ((disM M).getD a []) (by rw [List.getD_eq_getElem?_getD, List.getElem?_eq_getElem (by rw [dis_len]; exact ha)]; exact List.getElem_mem _)
    rw [List.all_eq_true] at g1
    have g2 : ((disM M).getD a []).getD b 0 = bf M.length (entM M) M.length a b := by unfold disM; rw [toM_row _ ha, tab_getD hb]
    rw [← g2]
    exact g1 _ (getD_memW (by rw [dis_row M ha]; exact hb))
  refine ⟨a, b, rfl, rfl, ha, hb, hway, by rw [hcow]; exact hnb, hcow, ⟨by omega, by omega⟩, by rw [hX]; rfl, ?_⟩
  have g1 := (vt_at w1 (t := (chX M (a : Int) (b : Int)).length - 1) (by omega)).1
  rw [g1]
  exact congrArg Int.ofNat w4
/-- costs keep the triangles. -/
theorem tri_good {M : List (List Int)} (hc : cosB M = true) : (1 ≤ M.length ∧ M.length ≤ 6) ∧ (∀ i j, i < M.length → j < M.length → numB (bf M.length (entM M) M.length i j) = true) ∧ (∀ i, i < M.length → bf M.length (entM M) M.length i i = 0) ∧ ∀ i j k, i < M.length → j < M.length → k < M.length → bf M.length (entM M) M.length i j ≠ 1000000000 → bf M.length (entM M) M.length j k ≠ 1000000000 → bf M.length (entM M) M.length i k ≤ bf M.length (entM M) M.length i j + bf M.length (entM M) M.length j k := by
  have hc2 := hc
  unfold cosB okW at hc2
  simp only [Bool.and_eq_true] at hc2
  obtain ⟨⟨h1, h2⟩, h3⟩ := hc2
  obtain ⟨n1, _, hnum⟩ := sq_facts h1
  have hnum : ∀ a b, a < M.length → b < M.length → numB (entM M a b) = true := hnum
  have hfix := okB_t.1 h2
  refine ⟨n1, fun i j hi hj => ?_, fun i hi => ?_, fun i j k hi hj hk e1 e2 => ?_⟩
  · unfold nmB at h3
    rw [List.all_eq_true] at h3
    have g1 := h3 ((disM M).getD i []) (by rw [List.getD_eq_getElem?_getD, List.getElem?_eq_getElem (by rw [dis_len]; exact hi)]; exact List.getElem_mem _)
    rw [List.all_eq_true] at g1
    have g2 : ((disM M).getD i []).getD j 0 = bf M.length (entM M) M.length i j := by unfold disM; rw [toM_row _ hi, tab_getD hj]
    rw [← g2]
    exact g1 _ (getD_memW (by rw [dis_row M hi]; exact hj))
  · obtain ⟨g1, g2⟩ := fix_le hnum n1.2 hfix (Wk.nil (m := entM M) hi)
    obtain ⟨t, _, g3⟩ := bf_sound M.length hi hi g1
    have g4 := fix_closed hnum n1.2 hfix g3
    omega
  · obtain ⟨t1, _, g1⟩ := bf_sound M.length hi hj e1
    obtain ⟨t2, _, g2⟩ := bf_sound M.length hj hk e2
    exact (fix_le hnum n1.2 hfix (g1.append g2)).2
/-- a told circuit is negative, and there are no costs. -/
theorem ng_good {M : List (List Int)} (h : ngB M = true) : cosB M = false ∧ (1 ≤ (ngX M).length ∧ (ngX M).length ≤ 6) ∧ cowX M (ngX M ++ [(ngX M).getD 0 0]) < 0 := by
  unfold ngB at h
  simp only [Bool.and_eq_true, Bool.not_eq_true', decide_eq_false_iff_not] at h
  obtain ⟨h1, h2⟩ := h
  obtain ⟨n1, _, hnum⟩ := sq_facts h1
  have hnum : ∀ a b, a < M.length → b < M.length → numB (entM M a b) = true := hnum
  obtain ⟨hp, hne, hneg⟩ := bst_in h2
  have hcl := bst_closed hnum n1.2 h2
  refine ⟨?_, ⟨hp.pos, Nat.le_trans hp.len n1.2⟩, ?_⟩
  · rw [Bool.eq_false_iff]
    intro hc
    unfold cosB okW at hc
    simp only [Bool.and_eq_true] at hc
    obtain ⟨x, c, s, hw, hlt⟩ := hcl
    have := fix_closed hnum n1.2 (okB_t.1 hc.1.2) hw
    omega
  · rw [show ngX M = bstC M.length (entM M) from rfl]
    generalize bstC M.length (entM M) = l at hp hne hneg
    have hpos := hp.pos
    have hn := of_decide_eq_true hneg
    have h0 : l.getD 0 0 = ((vx l 0 : Nat) : Int) := (vt_at hp.vt (t := 0) (by omega)).1
    unfold cowX
    obtain ⟨q, hq⟩ : ∃ q, l.length = q + 1 := ⟨l.length - 1, by omega⟩
    rw [h0, show (l ++ [((vx l 0 : Nat) : Int)]).length - 1 = q + 1 by rw [List.length_append, List.length_singleton]; omega]
    have h3 : coF (entM M) (l ++ [((vx l 0 : Nat) : Int)]) (q + 1) = prodZ (coF (entM M) (l ++ [((vx l 0 : Nat) : Int)]) q) (entM M (vx (l ++ [((vx l 0 : Nat) : Int)]) q) (vx (l ++ [((vx l 0 : Nat) : Int)]) (q + 1))) := rfl
    rw [h3, coF_snoc _ (by omega), vx_snoc_lt _ (by omega), ← hq, vx_snoc_eq]
    unfold cyC laV at hn
    rwa [hq, Nat.add_sub_cancel] at hn
theorem dis_sm {M : List (List Int)} (h : sm7 M) : sm7 (onM (cosB M) (disM M)) := by
  cases cosB M
  · exact ⟨by simp [onM], fun i hi => absurd hi (Nat.not_lt_zero _)⟩
  · rw [show onM true (disM M) = disM M from rfl]
    refine ⟨by rw [dis_len]; exact h.1, fun i hi => ?_⟩
    rw [dis_len] at hi
    rw [dis_row M hi]
    exact h.1
theorem ch_sm (M : List (List Int)) (f t : Int) : (onL (chB M f t) (chX M f t)).length ≤ 7 := by
  cases hB : chB M f t
  · simp [onL]
  · rw [show onL true (chX M f t) = chX M f t from rfl]
    unfold chB at hB
    simp only [Bool.and_eq_true, Bool.not_eq_true', decide_eq_false_iff_not] at hB
    obtain ⟨h1, h2, h3, h4, h5⟩ := hB
    have n1 := (sq_facts h1).1
    have e2 := inB_t.1 h2
    have e3 := inB_t.1 h3
    have hok : okB M.length (entM M) = true := by unfold okW at h4; rw [h1, Bool.true_and] at h4; exact h4
    have s1 := (chS_spec (ex_meet (m := entM M) (sq_facts h1).2.2 n1.2 (okB_t.1 hok) (a := f.toNat) (b := t.toNat) (by omega) (by omega) h5)).1
    unfold chX chL
    rw [List.length_cons, chP_len]
    omega
theorem ng_sm (M : List (List Int)) : (onL (ngB M) (ngX M)).length ≤ M.length := by
  cases ngB M
  · simp [onL]
  · exact bst_len _ _
end Go.Proofs.Ytbffcbjbeeagmaa
