/-
  Some texts of this proof in one: CsB CsC CsP. Each part tells what it proves. By an AI agent.
-/
import Derived.Test.YtbcmnhppodfhpaaGreatCeP
import Derived.Test.YtbcmnhppodfhpaaGreatGeD
import Derived.Test.YtbcmnhppodfhpaaGreatCpQ

/-
  Sides of cells: which pairs of terms they are, and that no pair is a side of more than two cells. Plain. By an AI agent.
-/
namespace Go.Proofs.YtbcmnhppodfhpaaGreat
open Geo

/-! ### cells -/
theorem cel3_cel {L : List Tm} {a b : Nat} : ∀ {k : Nat} {x : List Int}, x ∈ cel3 L a b k → ∃ c, c < k ∧ celB L a b c = true ∧ x = celL L a b c
  | 0, x, h => by simp [cel3] at h
  | k + 1, x, h => by
    unfold cel3 at h
    split at h
    · rename_i hc
      rcases List.mem_append.1 h with h | h
      · obtain ⟨c, h1, h2, h3⟩ := cel3_cel h
        exact ⟨c, by omega, h2, h3⟩
      · exact ⟨k, by omega, hc.2, List.mem_singleton.1 h⟩
    · obtain ⟨c, h1, h2, h3⟩ := cel3_cel h
      exact ⟨c, by omega, h2, h3⟩
theorem cel2_cel {L : List Tm} {a : Nat} : ∀ {k : Nat} {x : List Int}, x ∈ cel2 L a k → ∃ b c, b < k ∧ c < L.length ∧ celB L a b c = true ∧ x = celL L a b c
  | 0, x, h => by simp [cel2] at h
  | k + 1, x, h => by
    unfold cel2 at h
    split at h
    · rcases List.mem_append.1 h with h | h
      · obtain ⟨b, c, h1, h2, h3, h4⟩ := cel2_cel h
        exact ⟨b, c, by omega, h2, h3, h4⟩
      · obtain ⟨c, h1, h2, h3⟩ := cel3_cel h
        exact ⟨k, c, by omega, h1, h2, h3⟩
    · obtain ⟨b, c, h1, h2, h3, h4⟩ := cel2_cel h
      exact ⟨b, c, by omega, h2, h3, h4⟩
theorem cel1_cel {L : List Tm} : ∀ {k : Nat} {x : List Int}, x ∈ cel1 L k → ∃ a b c, a < k ∧ b < L.length ∧ c < L.length ∧ celB L a b c = true ∧ x = celL L a b c
  | 0, x, h => by simp [cel1] at h
  | k + 1, x, h => by
    unfold cel1 at h
    rcases List.mem_append.1 h with h | h
    · obtain ⟨a, b, c, h1, h2⟩ := cel1_cel h
      exact ⟨a, b, c, by omega, h2⟩
    · obtain ⟨b, c, h1, h2, h3, h4⟩ := cel2_cel h
      exact ⟨k, b, c, by omega, h1, h2, h3, h4⟩
theorem hgt_two (o u v : Tm) : hgtZ o u v u = 0 := by
  unfold hgtZ abvI
  rw [(turn_at (pnt o) (pnt u)).1, Int.mul_zero, Int.sub_zero, Int.sub_self]
  simp
theorem hgt_three (o u v : Tm) : hgtZ o u v v = 0 := by
  unfold hgtZ abvI
  rw [(turn_at (pnt o) (pnt v)).1, Int.mul_zero, Int.sub_zero, Int.sub_self]
  simp
abbrev pI (L : List Tm) (i : Nat) : Pt := pnt (tmAt L i)
/-- What a cell is. -/
structure CelG (L : List Tm) (C : List Int) : Prop where
  sup : ∃ T al be ga, Sup L C T al be ga
  idx : ∀ x ∈ C, ∃ t : Nat, x = t ∧ t < L.length
  tri : ∃ a b c : Nat, (a : Int) ∈ C ∧ (b : Int) ∈ C ∧ (c : Int) ∈ C ∧ turnZ (pI L a) (pI L b) (pI L c) ≠ 0
  inc : C.Pairwise (· < ·)
theorem onL3_inc {L : List Tm} {a b c : Nat} : ∀ k, (onL3 L a b c k).Pairwise (· < ·)
  | 0 => List.Pairwise.nil
  | k + 1 => by
    have ih := onL3_inc (L := L) (a := a) (b := b) (c := c) k
    unfold onL3
    split
    · rw [List.pairwise_append]
      refine ⟨ih, List.pairwise_singleton _ _, fun x hx y hy => ?_⟩
      obtain ⟨t, rfl, ht, _⟩ := onL3_mem.1 hx
      rw [List.mem_singleton.1 hy]
      omega
    · exact ih
theorem celA_g {L : List Tm} {C : List Int} (h : C ∈ celA L) : CelG L C := by
  have hin := (celA_in h).2.2
  unfold celA at h
  rw [LstSort.putF_mem] at h
  obtain ⟨a, b, c, ha, hb, hc, hB, rfl⟩ := cel1_cel h
  refine ⟨cel_sup hB, hin, ⟨a, b, c, ?_, ?_, ?_, ?_⟩, onL3_inc _⟩
  · exact onL3_mem.2 ⟨a, rfl, ha, hgt_self _ _ _⟩
  · exact onL3_mem.2 ⟨b, rfl, hb, hgt_two _ _ _⟩
  · exact onL3_mem.2 ⟨c, rfl, hc, hgt_three _ _ _⟩
  · unfold celB at hB
    rw [Bool.and_eq_true, decide_eq_true_eq] at hB
    exact hB.1

/-! ### its points -/
def ptS (L : List Tm) (C : List Int) : List Pt := pySortF (ptsX L C)
theorem ptS_mem {L : List Tm} {C : List Int} (h : CelG L C) (p : Pt) : p ∈ ptS L C ↔ ∃ t : Nat, (t : Int) ∈ C ∧ p = pI L t := by
  unfold ptS
  rw [pySortF_mem]
  unfold ptsX
  rw [List.mem_map]
  constructor
  · rintro ⟨x, hx, rfl⟩
    obtain ⟨t, rfl, _⟩ := h.idx x hx
    exact ⟨t, hx, rfl⟩
  · rintro ⟨t, ht, rfl⟩
    exact ⟨(t : Int), ht, rfl⟩
theorem line_turn {p q a b c : Pt} (hpq : p ≠ q) (ha : crs p q p a = 0) (hb : crs p q p b = 0) (hc : crs p q p c = 0) : turnZ a b c = 0 := by
  unfold crs at ha hb hc
  unfold turnZ
  have h1 : (q.x - p.x) * ((b.x - a.x) * (c.y - a.y) - (b.y - a.y) * (c.x - a.x)) = 0 := by grind
  have h2 : (q.y - p.y) * ((b.x - a.x) * (c.y - a.y) - (b.y - a.y) * (c.x - a.x)) = 0 := by grind
  rcases Int.mul_eq_zero.1 h1 with e | e
  · rcases Int.mul_eq_zero.1 h2 with e2 | e2
    · exfalso
      apply hpq
      obtain ⟨px, py⟩ := p
      obtain ⟨qx, qy⟩ := q
      simp only at e e2
      congr 1 <;> omega
    · exact e2
  · exact e
theorem edg_left {L : List Tm} {C : List Int} (h : CelG L C) {p q : Pt} (he : Edg (ptS L C) p q) : ∃ t : Nat, (t : Int) ∈ C ∧ 0 < crs p q p (pI L t) := by
  obtain ⟨a, b, c, ha, hb, hc, ht⟩ := h.tri
  have h0 : ∀ t : Nat, (t : Int) ∈ C → 0 ≤ crs p q p (pI L t) := fun t ht => (he.2.2.2 _ ((ptS_mem h _).2 ⟨t, ht, rfl⟩)).1
  rcases Classical.em (∃ t : Nat, (t : Int) ∈ C ∧ 0 < crs p q p (pI L t)) with g | g
  · exact g
  · exfalso
    have z : ∀ t : Nat, (t : Int) ∈ C → crs p q p (pI L t) = 0 := fun t ht => by
      have h1 := h0 t ht
      have h2 : ¬ 0 < crs p q p (pI L t) := fun h3 => g ⟨t, ht, h3⟩
      omega
    exact ht (line_turn he.2.2.1 (z a ha) (z b hb) (z c hc))
theorem crs_back (p q x : Pt) : crs q p q x = -crs p q p x := by unfold crs; grind
theorem edg_one {L : List Tm} {C : List Int} (h : CelG L C) {p q : Pt} (he : Edg (ptS L C) p q) (hb : Edg (ptS L C) q p) : False := by
  obtain ⟨t, ht, h1⟩ := edg_left h he
  have h2 := (hb.2.2.2 _ ((ptS_mem h _).2 ⟨t, ht, rfl⟩)).1
  rw [crs_back] at h2
  omega
theorem ptS_two {L : List Tm} {C : List Int} (h : CelG L C) : 2 ≤ (ptS L C).length := by
  obtain ⟨a, b, c, ha, hb, hc, ht⟩ := h.tri
  have m1 := (ptS_mem h _).2 ⟨a, ha, rfl⟩
  have m2 := (ptS_mem h _).2 ⟨b, hb, rfl⟩
  have hne : pI L a ≠ pI L b := fun e => ht (by rw [e]; exact (turn_at _ _).2.1)
  obtain ⟨i, hi, e1⟩ := List.getElem_of_mem m1
  obtain ⟨j, hj, e2⟩ := List.getElem_of_mem m2
  have : i ≠ j := fun e => hne (by rw [← e1, ← e2]; simp only [e])
  omega
theorem cell_sides {L : List Tm} {C : List Int} (h : CelG L C) : (sidesF (hulX L C)).Nodup ∧ ∀ a b, (a, b) ∈ sidesF (hulX L C) ↔ Edg (ptS L C) a b := hull_sides (pySortF_strict _) (ptS_two h)

/-! ### pairs of terms -/
def ixP (L : List Tm) (p : Pt) : Int := ((posF p (ptsL L L.length) : Nat) : Int)
def prX (L : List Tm) (C : List Int) : List (Int × Int) := (sidesF (hulX L C)).map fun e => (min (ixP L e.1) (ixP L e.2), max (ixP L e.1) (ixP L e.2))
/-- different terms have different points. -/
def Dist (L : List Tm) : Prop := ∀ i j, i < L.length → j < L.length → pI L i = pI L j → i = j
theorem ix_at {L : List Tm} (hd : Dist L) {i : Nat} (hi : i < L.length) : ixP L (pI L i) = i := by
  unfold ixP
  rw [posF_at (k := i) (by rw [ptsL_len]; exact hi) (ptsL_at L hi) (fun j hj e => by
    rw [ptsL_at L (by omega)] at e
    have := hd j i (by omega) hi e
    omega)]
theorem edg_ix {L : List Tm} {C : List Int} (h : CelG L C) {p q : Pt} (he : Edg (ptS L C) p q) : ∃ i k : Nat, (i : Int) ∈ C ∧ (k : Int) ∈ C ∧ i < L.length ∧ k < L.length ∧ p = pI L i ∧ q = pI L k := by
  obtain ⟨i, h1, h2⟩ := (ptS_mem h _).1 he.1
  obtain ⟨k, h3, h4⟩ := (ptS_mem h _).1 he.2.1
  obtain ⟨t, e1, t1⟩ := h.idx _ h1
  obtain ⟨s, e2, s1⟩ := h.idx _ h3
  exact ⟨i, k, h1, h3, by omega, by omega, h2, h4⟩
theorem prX_mem {L : List Tm} {C : List Int} (h : CelG L C) (hd : Dist L) (a b : Int) : (a, b) ∈ prX L C ↔ ∃ i k : Nat, i < L.length ∧ k < L.length ∧ Edg (ptS L C) (pI L i) (pI L k) ∧ a = min (i : Int) k ∧ b = max (i : Int) k := by
  unfold prX
  rw [List.mem_map]
  constructor
  · rintro ⟨⟨p, q⟩, he, e⟩
    have he := ((cell_sides h).2 p q).1 he
    obtain ⟨i, k, _, _, h1, h2, rfl, rfl⟩ := edg_ix h he
    simp only [ix_at hd h1, ix_at hd h2, Prod.mk.injEq] at e
    exact ⟨i, k, h1, h2, he, e.1.symm, e.2.symm⟩
  · rintro ⟨i, k, h1, h2, he, rfl, rfl⟩
    exact ⟨(pI L i, pI L k), ((cell_sides h).2 _ _).2 he, by simp only [ix_at hd h1, ix_at hd h2]⟩
theorem nodup_mapS {α β : Type} {f : α → β} : ∀ {l : List α}, l.Nodup → (∀ x ∈ l, ∀ y ∈ l, f x = f y → x = y) → (l.map f).Nodup
  | [], _, _ => by simp
  | a :: l, h, hf => by
    rw [List.nodup_cons] at h
    rw [List.map_cons, List.nodup_cons]
    refine ⟨fun hm => ?_, nodup_mapS h.2 fun x hx y hy => hf x (List.mem_cons_of_mem _ hx) y (List.mem_cons_of_mem _ hy)⟩
    obtain ⟨b, hb, e⟩ := List.mem_map.1 hm
    have := hf b (List.mem_cons_of_mem _ hb) a (by simp) e
    subst this
    exact h.1 hb
theorem prX_nodup {L : List Tm} {C : List Int} (h : CelG L C) (hd : Dist L) : (prX L C).Nodup := by
  refine nodup_mapS (cell_sides h).1 ?_
  rintro ⟨p, q⟩ h1 ⟨p', q'⟩ h2 e
  have g1 := ((cell_sides h).2 p q).1 h1
  have g2 := ((cell_sides h).2 p' q').1 h2
  obtain ⟨i, k, _, _, b1, b2, rfl, rfl⟩ := edg_ix h g1
  obtain ⟨i', k', _, _, b3, b4, rfl, rfl⟩ := edg_ix h g2
  simp only [ix_at hd b1, ix_at hd b2, ix_at hd b3, ix_at hd b4, Prod.mk.injEq] at e
  have hc : (i = i' ∧ k = k') ∨ (i = k' ∧ k = i') := by omega
  rcases hc with ⟨rfl, rfl⟩ | ⟨rfl, rfl⟩
  · rfl
  · exact absurd g2 (fun g => edg_one h g1 g)
theorem cor_at (L : List Tm) (C : List Int) {j : Nat} (hj : j < (hulX L C).length) : (corX L C).getD j 0 = ixP L ((hulX L C).getD j default) := by
  unfold corX ixP
  rw [List.getD_eq_getElem?_getD, List.getElem?_map, List.getD_eq_getElem?_getD, List.getElem?_eq_getElem hj]
  rfl
theorem prX_tab (L : List Tm) (C : List Int) : prX L C = tab (corX L C).length fun j => (sidA (corX L C) j, sidB (corX L C) j) := by
  unfold prX
  rw [← sides_tab (fun p q => (min (ixP L p) (ixP L q), max (ixP L p) (ixP L q))) (hulX L C), corX_len]
  refine tab_congr fun j hj => ?_
  have hj2 : (j + 1) % (hulX L C).length < (hulX L C).length := Nat.mod_lt _ (by omega)
  unfold sidA sidB nextP
  rw [corX_len, cor_at L C hj, cor_at L C hj2]

/-! ### the numbers at an edge -/
theorem sdC_at (m : SdF) (l : List Int) (n : Nat) (a b : Int) : ∀ j, sdC m l n j a b = m a b ++ List.replicate ((tab j fun t => (sidA l t, sidB l t)).count (a, b)) (n : Int)
  | 0 => by simp [sdC, tab]
  | j + 1 => by
    unfold sdC addM
    rw [tab_succ, List.count_append, sdC_at m l n a b j]
    by_cases e : a = sidA l j ∧ b = sidB l j
    · obtain ⟨rfl, rfl⟩ := e
      rw [if_pos ⟨rfl, rfl⟩]
      simp only [List.count_cons_self, List.count_nil, Nat.zero_add]
      rw [List.append_assoc, ← List.replicate_succ']
    · rw [if_neg e]
      have : ((sidA l j, sidB l j) == (a, b)) = false := by
        rw [beq_eq_false_iff_ne]
        intro h
        injection h with h1 h2
        exact e ⟨h1.symm, h2.symm⟩
      rw [List.count_cons, this]
      simp
/-- which cells have a pair as a side. -/
def inX (L : List Tm) (C : List (List Int)) (a b : Int) (n : Nat) : Bool := decide ((a, b) ∈ prX L (C.getD n []))
theorem sdA_at {L : List Tm} {C : List (List Int)} (hC : ∀ x ∈ C, CelG L x) (hd : Dist L) (a b : Int) : ∀ k, k ≤ C.length → sdA L C k a b = ((List.range k).filter (inX L C a b)).map fun n : Nat => (n : Int)
  | 0, _ => rfl
  | k + 1, hk => by
    have hm : C.getD k [] ∈ C := by rw [List.getD_eq_getElem?_getD, List.getElem?_eq_getElem (show k < C.length by omega)]; exact List.getElem_mem _
    have hg := hC _ hm
    unfold sdA
    rw [sdC_at, sdA_at hC hd a b k (by omega), ← prX_tab, List.range_succ, List.filter_append, List.map_append]
    congr 1
    by_cases e : (a, b) ∈ prX L (C.getD k [])
    · have h1 := (prX_nodup hg hd).count (a := (a, b))
      have hi : inX L C a b k = true := decide_eq_true e
      rw [h1, if_pos e]
      simp only [List.filter_cons, List.filter_nil, hi, if_true, List.map_cons, List.map_nil, List.replicate_one]
    · have hi : inX L C a b k = false := decide_eq_false e
      rw [List.count_eq_zero.2 e]
      simp only [List.filter_cons, List.filter_nil, hi, Bool.false_eq_true, if_false, List.map_nil, List.replicate_zero]
theorem inc_ext : ∀ {l m : List Int}, l.Pairwise (· < ·) → m.Pairwise (· < ·) → (∀ x, x ∈ l ↔ x ∈ m) → l = m
  | [], [], _, _, _ => rfl
  | [], b :: m, _, _, h => absurd ((h b).2 (by simp)) (by simp)
  | a :: l, [], _, _, h => absurd ((h a).1 (by simp)) (by simp)
  | a :: l, b :: m, h1, h2, h => by
    rw [List.pairwise_cons] at h1 h2
    have e : a = b := by
      rcases List.mem_cons.1 ((h a).1 (by simp)) with e | e
      · exact e
      · rcases List.mem_cons.1 ((h b).2 (by simp)) with e2 | e2
        · exact e2.symm
        · have := h1.1 b e2
          have := h2.1 a e
          omega
    subst e
    congr 1
    refine inc_ext h1.2 h2.2 fun x => ?_
    have hx := h x
    simp only [List.mem_cons] at hx
    constructor
    · intro g
      rcases hx.1 (Or.inr g) with e | e
      · have := h1.1 x g; omega
      · exact e
    · intro g
      rcases hx.2 (Or.inr g) with e | e
      · have := h2.1 x g; omega
      · exact e
/-- two cells with a common directed side are one. -/
theorem cell_same {L : List Tm} {C C' : List Int} (h : CelG L C) (h' : CelG L C') {i k : Nat} (hi : i < L.length) (hk : k < L.length) (hd : Dist L) (he : Edg (ptS L C) (pI L i) (pI L k)) (he' : Edg (ptS L C') (pI L i) (pI L k)) : C = C' := by
  obtain ⟨T, al, be, ga, s⟩ := h.sup
  obtain ⟨T', al', be', ga', s'⟩ := h'.sup
  obtain ⟨c, hc, ht⟩ := edg_left h he
  obtain ⟨c', hc', ht'⟩ := edg_left h' he'
  have mem : ∀ {D : List Int} (g : CelG L D) {t : Nat}, t < L.length → pI L t ∈ ptS L D → (t : Int) ∈ D := fun g t ht hm => by
    obtain ⟨u, hu, e⟩ := (ptS_mem g _).1 hm
    obtain ⟨u2, e2, hu2⟩ := g.idx _ hu
    have := hd t u ht (by omega) e
    rw [this]
    exact hu
  have hs := sup_same s s' (mem h hi he.1) (mem h hk he.2.1) (mem h' hi he'.1) (mem h' hk he'.2.1) hc hc' ht ht'
  refine inc_ext h.inc h'.inc fun x => ?_
  constructor
  · intro hx
    obtain ⟨t, rfl, _⟩ := h.idx x hx
    exact (hs t).1 hx
  · intro hx
    obtain ⟨t, rfl, _⟩ := h'.idx x hx
    exact (hs t).2 hx
theorem celA_one {L : List Tm} {m n : Nat} (hm : m < (celA L).length) (hn : n < (celA L).length) (h : (celA L).getD m [] = (celA L).getD n []) : m = n := by
  have hs : LstSort.Strict (celA L) := LstSort.putF_strict _
  unfold LstSort.Strict at hs
  rw [List.pairwise_iff_getElem] at hs
  rw [List.getD_eq_getElem?_getD, List.getD_eq_getElem?_getD, List.getElem?_eq_getElem hm, List.getElem?_eq_getElem hn] at h
  have h : (celA L)[m] = (celA L)[n] := h
  rcases Nat.lt_trichotomy m n with g | g | g
  · have := hs m n hm hn g
    rw [h, LstSort.lt_irrefl] at this
    exact absurd this (by simp)
  · exact g
  · have := hs n m hn hm g
    rw [h, LstSort.lt_irrefl] at this
    exact absurd this (by simp)
/-- no pair is a side of more than two cells. -/
theorem sd_two {L : List Tm} (hd : Dist L) (a b : Int) : (sdA L (celA L) (celA L).length a b).length ≤ 2 := by
  rw [sdA_at (fun x hx => celA_g hx) hd a b _ (Nat.le_refl _), List.length_map]
  generalize hF : (List.range (celA L).length).filter (inX L (celA L) a b) = F
  have hin : ∀ n ∈ F, n < (celA L).length ∧ (a, b) ∈ prX L ((celA L).getD n []) := fun n hn => by
    rw [← hF, List.mem_filter, List.mem_range] at hn
    exact ⟨hn.1, of_decide_eq_true hn.2⟩
  have hnd : F.Nodup := by rw [← hF]; exact List.Pairwise.filter _ List.nodup_range
  have hg : ∀ n, n < (celA L).length → CelG L ((celA L).getD n []) := fun n hn => celA_g (by rw [List.getD_eq_getElem?_getD, List.getElem?_eq_getElem hn]; exact List.getElem_mem _)
  have dir : ∀ n ∈ F, ∃ i k : Nat, i < L.length ∧ k < L.length ∧ a = min (i : Int) k ∧ b = max (i : Int) k ∧ (Edg (ptS L ((celA L).getD n [])) (pI L i) (pI L k)) := fun n hn => by
    obtain ⟨h1, h2⟩ := hin n hn
    obtain ⟨i, k, b1, b2, he, e1, e2⟩ := (prX_mem (hg n h1) hd a b).1 h2
    exact ⟨i, k, b1, b2, e1, e2, he⟩
  have same : ∀ m ∈ F, ∀ n ∈ F, ∀ i k : Nat, i < L.length → k < L.length → Edg (ptS L ((celA L).getD m [])) (pI L i) (pI L k) → Edg (ptS L ((celA L).getD n [])) (pI L i) (pI L k) → m = n := fun m hm n hn i k hi hk h1 h2 =>
    celA_one (hin m hm).1 (hin n hn).1 (cell_same (hg m (hin m hm).1) (hg n (hin n hn).1) hi hk hd h1 h2)
  rcases Nat.lt_or_ge 2 F.length with h3 | h3
  · exfalso
    match F, h3, hnd, dir, same with
    | x :: y :: z :: F, _, hnd, dir, same =>
      obtain ⟨i1, k1, a1, a2, a3, a4, a5⟩ := dir x (by simp)
      obtain ⟨i2, k2, b1, b2, b3, b4, b5⟩ := dir y (by simp)
      obtain ⟨i3, k3, c1, c2, c3, c4, c5⟩ := dir z (by simp)
      simp only [List.nodup_cons, List.mem_cons, not_or] at hnd
      obtain ⟨⟨n1, n2, _⟩, ⟨n3, _⟩, _⟩ := hnd
      have q1 : (i1 = i2 ∧ k1 = k2) ∨ (i1 = k2 ∧ k1 = i2) := by omega
      have q2 : (i1 = i3 ∧ k1 = k3) ∨ (i1 = k3 ∧ k1 = i3) := by omega
      rcases q1 with ⟨rfl, rfl⟩ | ⟨rfl, rfl⟩
      · exact n1 (same x (by simp) y (by simp) _ _ a1 a2 a5 b5)
      · rcases q2 with ⟨rfl, rfl⟩ | ⟨rfl, rfl⟩
        · exact n2 (same x (by simp) z (by simp) _ _ a1 a2 a5 c5)
        · exact n3 (same y (by simp) z (by simp) _ _ b1 b2 b5 c5)
  · exact h3
end Go.Proofs.YtbcmnhppodfhpaaGreat

/-
  Moved plane polynomials have the same cells; the edges of the subdivision, both ways; plain. By an AI agent.
-/
namespace Go.Proofs.YtbcmnhppodfhpaaGreat
open Geo

/-! ### a moved polynomial has the same cells -/
def mvT (dx dy : Int) (t : Tm) : Tm := ⟨t.i, t.j, t.c + (t.i * dx + t.j * dy)⟩
def mvP (dx dy : Int) (L : List Tm) : List Tm := L.map (mvT dx dy)
theorem mvP_len (dx dy : Int) (L : List Tm) : (mvP dx dy L).length = L.length := List.length_map _
theorem mvP_at (dx dy : Int) (L : List Tm) {k : Nat} (h : k < L.length) : tmAt (mvP dx dy L) k = mvT dx dy (tmAt L k) := by
  unfold tmAt mvP
  rw [List.getD_eq_getElem?_getD, List.getElem?_map, List.getD_eq_getElem?_getD, List.getElem?_eq_getElem h]
  rfl
theorem abv_move (dx dy : Int) (o u v w : Tm) : abvI (mvT dx dy o) (mvT dx dy u) (mvT dx dy v) (mvT dx dy w) = abvI o u v w := by
  unfold abvI mvT turnZ pnt
  simp only
  grind
theorem hgt_move (dx dy : Int) (L : List Tm) {a b c t : Nat} (ha : a < L.length) (hb : b < L.length) (hc : c < L.length) (ht : t < L.length) : hgtL (mvP dx dy L) a b c t = hgtL L a b c t := by
  unfold hgtL
  rw [mvP_at dx dy L ha, mvP_at dx dy L hb, mvP_at dx dy L hc, mvP_at dx dy L ht]
  unfold hgtZ
  rw [abv_move]
  rfl
theorem trn_move (dx dy : Int) (L : List Tm) {a b c : Nat} (ha : a < L.length) (hb : b < L.length) (hc : c < L.length) : trnL (mvP dx dy L) a b c = trnL L a b c := by
  unfold trnL
  rw [mvP_at dx dy L ha, mvP_at dx dy L hb, mvP_at dx dy L hc]
  rfl
theorem onL3_move (dx dy : Int) (L : List Tm) {a b c : Nat} (ha : a < L.length) (hb : b < L.length) (hc : c < L.length) : ∀ k, k ≤ L.length → onL3 (mvP dx dy L) a b c k = onL3 L a b c k ∧ lowB (mvP dx dy L) a b c k = lowB L a b c k
  | 0, _ => ⟨rfl, rfl⟩
  | k + 1, h => by
    obtain ⟨h1, h2⟩ := onL3_move dx dy L ha hb hc k (by omega)
    unfold onL3 lowB
    rw [h1, h2, hgt_move dx dy L ha hb hc (by omega)]
    exact ⟨rfl, rfl⟩
theorem cel_move (dx dy : Int) (L : List Tm) {a b c : Nat} (ha : a < L.length) (hb : b < L.length) (hc : c < L.length) : celB (mvP dx dy L) a b c = celB L a b c ∧ celL (mvP dx dy L) a b c = celL L a b c := by
  obtain ⟨h1, h2⟩ := onL3_move dx dy L ha hb hc L.length (Nat.le_refl _)
  unfold celB celL
  rw [mvP_len, h1, h2, trn_move dx dy L ha hb hc]
  exact ⟨rfl, rfl⟩
theorem cel3_move (dx dy : Int) (L : List Tm) {a b : Nat} (ha : a < L.length) (hb : b < L.length) : ∀ k, k ≤ L.length → cel3 (mvP dx dy L) a b k = cel3 L a b k
  | 0, _ => rfl
  | k + 1, h => by
    obtain ⟨h1, h2⟩ := cel_move dx dy L ha hb (show k < L.length by omega)
    unfold cel3
    rw [cel3_move dx dy L ha hb k (by omega), h1, h2]
theorem cel2_move (dx dy : Int) (L : List Tm) {a : Nat} (ha : a < L.length) : ∀ k, k ≤ L.length → cel2 (mvP dx dy L) a k = cel2 L a k
  | 0, _ => rfl
  | k + 1, h => by
    unfold cel2
    rw [cel2_move dx dy L ha k (by omega), mvP_len, cel3_move dx dy L ha (show k < L.length by omega) _ (Nat.le_refl _)]
theorem cel1_move (dx dy : Int) (L : List Tm) : ∀ k, k ≤ L.length → cel1 (mvP dx dy L) k = cel1 L k
  | 0, _ => rfl
  | k + 1, h => by
    unfold cel1
    rw [cel1_move dx dy L k (by omega), mvP_len, cel2_move dx dy L (show k < L.length by omega) _ (Nat.le_refl _)]
theorem celA_move (dx dy : Int) (L : List Tm) : celA (mvP dx dy L) = celA L := by
  unfold celA
  rw [mvP_len, cel1_move dx dy L _ (Nat.le_refl _)]
theorem ptsL_move (dx dy : Int) (L : List Tm) : ∀ k, k ≤ L.length → ptsL (mvP dx dy L) k = ptsL L k
  | 0, _ => rfl
  | k + 1, h => by
    unfold ptsL
    rw [ptsL_move dx dy L k (by omega), mvP_at dx dy L (by omega)]
    rfl

/-! ### edges -/
theorem dist_of {L : List Tm} (h : ∀ i j, i < j → j < L.length → (tmAt L i).i < (tmAt L j).i ∨ ((tmAt L i).i = (tmAt L j).i ∧ (tmAt L i).j < (tmAt L j).j)) : Dist L := fun i j hi hj e => by
  have e1 : ((tmAt L i).i : Int) = (tmAt L j).i := congrArg Pt.x e
  have e2 : ((tmAt L i).j : Int) = (tmAt L j).j := congrArg Pt.y e
  rcases Nat.lt_trichotomy i j with g | g | g
  · have := h i j g hj
    omega
  · exact g
  · have := h j i g hi
    omega
/-- all sides of all cells, as they come. -/
def sdAll (L : List Tm) (C : List (List Int)) : List (List Int) := C.flatMap fun c => (prX L c).map prL
/-- the edges. -/
def edgA (L : List Tm) : List (List Int) := LstSort.putF (sdAll L (celA L))
theorem sdAll_mem {L : List Tm} {C : List (List Int)} {a b : Int} : prL (a, b) ∈ sdAll L C ↔ ∃ c ∈ C, (a, b) ∈ prX L c := by
  unfold sdAll
  rw [List.mem_flatMap]
  constructor
  · rintro ⟨c, hc, h⟩
    obtain ⟨⟨x, y⟩, he, e⟩ := List.mem_map.1 h
    unfold prL at e
    injection e with e1 e2
    injection e2 with e2 _
    subst e1; subst e2
    exact ⟨c, hc, he⟩
  · rintro ⟨c, hc, h⟩
    exact ⟨c, hc, List.mem_map.2 ⟨_, h, rfl⟩⟩
theorem prX_in {L : List Tm} {C : List Int} (h : CelG L C) (hd : Dist L) {a b : Int} (hm : (a, b) ∈ prX L C) : 0 ≤ a ∧ a < b ∧ b < L.length := by
  obtain ⟨i, k, h1, h2, he, rfl, rfl⟩ := (prX_mem h hd a b).1 hm
  have : i ≠ k := fun e => he.2.2.1 (by rw [e])
  omega
theorem sdA_ne {L : List Tm} (hd : Dist L) (a b : Int) : sdA L (celA L) (celA L).length a b ≠ [] ↔ ∃ c ∈ celA L, (a, b) ∈ prX L c := by
  rw [sdA_at (fun x hx => celA_g hx) hd a b _ (Nat.le_refl _)]
  constructor
  · intro h
    obtain ⟨x, hx⟩ := List.exists_mem_of_ne_nil _ h
    obtain ⟨n, hn, _⟩ := List.mem_map.1 hx
    rw [List.mem_filter, List.mem_range] at hn
    exact ⟨(celA L).getD n [], by rw [List.getD_eq_getElem?_getD, List.getElem?_eq_getElem hn.1]; exact List.getElem_mem _, of_decide_eq_true hn.2⟩
  · rintro ⟨c, hc, hm⟩ h
    obtain ⟨n, hn, rfl⟩ := List.getElem_of_mem hc
    have : (n : Int) ∈ ((List.range (celA L).length).filter (inX L (celA L) a b)).map fun n : Nat => (n : Int) := List.mem_map.2 ⟨n, List.mem_filter.2 ⟨List.mem_range.2 hn, by
      unfold inX
      rw [List.getD_eq_getElem?_getD, List.getElem?_eq_getElem hn]
      exact decide_eq_true hm⟩, rfl⟩
    rw [h] at this
    exact absurd this (by simp)
/-- the program's edges are those. -/
theorem edg_same {L : List Tm} (hd : Dist L) (hl : L.length ≤ 12) {E : List (List Int)} (h : EdgF (sdA L (celA L) (celA L).length) E) : E = edgA L := by
  unfold edgA
  refine LstSort.strict_ext h.strict (LstSort.putF_strict _) fun x => ?_
  rw [LstSort.putF_mem]
  constructor
  · intro hx
    obtain ⟨a, b, ha, hb, rfl⟩ := h.two x hx
    exact sdAll_mem.2 ((sdA_ne hd a b).1 ((h.mem a b ha hb).1 hx))
  · intro hx
    unfold sdAll at hx
    obtain ⟨c, hc, hx⟩ := List.mem_flatMap.1 hx
    obtain ⟨⟨a, b⟩, hm, rfl⟩ := List.mem_map.1 hx
    have hb := prX_in (celA_g hc) hd hm
    exact (h.mem a b (wf_nat (by omega) (by omega)) (wf_nat (by omega) (by omega))).2 ((sdA_ne hd a b).2 ⟨c, hc, hm⟩)
/-- the inner edges. -/
def innA (L : List Tm) : List (List Int) := (edgA L).filter fun e => decide ((sdA L (celA L) (celA L).length (e.getD 0 0) (e.getD 1 0)).length = 2)
end Go.Proofs.YtbcmnhppodfhpaaGreat

/-
  A cell of the double area 1 has three terms. Plain. By an AI agent.
-/
namespace Go.Proofs.YtbcmnhppodfhpaaGreat
open Geo

theorem pt_ext {p q : Pt} (h1 : p.x = q.x) (h2 : p.y = q.y) : p = q := by
  obtain ⟨a, b⟩ := p
  obtain ⟨c, d⟩ := q
  simp only at h1 h2
  rw [h1, h2]
/-- a point between two others is a mean of them. -/
theorem btw_wt {p q x : Pt} (hpq : p ≠ q) (h : crs p q p x = 0) (hb : Btw p x q) (hp : x ≠ p) (hq : x ≠ q) : ∃ a b : Int, 0 < a ∧ 0 < b ∧ a * (p.x - x.x) + b * (q.x - x.x) = 0 ∧ a * (p.y - x.y) + b * (q.y - x.y) = 0 := by
  unfold crs at h
  have ze : ∀ u v : Int, u * v = 0 → u ≠ 0 → v = 0 := fun u v e hu => (Int.mul_eq_zero.1 e).elim (fun g => absurd g hu) id
  by_cases g : p.x = q.x
  · have g2 : p.x = x.x := by
      have e : (q.y - p.y) * (x.x - p.x) = 0 := by rw [g] at h ⊢; grind
      have : q.y - p.y ≠ 0 := fun e2 => hpq (pt_ext g (by omega))
      have := ze _ _ e this
      omega
    have n1 : x.y ≠ p.y := fun e => hp (pt_ext (by omega) e)
    have n2 : x.y ≠ q.y := fun e => hq (pt_ext (by omega) e)
    unfold Btw at hb
    simp only [le_iff] at hb
    rcases Int.lt_or_gt_of_ne n1 with h1 | h1
    · exact ⟨x.y - q.y, p.y - x.y, by omega, by omega, by rw [← g, g2]; simp, by grind⟩
    · exact ⟨q.y - x.y, x.y - p.y, by omega, by omega, by rw [← g, g2]; simp, by grind⟩
  · have n1 : x.x ≠ p.x := fun e => hp (pt_ext e (by
      have e2 : (q.x - p.x) * (x.y - p.y) = 0 := by rw [e] at h; grind
      have := ze _ _ e2 (by omega)
      omega))
    have n2 : x.x ≠ q.x := fun e => hq (pt_ext e (by
      have e2 : (q.x - p.x) * (x.y - q.y) = 0 := by rw [e] at h; grind
      have := ze _ _ e2 (by omega)
      omega))
    unfold Btw at hb
    simp only [le_iff] at hb
    rcases Int.lt_or_gt_of_ne n1 with h1 | h1
    · exact ⟨x.x - q.x, p.x - x.x, by omega, by omega, by grind, by grind⟩
    · exact ⟨q.x - x.x, x.x - p.x, by omega, by omega, by grind, by grind⟩
theorem sum_zero {a b u v : Int} (ha : 0 < a) (hb : 0 < b) (hu : 0 ≤ u) (hv : 0 ≤ v) (h : a * u + b * v = 0) : u = 0 ∧ v = 0 := by
  have h1 := Int.mul_nonneg (Int.le_of_lt ha) hu
  have h2 := Int.mul_nonneg (Int.le_of_lt hb) hv
  have h3 : a * u = 0 := by omega
  have h4 : b * v = 0 := by omega
  constructor
  · rcases Int.mul_eq_zero.1 h3 with e | e <;> omega
  · rcases Int.mul_eq_zero.1 h4 with e | e <;> omega
/-- four points on a line. -/
theorem line_back {p q r s : Pt} (hrs : r ≠ s) (h1 : crs r s r p = 0) (h2 : crs r s r q = 0) : crs p q p r = 0 ∧ crs p q p s = 0 := by
  unfold crs at *
  have ze : ∀ u v : Int, u * v = 0 → u ≠ 0 → v = 0 := fun u v e hu => (Int.mul_eq_zero.1 e).elim (fun g => absurd g hu) id
  by_cases g : s.x - r.x = 0
  · have g2 : s.y - r.y ≠ 0 := fun e => hrs (pt_ext (by omega) (by omega))
    constructor
    · exact ze (s.y - r.y) _ (by grind) g2
    · exact ze (s.y - r.y) _ (by grind) g2
  · constructor
    · exact ze (s.x - r.x) _ (by grind) g
    · exact ze (s.x - r.x) _ (by grind) g
/-- a point inside of a side is on no other side. -/
theorem in_two {X : List Pt} (hn : ∀ p q : Pt, Edg X p q → Edg X q p → False) {p q p' q' x : Pt} (he : Edg X p q) (he' : Edg X p' q') (hx : x ∈ X) (h : crs p q p x = 0) (h' : crs p' q' p' x = 0) (hp : x ≠ p) (hq : x ≠ q) : p' = p ∧ q' = q := by
  have hpq := he.2.2.1
  have hb := (he.2.2.2 x hx).2 h
  have a1 := (he'.2.2.2 p he.1).1
  have a2 := (he'.2.2.2 q he.2.1).1
  have z : crs p' q' p' p = 0 ∧ crs p' q' p' q = 0 := by
    obtain ⟨a, b, ha, hb, g1, g2⟩ := btw_wt hpq h hb hp hq
    exact sum_zero ha hb a1 a2 (by unfold crs at *; grind)
  obtain ⟨c1, c2⟩ := line_back (p := p) (q := q) he'.2.2.1 z.1 z.2
  have b1 := (he'.2.2.2 p he.1).2 z.1
  have b2 := (he'.2.2.2 q he.2.1).2 z.2
  have b3 := (he.2.2.2 p' he'.1).2 c1
  have b4 := (he.2.2.2 q' he'.2.1).2 c2
  by_cases hd : (ltPt p q = true → leP p' q') ∧ (ltPt q p = true → leP q' p')
  · exact edg_btw_inj hpq b1 b2 b3 b4 hd
  · have hd2 : (ltPt q p = true → leP p' q') ∧ (ltPt p q = true → leP q' p') := by
      rcases tri p q with g | g | g
      · have g2 : ltPt q p = false := Bool.eq_false_iff.2 fun e => le_lt_false (lt_le g) e
        rcases le_tot p' q' with k | k
        · exact absurd ⟨fun _ => k, fun e => absurd e (by rw [g2]; simp)⟩ hd
        · exact ⟨fun e => absurd e (by rw [g2]; simp), fun _ => k⟩
      · exact absurd g hpq
      · have g2 : ltPt p q = false := Bool.eq_false_iff.2 fun e => le_lt_false (lt_le g) e
        rcases le_tot p' q' with k | k
        · exact ⟨fun _ => k, fun e => absurd e (by rw [g2]; simp)⟩
        · exact absurd ⟨fun e => absurd e (by rw [g2]; simp), fun _ => k⟩ hd
    obtain ⟨e1, e2⟩ := edg_btw_inj (fun e => hpq e.symm) b2 b1 (btw_symm b3) (btw_symm b4) hd2
    subst e1; subst e2
    exact absurd he' fun g => hn _ _ he g

/-! ### the area from a point -/
theorem dbl_from (H : List Pt) (o : Pt) : dblS H = ((sidesF H).map fun e => crs e.1 e.2 e.1 o).sum := by
  have h := loop (fun p => crz o p) H
  unfold dblS
  have e : ∀ e : Pt × Pt, crz e.1 e.2 = crs e.1 e.2 e.1 o + (crz o e.2 - crz o e.1) := fun e => by unfold crz crs; grind
  rw [sum_congr (g := fun e => crs e.1 e.2 e.1 o + (crz o e.2 - crz o e.1)) (fun x _ => e x), sum_add, h]
  omega
theorem sum_two {α : Type} {f : α → Int} : ∀ {l : List α}, (∀ x ∈ l, 0 ≤ f x) → ∀ (i j : Nat), i < j → j < l.length → ∀ (a b : α), l[i]? = some a → l[j]? = some b → f a + f b ≤ (l.map f).sum
  | [], _, i, j, hij, hj, _, _, _, _ => by simp at hj
  | x :: l, h, i, j, hij, hj, a, b, ha, hb => by
    have h1 : ∀ y ∈ l, 0 ≤ f y := fun y hy => h y (List.mem_cons_of_mem _ hy)
    have one : ∀ (l : List α), (∀ y ∈ l, 0 ≤ f y) → ∀ (j : Nat) (b : α), l[j]? = some b → f b ≤ (l.map f).sum := fun l => by
      induction l with
      | nil => intro _ j b hb; simp at hb
      | cons x l ih =>
        intro h j b hb
        have h0 := h x (by simp)
        have h1 : ∀ y ∈ l, 0 ≤ f y := fun y hy => h y (List.mem_cons_of_mem _ hy)
        have h2 := sum_nonneg h1
        rw [List.map_cons, List.sum_cons]
        cases j with
        | zero => rw [List.getElem?_cons_zero] at hb; injection hb with hb; subst hb; omega
        | succ j => rw [List.getElem?_cons_succ] at hb; have := ih h1 j b hb; omega
    rw [List.map_cons, List.sum_cons]
    cases j with
    | zero => omega
    | succ j =>
      rw [List.getElem?_cons_succ] at hb
      cases i with
      | zero =>
        rw [List.getElem?_cons_zero] at ha
        injection ha with ha
        subst ha
        have := one l h1 j b hb
        omega
      | succ i =>
        rw [List.getElem?_cons_succ] at ha
        have h0 := h x (by simp)
        have := sum_two h1 i j (by omega) (by simpa using hj) a b ha hb
        omega
theorem at_ne {H : List Pt} (hn : H.Nodup) {i j : Nat} (hi : i < H.length) (hj : j < H.length) (h : i ≠ j) : H.getD i default ≠ H.getD j default := fun e => by
  rw [List.getD_eq_getElem?_getD, List.getD_eq_getElem?_getD, List.getElem?_eq_getElem hi, List.getElem?_eq_getElem hj] at e
  exact h ((List.getElem_inj hn).1 e)

/-- a polygon of the area 1 has three points. -/
theorem one_three {X : List Pt} (hs : Strict X) (h2 : 2 ≤ X.length) (hn : ∀ p q : Pt, Edg X p q → Edg X q p → False) (ha : dblS (hullF X) = 1) : X.length ≤ 3 := by
  have hS := hull_sides hs h2
  have hnd := hull_nodup hs
  have hsub : ∀ p ∈ hullF X, p ∈ X := fun p hp => hull_sub hs hp
  have side : ∀ i, i < (hullF X).length → Edg X ((hullF X).getD i default) (nextP (hullF X) i) ∧ (sidesF (hullF X))[i]? = some ((hullF X).getD i default, nextP (hullF X) i) := fun i hi => by
    have h3 : i < (sidesF (hullF X)).length := by rw [sides_len]; exact hi
    have e := sides_get _ i hi
    refine ⟨(hS.2 _ _).1 ?_, by rw [List.getElem?_eq_getElem h3, e]⟩
    rw [← e]
    exact List.getElem_mem h3
  have all : ∀ p q, Edg X p q → (p, q) ∈ sidesF (hullF X) := fun p q h => (hS.2 p q).2 h
  have sum : ∀ o, ((sidesF (hullF X)).map fun e => crs e.1 e.2 e.1 o).sum = 1 := fun o => by rw [← dbl_from, ha]
  have nn : ∀ o ∈ X, ∀ e ∈ sidesF (hullF X), 0 ≤ crs e.1 e.2 e.1 o := fun o ho e he => (((hS.2 e.1 e.2).1 he).2.2.2 o ho).1
  have hone : 0 < (hullF X).length := by
    rcases Nat.eq_zero_or_pos (hullF X).length with e | e
    · have h0 := sum default
      rw [List.eq_nil_of_length_eq_zero e] at h0
      simp [sidesF, prs] at h0
    · exact e
  have cor : ∀ i, i < (hullF X).length → (hullF X).getD i default ∈ X := fun i hi => (side i hi).1.1
  generalize hullF X = H at *
  -- which points are on a side
  have off : ∀ o ∈ X, ∀ i, i < H.length → ∀ p q, Edg X p q → crs p q p o = 0 → (p, q) ≠ (H.getD i default, nextP H i) → o ≠ H.getD i default → o ≠ nextP H i → 0 < crs (H.getD i default) (nextP H i) (H.getD i default) o := fun o ho i hi p q he hc hne h1 h2 => by
    have e := (side i hi).1
    have h0 := (e.2.2.2 o ho).1
    have : crs (H.getD i default) (nextP H i) (H.getD i default) o ≠ 0 := fun z => by
      obtain ⟨e1, e2⟩ := in_two hn e he ho z hc h1 h2
      exact hne (by rw [e1, e2])
    omega
  have h3 : H.length ≤ 3 := by
    rcases Nat.lt_or_ge 3 H.length with g | g
    · exfalso
      have n : ∀ i, i + 1 < H.length → nextP H i = H.getD (i + 1) default := fun i hi => by unfold nextP; rw [Nat.mod_eq_of_lt hi]
      have ne := fun i j (hi : i < H.length) (hj : j < H.length) (h : i ≠ j) => at_ne hnd hi hj h
      have e0 := side 0 (by omega)
      have e1 := side 1 (by omega)
      have e2 := side 2 (by omega)
      have z : crs (H.getD 0 default) (nextP H 0) (H.getD 0 default) (H.getD 0 default) = 0 := by unfold crs; grind
      have p1 := off _ (cor 0 (by omega)) 1 (by omega) _ _ e0.1 z (fun e => by injection e with e _; exact ne 0 1 (by omega) (by omega) (by omega) e) (ne 0 1 (by omega) (by omega) (by omega)) (by rw [n 1 (by omega)]; exact ne 0 2 (by omega) (by omega) (by omega))
      have p2 := off _ (cor 0 (by omega)) 2 (by omega) _ _ e0.1 z (fun e => by injection e with e _; exact ne 0 2 (by omega) (by omega) (by omega) e) (ne 0 2 (by omega) (by omega) (by omega)) (by rw [n 2 (by omega)]; exact ne 0 3 (by omega) (by omega) (by omega))
      have := sum_two (f := fun e : Pt × Pt => crs e.1 e.2 e.1 (H.getD 0 default)) (nn _ (cor 0 (by omega))) 1 2 (by omega) (by rw [sides_len]; omega) _ _ e1.2 e2.2
      rw [sum] at this
      simp only at this
      omega
    · exact g
  have hsubX : ∀ x ∈ X, x ∈ H := fun x hx => by
    rcases Classical.em (x ∈ H) with g | g
    · exact g
    · exfalso
      have m : ∀ i, i < H.length → x ≠ H.getD i default := fun i hi e => g (by rw [e]; exact getD_memG hi)
      have mn : ∀ i, i < H.length → x ≠ nextP H i := fun i hi => m _ (Nat.mod_lt _ (by omega))
      have hlen : ∀ i, i < H.length → H.length ≠ 2 := fun i hi e => by
        have e0 := (side 0 (by omega)).1
        have e1 := (side 1 (by omega)).1
        have n0 : nextP H 0 = H.getD 1 default := by unfold nextP; rw [e]
        have n1 : nextP H 1 = H.getD 0 default := by unfold nextP; rw [e]
        rw [n0] at e0
        rw [n1] at e1
        exact hn _ _ e0 e1
      have hl1 : H.length ≠ 1 := fun e => by
        have e0 := (side 0 (by omega)).1.2.2.1
        unfold nextP at e0
        rw [e] at e0
        exact e0 rfl
      have hl3 : H.length = 3 := by have := hlen 0 hone; omega
      -- at most one side is off; take two sides that hold x
      have ex : ∀ i, i < 3 → ∀ j, j < 3 → i < j → ¬ (0 < crs (H.getD i default) (nextP H i) (H.getD i default) x ∧ 0 < crs (H.getD j default) (nextP H j) (H.getD j default) x) := fun i hi j hj hij ⟨k1, k2⟩ => by
        have := sum_two (f := fun e : Pt × Pt => crs e.1 e.2 e.1 x) (nn _ hx) i j hij (by rw [sides_len]; omega) _ _ (side i (by omega)).2 (side j (by omega)).2
        rw [sum] at this
        simp only at this
        omega
      have nng : ∀ i, i < 3 → 0 ≤ crs (H.getD i default) (nextP H i) (H.getD i default) x := fun i hi => ((side i (by omega)).1.2.2.2 x hx).1
      have two : ∀ i, i < 3 → ∀ j, j < 3 → i ≠ j → crs (H.getD i default) (nextP H i) (H.getD i default) x = 0 → 0 < crs (H.getD j default) (nextP H j) (H.getD j default) x := fun i hi j hj hij z =>
        off x hx j (by omega) _ _ (side i (by omega)).1 z (fun e => by injection e with e _; exact at_ne hnd (by omega) (by omega) hij e) (m j (by omega)) (mn j (by omega))
      by_cases z0 : crs (H.getD 0 default) (nextP H 0) (H.getD 0 default) x = 0
      · exact ex 1 (by omega) 2 (by omega) (by omega) ⟨two 0 (by omega) 1 (by omega) (by omega) z0, two 0 (by omega) 2 (by omega) (by omega) z0⟩
      · have k0 := nng 0 (by omega)
        by_cases z1 : crs (H.getD 1 default) (nextP H 1) (H.getD 1 default) x = 0
        · exact ex 0 (by omega) 2 (by omega) (by omega) ⟨by omega, two 1 (by omega) 2 (by omega) (by omega) z1⟩
        · have k1 := nng 1 (by omega)
          exact ex 0 (by omega) 1 (by omega) (by omega) ⟨by omega, by omega⟩
  have hXn : X.Nodup := by
    refine List.Pairwise.imp ?_ hs
    intro a b h e
    subst e
    rw [lt_irrefl] at h
    exact absurd h (by simp)
  have := nodup_le hXn hsubX
  omega

/-! ### cells -/
theorem nodup_leI : ∀ {m l : List Int}, m.Nodup → (∀ x ∈ m, x ∈ l) → m.length ≤ l.length
  | [], _, _, _ => Nat.zero_le _
  | a :: m, l, h, hs => by
    rw [List.nodup_cons] at h
    have ha := hs a (by simp)
    have := nodup_leI (m := m) (l := l.erase a) h.2 fun x hx => (List.mem_erase_of_ne (fun e => h.1 (by rw [← e]; exact hx))).2 (hs x (List.mem_cons_of_mem _ hx))
    rw [List.length_erase_of_mem ha] at this
    have := List.length_pos_of_mem ha
    rw [List.length_cons]
    omega
theorem inc_nodup {l : List Int} (h : l.Pairwise (· < ·)) : l.Nodup := List.Pairwise.imp (fun {a b} h e => by subst e; omega) h
theorem cell_three {L : List Tm} {C : List Int} (h : CelG L C) (hd : Dist L) (ha : areaP (hulX L C) = 1) : C.length = 3 := by
  have h3 : (ptS L C).length ≤ 3 := one_three (pySortF_strict _) (ptS_two h) (fun p q e1 e2 => edg_one h e1 e2) (by rw [← areaP_sides]; exact ha)
  have hnd : ((C.map fun x => pI L x.toNat)).Nodup := nodup_mapS (inc_nodup h.inc) fun x hx y hy e => by
    obtain ⟨t, rfl, ht⟩ := h.idx x hx
    obtain ⟨s, rfl, hs⟩ := h.idx y hy
    have := hd t s ht hs e
    omega
  have hle := nodup_le (l := ptS L C) hnd fun p hp => by
    obtain ⟨x, hx, rfl⟩ := List.mem_map.1 hp
    obtain ⟨t, rfl, ht⟩ := h.idx x hx
    exact (ptS_mem h _).2 ⟨t, hx, rfl⟩
  rw [List.length_map] at hle
  have hge : 3 ≤ C.length := by
    obtain ⟨a, b, c, m1, m2, m3, ht⟩ := h.tri
    have n1 : a ≠ b := fun e => ht (by rw [e]; exact (turn_at _ _).2.1)
    have n2 : a ≠ c := fun e => ht (by rw [e]; unfold turnZ; grind)
    have n3 : b ≠ c := fun e => ht (by rw [e]; unfold turnZ; grind)
    have q : [(a : Int), b, c].Nodup := by
      rw [List.nodup_cons, List.nodup_cons]
      simp only [List.mem_cons, List.not_mem_nil, or_false, not_or]
      exact ⟨⟨by omega, by omega⟩, by omega, by simp⟩
    have := nodup_leI q (l := C) fun x hx => by
      simp only [List.mem_cons, List.not_mem_nil, or_false] at hx
      rcases hx with rfl | rfl | rfl <;> assumption
    simpa using this
  omega
end Go.Proofs.YtbcmnhppodfhpaaGreat
