/-
  Some texts of this proof in one: CsB CsC CsP. Each part tells what it proves. By an AI agent.
-/
import Derived.Test.YtcionneopgdebaaGreatCeP
import Derived.Test.YtcionneopgdebaaGreatGeD
import Derived.Test.YtcionneopgdebaaGreatCpQ

/-
  Sides of cells: which pairs of terms they are, and that no pair is a side of more than two cells. Plain. By an AI agent.
-/
namespace Go.Proofs.YtcionneopgdebaaGreat
open Geo

/-! ### cells -/
theorem cel3_cel {L : List Tm} {a b : Nat} : ∀ {k : Nat} {x : List Int}, x ∈ cel3 L a b k → ∃ c, c < k ∧ celB L a b c = true ∧ x = celL L a b c
  | 0, x, h => by simp [cel3] at h
  | k + 1, x, h => by
    unfold cel3 at h
    split at h
    · rename_i hc
      rcases List.mem_append.1 h with h | h
      · obtain ⟨c, h1, h2, h3⟩ := cel3_cel h
        exact ⟨c, by omega, h2, h3⟩
      · exact ⟨k, by omega, hc.2, List.mem_singleton.1 h⟩
    · obtain ⟨c, h1, h2, h3⟩ := cel3_cel h
      exact ⟨c, by omega, h2, h3⟩
theorem cel2_cel {L : List Tm} {a : Nat} : ∀ {k : Nat} {x : List Int}, x ∈ cel2 L a k → ∃ b c, b < k ∧ c < L.length ∧ celB L a b c = true ∧ x = celL L a b c
  | 0, x, h => by simp [cel2] at h
  | k + 1, x, h => by
    unfold cel2 at h
    split at h
    · rcases List.mem_append.1 h with h | h
      · obtain ⟨b, c, h1, h2, h3, h4⟩ := cel2_cel h
        exact ⟨b, c, by omega, h2, h3, h4⟩
      · obtain ⟨c, h1, h2, h3⟩ := cel3_cel h
        exact ⟨k, c, by omega, h1, h2, h3⟩
    · obtain ⟨b, c, h1, h2, h3, h4⟩ := cel2_cel h
      exact ⟨b, c, by omega, h2, h3, h4⟩
theorem cel1_cel {L : List Tm} : ∀ {k : Nat} {x : List Int}, x ∈ cel1 L k → ∃ a b c, a < k ∧ b < L.length ∧ c < L.length ∧ celB L a b c = true ∧ x = celL L a b c
  | 0, x, h => by simp [cel1] at h
  | k + 1, x, h => by
    unfold cel1 at h
    rcases List.mem_append.1 h with h | h
    · obtain ⟨a, b, c, h1, h2⟩ := cel1_cel h
      exact ⟨a, b, c, by omega, h2⟩
    · obtain ⟨b, c, h1, h2, h3, h4⟩ := cel2_cel h
      exact ⟨k, b, c, by omega, h1, h2, h3, h4⟩
theorem hgt_two (o u v : Tm) : hgtZ o u v u = 0 := by
  unfold hgtZ abvI
  rw [(turn_at (pnt o) (pnt u)).1, Int.mul_zero, Int.sub_zero, Int.sub_self]
  simp
theorem hgt_three (o u v : Tm) : hgtZ o u v v = 0 := by
  unfold hgtZ abvI
  rw [(turn_at (pnt o) (pnt v)).1, Int.mul_zero, Int.sub_zero, Int.sub_self]
  simp
abbrev pI (L : List Tm) (i : Nat) : Pt := pnt (tmAt L i)
/-- What a cell is. -/
structure CelG (L : List Tm) (C : List Int) : Prop where
  sup : ∃ T al be ga, Sup L C T al be ga
  idx : ∀ x ∈ C, ∃ t : Nat, x = t ∧ t < L.length
  tri : ∃ a b c : Nat, (a : Int) ∈ C ∧ (b : Int) ∈ C ∧ (c : Int) ∈ C ∧ turnZ (pI L a) (pI L b) (pI L c) ≠ 0
  inc : C.Pairwise (· < ·)
theorem onL3_inc {L : List Tm} {a b c : Nat} : ∀ k, (onL3 L a b c k).Pairwise (· < ·)
  | 0 => List.Pairwise.nil
  | k + 1 => by
    have ih := onL3_inc (L := L) (a := a) (b := b) (c := c) k
    unfold onL3
    split
    · rw [List.pairwise_append]
      refine ⟨ih, List.pairwise_singleton _ _, fun x hx y hy => ?_⟩
      obtain ⟨t, rfl, ht, _⟩ := onL3_mem.1 hx
      rw [List.mem_singleton.1 hy]
      omega
    · exact ih
theorem celA_g {L : List Tm} {C : List Int} (h : C ∈ celA L) : CelG L C := by
  have hin := (celA_in h).2.2
  unfold celA at h
  rw [LstSort.putF_mem] at h
  obtain ⟨a, b, c, ha, hb, hc, hB, rfl⟩ := cel1_cel h
  refine ⟨cel_sup hB, hin, ⟨a, b, c, ?_, ?_, ?_, ?_⟩, onL3_inc _⟩
  · exact onL3_mem.2 ⟨a, rfl, ha, hgt_self _ _ _⟩
  · exact onL3_mem.2 ⟨b, rfl, hb, hgt_two _ _ _⟩
  · exact onL3_mem.2 ⟨c, rfl, hc, hgt_three _ _ _⟩
  · unfold celB at hB
    rw [Bool.and_eq_true, decide_eq_true_eq] at hB
    exact hB.1

/-! ### its points -/
def ptS (L : List Tm) (C : List Int) : List Pt := pySortF (ptsX L C)
theorem ptS_mem {L : List Tm} {C : List Int} (h : CelG L C) (p : Pt) : p ∈ ptS L C ↔ ∃ t : Nat, (t : Int) ∈ C ∧ p = pI L t := by
  unfold ptS
  rw [pySortF_mem]
  unfold ptsX
  rw [List.mem_map]
  constructor
  · rintro ⟨x, hx, rfl⟩
    obtain ⟨t, rfl, _⟩ := h.idx x hx
    exact ⟨t, hx, rfl⟩
  · rintro ⟨t, ht, rfl⟩
    exact ⟨(t : Int), ht, rfl⟩
theorem line_turn {p q a b c : Pt} (hpq : p ≠ q) (ha : crs p q p a = 0) (hb : crs p q p b = 0) (hc : crs p q p c = 0) : turnZ a b c = 0 := by
  unfold crs at ha hb hc
  unfold turnZ
  have h1 : (q.x - p.x) * ((b.x - a.x) * (c.y - a.y) - (b.y - a.y) * (c.x - a.x)) = 0 := by grind
  have h2 : (q.y - p.y) * ((b.x - a.x) * (c.y - a.y) - (b.y - a.y) * (c.x - a.x)) = 0 := by grind
  rcases Int.mul_eq_zero.1 h1 with e | e
  · rcases Int.mul_eq_zero.1 h2 with e2 | e2
    · exfalso
      apply hpq
      obtain ⟨px, py⟩ := p
      obtain ⟨qx, qy⟩ := q
      simp only at e e2
      congr 1 <;> omega
    · exact e2
  · exact e
theorem edg_left {L : List Tm} {C : List Int} (h : CelG L C) {p q : Pt} (he : Edg (ptS L C) p q) : ∃ t : Nat, (t : Int) ∈ C ∧ 0 < crs p q p (pI L t) := by
  obtain ⟨a, b, c, ha, hb, hc, ht⟩ := h.tri
  have h0 : ∀ t : Nat, (t : Int) ∈ C → 0 ≤ crs p q p (pI L t) := fun t ht => (he.2.2.2 _ ((ptS_mem h _).2 ⟨t, ht, rfl⟩)).1
  rcases Classical.em (∃ t : Nat, (t : Int) ∈ C ∧ 0 < crs p q p (pI L t)) with g | g
  · exact g
  · exfalso
    have z : ∀ t : Nat, (t : Int) ∈ C → crs p q p (pI L t) = 0 := fun t ht => by
      have h1 := h0 t ht
      have h2 : ¬ 0 < crs p q p (pI L t) := fun h3 => g ⟨t, ht, h3⟩
      omega
    exact ht (line_turn he.2.2.1 (z a ha) (z b hb) (z c hc))
theorem crs_back (p q x : Pt) : crs q p q x = -crs p q p x := by unfold crs; grind
theorem ptS_two {L : List Tm} {C : List Int} (h : CelG L C) : 2 ≤ (ptS L C).length := by
  obtain ⟨a, b, c, ha, hb, hc, ht⟩ := h.tri
  have m1 := (ptS_mem h _).2 ⟨a, ha, rfl⟩
  have m2 := (ptS_mem h _).2 ⟨b, hb, rfl⟩
  have hne : pI L a ≠ pI L b := fun e => ht (by rw [e]; exact (turn_at _ _).2.1)
  obtain ⟨i, hi, e1⟩ := List.getElem_of_mem m1
  obtain ⟨j, hj, e2⟩ := List.getElem_of_mem m2
  have : i ≠ j := fun e => hne (by rw [← e1, ← e2]; simp only [e])
  omega
theorem cell_sides {L : List Tm} {C : List Int} (h : CelG L C) : (sidesF (hulX L C)).Nodup ∧ ∀ a b, (a, b) ∈ sidesF (hulX L C) ↔ Edg (ptS L C) a b := hull_sides (pySortF_strict _) (ptS_two h)

/-! ### pairs of terms -/
/-- different terms have different points. -/
def Dist (L : List Tm) : Prop := ∀ i j, i < L.length → j < L.length → pI L i = pI L j → i = j
theorem edg_ix {L : List Tm} {C : List Int} (h : CelG L C) {p q : Pt} (he : Edg (ptS L C) p q) : ∃ i k : Nat, (i : Int) ∈ C ∧ (k : Int) ∈ C ∧ i < L.length ∧ k < L.length ∧ p = pI L i ∧ q = pI L k := by
  obtain ⟨i, h1, h2⟩ := (ptS_mem h _).1 he.1
  obtain ⟨k, h3, h4⟩ := (ptS_mem h _).1 he.2.1
  obtain ⟨t, e1, t1⟩ := h.idx _ h1
  obtain ⟨s, e2, s1⟩ := h.idx _ h3
  exact ⟨i, k, h1, h3, by omega, by omega, h2, h4⟩
theorem nodup_mapS {α β : Type} {f : α → β} : ∀ {l : List α}, l.Nodup → (∀ x ∈ l, ∀ y ∈ l, f x = f y → x = y) → (l.map f).Nodup
  | [], _, _ => by simp
  | a :: l, h, hf => by
    rw [List.nodup_cons] at h
    rw [List.map_cons, List.nodup_cons]
    refine ⟨fun hm => ?_, nodup_mapS h.2 fun x hx y hy => hf x (List.mem_cons_of_mem _ hx) y (List.mem_cons_of_mem _ hy)⟩
    obtain ⟨b, hb, e⟩ := List.mem_map.1 hm
    have := hf b (List.mem_cons_of_mem _ hb) a (by simp) e
    subst this
    exact h.1 hb
/-! ### the numbers at an edge -/
theorem inc_ext : ∀ {l m : List Int}, l.Pairwise (· < ·) → m.Pairwise (· < ·) → (∀ x, x ∈ l ↔ x ∈ m) → l = m
  | [], [], _, _, _ => rfl
  | [], b :: m, _, _, h => absurd ((h b).2 (by simp)) (by simp)
  | a :: l, [], _, _, h => absurd ((h a).1 (by simp)) (by simp)
  | a :: l, b :: m, h1, h2, h => by
    rw [List.pairwise_cons] at h1 h2
    have e : a = b := by
      rcases List.mem_cons.1 ((h a).1 (by simp)) with e | e
      · exact e
      · rcases List.mem_cons.1 ((h b).2 (by simp)) with e2 | e2
        · exact e2.symm
        · have := h1.1 b e2
          have := h2.1 a e
          omega
    subst e
    congr 1
    refine inc_ext h1.2 h2.2 fun x => ?_
    have hx := h x
    simp only [List.mem_cons] at hx
    constructor
    · intro g
      rcases hx.1 (Or.inr g) with e | e
      · have := h1.1 x g; omega
      · exact e
    · intro g
      rcases hx.2 (Or.inr g) with e | e
      · have := h2.1 x g; omega
      · exact e
/-- two cells with a common directed side are one. -/
theorem cell_same {L : List Tm} {C C' : List Int} (h : CelG L C) (h' : CelG L C') {i k : Nat} (hi : i < L.length) (hk : k < L.length) (hd : Dist L) (he : Edg (ptS L C) (pI L i) (pI L k)) (he' : Edg (ptS L C') (pI L i) (pI L k)) : C = C' := by
  obtain ⟨T, al, be, ga, s⟩ := h.sup
  obtain ⟨T', al', be', ga', s'⟩ := h'.sup
  obtain ⟨c, hc, ht⟩ := edg_left h he
  obtain ⟨c', hc', ht'⟩ := edg_left h' he'
  have mem : ∀ {D : List Int} (g : CelG L D) {t : Nat}, t < L.length → pI L t ∈ ptS L D → (t : Int) ∈ D := fun g t ht hm => by
    obtain ⟨u, hu, e⟩ := (ptS_mem g _).1 hm
    obtain ⟨u2, e2, hu2⟩ := g.idx _ hu
    have := hd t u ht (by omega) e
    rw [this]
    exact hu
  have hs := sup_same s s' (mem h hi he.1) (mem h hk he.2.1) (mem h' hi he'.1) (mem h' hk he'.2.1) hc hc' ht ht'
  refine inc_ext h.inc h'.inc fun x => ?_
  constructor
  · intro hx
    obtain ⟨t, rfl, _⟩ := h.idx x hx
    exact (hs t).1 hx
  · intro hx
    obtain ⟨t, rfl, _⟩ := h'.idx x hx
    exact (hs t).2 hx
end Go.Proofs.YtcionneopgdebaaGreat

/-
  Moved plane polynomials have the same cells; the edges of the subdivision, both ways; plain. By an AI agent.
-/
namespace Go.Proofs.YtcionneopgdebaaGreat
open Geo

/-! ### a moved polynomial has the same cells -/
/-! ### edges -/
theorem dist_of {L : List Tm} (h : ∀ i j, i < j → j < L.length → (tmAt L i).i < (tmAt L j).i ∨ ((tmAt L i).i = (tmAt L j).i ∧ (tmAt L i).j < (tmAt L j).j)) : Dist L := fun i j hi hj e => by
  have e1 : ((tmAt L i).i : Int) = (tmAt L j).i := congrArg Pt.x e
  have e2 : ((tmAt L i).j : Int) = (tmAt L j).j := congrArg Pt.y e
  rcases Nat.lt_trichotomy i j with g | g | g
  · have := h i j g hj
    omega
  · exact g
  · have := h j i g hi
    omega
end Go.Proofs.YtcionneopgdebaaGreat

/-
  A cell of the double area 1 has three terms. Plain. By an AI agent.
-/
namespace Go.Proofs.YtcionneopgdebaaGreat
open Geo

theorem pt_ext {p q : Pt} (h1 : p.x = q.x) (h2 : p.y = q.y) : p = q := by
  obtain ⟨a, b⟩ := p
  obtain ⟨c, d⟩ := q
  simp only at h1 h2
  rw [h1, h2]
/-- a point between two others is a mean of them. -/
theorem btw_wt {p q x : Pt} (hpq : p ≠ q) (h : crs p q p x = 0) (hb : Btw p x q) (hp : x ≠ p) (hq : x ≠ q) : ∃ a b : Int, 0 < a ∧ 0 < b ∧ a * (p.x - x.x) + b * (q.x - x.x) = 0 ∧ a * (p.y - x.y) + b * (q.y - x.y) = 0 := by
  unfold crs at h
  have ze : ∀ u v : Int, u * v = 0 → u ≠ 0 → v = 0 := fun u v e hu => (Int.mul_eq_zero.1 e).elim (fun g => absurd g hu) id
  by_cases g : p.x = q.x
  · have g2 : p.x = x.x := by
      have e : (q.y - p.y) * (x.x - p.x) = 0 := by rw [g] at h ⊢; grind
      have : q.y - p.y ≠ 0 := fun e2 => hpq (pt_ext g (by omega))
      have := ze _ _ e this
      omega
    have n1 : x.y ≠ p.y := fun e => hp (pt_ext (by omega) e)
    have n2 : x.y ≠ q.y := fun e => hq (pt_ext (by omega) e)
    unfold Btw at hb
    simp only [le_iff] at hb
    rcases Int.lt_or_gt_of_ne n1 with h1 | h1
    · exact ⟨x.y - q.y, p.y - x.y, by omega, by omega, by rw [← g, g2]; simp, by grind⟩
    · exact ⟨q.y - x.y, x.y - p.y, by omega, by omega, by rw [← g, g2]; simp, by grind⟩
  · have n1 : x.x ≠ p.x := fun e => hp (pt_ext e (by
      have e2 : (q.x - p.x) * (x.y - p.y) = 0 := by rw [e] at h; grind
      have := ze _ _ e2 (by omega)
      omega))
    have n2 : x.x ≠ q.x := fun e => hq (pt_ext e (by
      have e2 : (q.x - p.x) * (x.y - q.y) = 0 := by rw [e] at h; grind
      have := ze _ _ e2 (by omega)
      omega))
    unfold Btw at hb
    simp only [le_iff] at hb
    rcases Int.lt_or_gt_of_ne n1 with h1 | h1
    · exact ⟨x.x - q.x, p.x - x.x, by omega, by omega, by grind, by grind⟩
    · exact ⟨q.x - x.x, x.x - p.x, by omega, by omega, by grind, by grind⟩
theorem sum_zero {a b u v : Int} (ha : 0 < a) (hb : 0 < b) (hu : 0 ≤ u) (hv : 0 ≤ v) (h : a * u + b * v = 0) : u = 0 ∧ v = 0 := by
  have h1 := Int.mul_nonneg (Int.le_of_lt ha) hu
  have h2 := Int.mul_nonneg (Int.le_of_lt hb) hv
  have h3 : a * u = 0 := by omega
  have h4 : b * v = 0 := by omega
  constructor
  · rcases Int.mul_eq_zero.1 h3 with e | e <;> omega
  · rcases Int.mul_eq_zero.1 h4 with e | e <;> omega
/-- four points on a line. -/
theorem line_back {p q r s : Pt} (hrs : r ≠ s) (h1 : crs r s r p = 0) (h2 : crs r s r q = 0) : crs p q p r = 0 ∧ crs p q p s = 0 := by
  unfold crs at *
  have ze : ∀ u v : Int, u * v = 0 → u ≠ 0 → v = 0 := fun u v e hu => (Int.mul_eq_zero.1 e).elim (fun g => absurd g hu) id
  by_cases g : s.x - r.x = 0
  · have g2 : s.y - r.y ≠ 0 := fun e => hrs (pt_ext (by omega) (by omega))
    constructor
    · exact ze (s.y - r.y) _ (by grind) g2
    · exact ze (s.y - r.y) _ (by grind) g2
  · constructor
    · exact ze (s.x - r.x) _ (by grind) g
    · exact ze (s.x - r.x) _ (by grind) g
/-- a point inside of a side is on no other side. -/
theorem in_two {X : List Pt} (hn : ∀ p q : Pt, Edg X p q → Edg X q p → False) {p q p' q' x : Pt} (he : Edg X p q) (he' : Edg X p' q') (hx : x ∈ X) (h : crs p q p x = 0) (h' : crs p' q' p' x = 0) (hp : x ≠ p) (hq : x ≠ q) : p' = p ∧ q' = q := by
  have hpq := he.2.2.1
  have hb := (he.2.2.2 x hx).2 h
  have a1 := (he'.2.2.2 p he.1).1
  have a2 := (he'.2.2.2 q he.2.1).1
  have z : crs p' q' p' p = 0 ∧ crs p' q' p' q = 0 := by
    obtain ⟨a, b, ha, hb, g1, g2⟩ := btw_wt hpq h hb hp hq
    exact sum_zero ha hb a1 a2 (by unfold crs at *; grind)
  obtain ⟨c1, c2⟩ := line_back (p := p) (q := q) he'.2.2.1 z.1 z.2
  have b1 := (he'.2.2.2 p he.1).2 z.1
  have b2 := (he'.2.2.2 q he.2.1).2 z.2
  have b3 := (he.2.2.2 p' he'.1).2 c1
  have b4 := (he.2.2.2 q' he'.2.1).2 c2
  by_cases hd : (ltPt p q = true → leP p' q') ∧ (ltPt q p = true → leP q' p')
  · exact edg_btw_inj hpq b1 b2 b3 b4 hd
  · have hd2 : (ltPt q p = true → leP p' q') ∧ (ltPt p q = true → leP q' p') := by
      rcases tri p q with g | g | g
      · have g2 : ltPt q p = false := Bool.eq_false_iff.2 fun e => le_lt_false (lt_le g) e
        rcases le_tot p' q' with k | k
        · exact absurd ⟨fun _ => k, fun e => absurd e (by rw [g2]; simp)⟩ hd
        · exact ⟨fun e => absurd e (by rw [g2]; simp), fun _ => k⟩
      · exact absurd g hpq
      · have g2 : ltPt p q = false := Bool.eq_false_iff.2 fun e => le_lt_false (lt_le g) e
        rcases le_tot p' q' with k | k
        · exact ⟨fun _ => k, fun e => absurd e (by rw [g2]; simp)⟩
        · exact absurd ⟨fun e => absurd e (by rw [g2]; simp), fun _ => k⟩ hd
    obtain ⟨e1, e2⟩ := edg_btw_inj (fun e => hpq e.symm) b2 b1 (btw_symm b3) (btw_symm b4) hd2
    subst e1; subst e2
    exact absurd he' fun g => hn _ _ he g

/-! ### the area from a point -/
theorem dbl_from (H : List Pt) (o : Pt) : dblS H = ((sidesF H).map fun e => crs e.1 e.2 e.1 o).sum := by
  have h := loop (fun p => crz o p) H
  unfold dblS
  have e : ∀ e : Pt × Pt, crz e.1 e.2 = crs e.1 e.2 e.1 o + (crz o e.2 - crz o e.1) := fun e => by unfold crz crs; grind
  rw [sum_congr (g := fun e => crs e.1 e.2 e.1 o + (crz o e.2 - crz o e.1)) (fun x _ => e x), sum_add, h]
  omega
theorem sum_none {α : Type} {f : α → Int} : ∀ {l : List α}, (∀ x ∈ l, f x = 0) → (l.map f).sum = 0
  | [], _ => rfl
  | x :: l, h => by rw [List.map_cons, List.sum_cons, h x (by simp), sum_none fun y hy => h y (List.mem_cons_of_mem _ hy)]; rfl
/-! ### cells -/
end Go.Proofs.YtcionneopgdebaaGreat
