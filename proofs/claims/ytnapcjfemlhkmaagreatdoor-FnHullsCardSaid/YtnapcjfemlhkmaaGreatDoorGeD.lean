/-
  Some texts of this proof in one: GeD GeE. Each part tells what it proves. By an AI agent.
-/
import Derived.Test.YtnapcjfemlhkmaaGreatDoorSortB
import Derived.Test.YtnapcjfemlhkmaaGreatDoorHalf

/-
  Plain: the sides of a closed list of points by their index; areas and boundaries as sums over sides. By an AI agent.
-/
namespace Go.Proofs.YtnapcjfemlhkmaaGreatDoor

theorem prs_snd : ∀ (a : Pt) (l : List Pt), (Geo.prs (a :: l)).map Prod.snd = l
  | a, [] => rfl
  | a, b :: l => by
    have := prs_snd b l
    simp only [Geo.prs, List.map_cons, this]
theorem sides_snd (a : Pt) (l : List Pt) : (Geo.sidesF (a :: l)).map Prod.snd = l ++ [a] := prs_snd a (l ++ [a])
theorem sides_len (l : List Pt) : (Geo.sidesF l).length = l.length := by
  have := congrArg List.length (Geo.sides_fst l)
  rwa [List.length_map] at this
theorem sides_get (l : List Pt) (i : Nat) (h : i < l.length) : (Geo.sidesF l)[i]'(by rw [sides_len]; exact h) = (l.getD i default, nextP l i) := by
  have h1 : ((Geo.sidesF l).map Prod.fst)[i]'(by rw [Geo.sides_fst]; exact h) = l[i] := by simp only [Geo.sides_fst]
  rw [List.getElem_map] at h1
  match l, h with
  | a :: t, h =>
    have h2 : ((Geo.sidesF (a :: t)).map Prod.snd)[i]'(by rw [sides_snd]; simpa using h) = (t ++ [a])[i]'(by simpa using h) := by simp only [sides_snd]
    rw [List.getElem_map] at h2
    refine Prod.ext ?_ ?_
    · rw [h1, List.getD_eq_getElem?_getD, List.getElem?_eq_getElem h, Option.getD_some]
    · rw [h2]
      show _ = nextP (a :: t) i
      unfold nextP
      rw [List.getElem_append]
      have hl : (a :: t).length = t.length + 1 := rfl
      split
      · rename_i hi
        rw [hl, Nat.mod_eq_of_lt (by omega), List.getD_cons_succ, List.getD_eq_getElem?_getD, List.getElem?_eq_getElem hi, Option.getD_some]
      · rename_i hi
        have : i = t.length := by simp at h; omega
        subst this
        rw [hl, Nat.mod_self]
        simp
theorem sides_tab {α : Type} (F : Pt → Pt → α) (l : List Pt) : tab l.length (fun i => F (l.getD i default) (nextP l i)) = (Geo.sidesF l).map fun e => F e.1 e.2 := by
  refine List.ext_getElem (by simp [tab, sides_len]) fun i h1 h2 => ?_
  have hi : i < l.length := by simpa [tab] using h1
  rw [List.getElem_map, sides_get l i hi]
  simp [tab]
theorem areaTo_tab (l : List Pt) : ∀ n, areaTo l n = (tab n fun i => crossZ (l.getD i default) (nextP l i)).sum
  | 0 => by simp [areaTo, tab]
  | n + 1 => by rw [areaTo, areaTo_tab l n]; simp [tab, List.range_succ]
theorem areaP_sides (l : List Pt) : areaP l = Geo.dblS l := by
  unfold areaP Geo.dblS
  rw [areaTo_tab, sides_tab (fun p q => crossZ p q)]
  rfl
theorem gsum_sides (l : List Pt) : gsum (edgesP l) = ((Geo.sidesF l).map fun e => gP (subP e.2 e.1)).sum := by
  unfold gsum edgesP
  have := sides_tab (fun p q => subP q p) l
  have e : tab l.length (edgeP l) = (Geo.sidesF l).map fun e => subP e.2 e.1 := by rw [← this]; rfl
  rw [e, List.map_map]
  rfl
end Go.Proofs.YtnapcjfemlhkmaaGreatDoor

/-
  Plain: a hull has all its points; it has no point twice. By an AI agent.
-/
namespace Go.Proofs.YtnapcjfemlhkmaaGreatDoor
namespace Geo
open Go.Sort (SWO)

/-! ### What a hull says of its points -/
/-- p lies on the way from a to b. -/
def segB (a b p : Pt) : Bool := decide (turnZ a b p = 0) && (decide ((p.x - a.x) * (p.x - b.x) ≤ 0) && decide ((p.y - a.y) * (p.y - b.y) ≤ 0))
def hasB (l : List Pt) (p : Pt) : Bool :=
  if l.length = 1 then decide (l.getD 0 default = p) else if l.length = 2 then segB (l.getD 0 default) (l.getD 1 default) p
  else (List.range l.length).all fun i => decide (0 ≤ turnZ (l.getD i default) (nextP l i) p)
theorem dot_seg {ux uy vx vy : Int} (h : ux * vy - uy * vx = 0) (hd : ux * vx + uy * vy ≤ 0) : ux * vx ≤ 0 ∧ uy * vy ≤ 0 := by
  have e : (ux * vx) * (uy * vy) = (ux * vy) * (ux * vy) := by
    have : ux * vy = uy * vx := by omega
    calc (ux * vx) * (uy * vy) = (ux * vy) * (uy * vx) := by grind
      _ = _ := by rw [← this]
  have hs : 0 ≤ (ux * vy) * (ux * vy) := by
    rcases Int.le_total 0 (ux * vy) with h1 | h1
    · exact Int.mul_nonneg h1 h1
    · exact Int.mul_nonneg_of_nonpos_of_nonpos h1 h1
  rw [← e] at hs
  generalize ux * vx = A at *
  generalize uy * vy = B at *
  by_cases hA : A ≤ 0
  · refine ⟨hA, ?_⟩
    by_cases hB : B ≤ 0
    · exact hB
    · by_cases hA0 : A = 0
      · omega
      · have := Int.mul_neg_of_neg_of_pos (show A < 0 by omega) (show 0 < B by omega); omega
  · have hB : B < 0 := by omega
    have := Int.mul_neg_of_pos_of_neg (show 0 < A by omega) hB
    omega
/-- The program's way to ask whether p is on the way from a to b. -/
theorem seg_dot (a b p : Pt) : (decide ((p.x - a.x) * (p.y - b.y) - (p.y - a.y) * (p.x - b.x) = 0) && decide ((p.x - a.x) * (p.x - b.x) + (p.y - a.y) * (p.y - b.y) ≤ 0)) = segB a b p := by
  have e : (p.x - a.x) * (p.y - b.y) - (p.y - a.y) * (p.x - b.x) = turnZ a b p := by unfold turnZ; grind
  unfold segB
  rw [e]
  by_cases h : turnZ a b p = 0
  · rw [decide_eq_true h, Bool.true_and, Bool.true_and]
    have h' : (p.x - a.x) * (p.y - b.y) - (p.y - a.y) * (p.x - b.x) = 0 := by omega
    by_cases hd : (p.x - a.x) * (p.x - b.x) + (p.y - a.y) * (p.y - b.y) ≤ 0
    · obtain ⟨h1, h2⟩ := dot_seg h' hd
      rw [decide_eq_true hd, decide_eq_true h1, decide_eq_true h2]; rfl
    · rw [decide_eq_false hd]
      by_cases h1 : (p.x - a.x) * (p.x - b.x) ≤ 0
      · have h2 : ¬ (p.y - a.y) * (p.y - b.y) ≤ 0 := by omega
        rw [decide_eq_true h1, decide_eq_false h2]; rfl
      · rw [decide_eq_false h1]; rfl
  · rw [decide_eq_false h, Bool.false_and, Bool.false_and]
theorem mul_nonpos {a b : Int} (h : (0 ≤ a ∧ b ≤ 0) ∨ (a ≤ 0 ∧ 0 ≤ b)) : a * b ≤ 0 := by
  rcases h with ⟨h1, h2⟩ | ⟨h1, h2⟩
  · exact Int.mul_nonpos_of_nonneg_of_nonpos h1 h2
  · exact Int.mul_nonpos_of_nonpos_of_nonneg h1 h2
/-- Points between others on a line are between them in both coordinates. -/
theorem btw_y {a b x : Pt} (h : crs a b a x = 0) (hb : Btw a x b) : (x.x - a.x) * (x.x - b.x) ≤ 0 ∧ (x.y - a.y) * (x.y - b.y) ≤ 0 := by
  have hx : (x.x - a.x) * (x.x - b.x) ≤ 0 := by
    refine mul_nonpos ?_
    rcases hb with ⟨h1, h2⟩ | ⟨h1, h2⟩ <;> rw [le_iff] at h1 h2 <;> omega
  refine ⟨hx, ?_⟩
  by_cases hD : a.x = b.x
  · refine mul_nonpos ?_
    rcases hb with ⟨h1, h2⟩ | ⟨h1, h2⟩ <;> rw [le_iff] at h1 h2 <;> omega
  · -- D * (y - ya) = E * (x - xa), D * (y - yb) = E * (x - xb)
    have e1 : (b.x - a.x) * (x.y - a.y) = (b.y - a.y) * (x.x - a.x) := by unfold crs at h; omega
    have e2 : (b.x - a.x) * (x.y - b.y) = (b.y - a.y) * (x.x - b.x) := by unfold crs at h; grind
    have e3 : ((b.x - a.x) * (b.x - a.x)) * ((x.y - a.y) * (x.y - b.y)) = ((b.y - a.y) * (b.y - a.y)) * ((x.x - a.x) * (x.x - b.x)) := by
      calc _ = ((b.x - a.x) * (x.y - a.y)) * ((b.x - a.x) * (x.y - b.y)) := by grind
        _ = _ := by rw [e1, e2]; grind
    have sq : ∀ z : Int, 0 ≤ z * z := fun z => by
      rcases Int.le_total 0 z with h1 | h1
      · exact Int.mul_nonneg h1 h1
      · exact Int.mul_nonneg_of_nonpos_of_nonpos h1 h1
    have hp : 0 < (b.x - a.x) * (b.x - a.x) := by
      have h0 := sq (b.x - a.x)
      have : (b.x - a.x) * (b.x - a.x) ≠ 0 := Int.mul_ne_zero (by omega) (by omega)
      omega
    have h1 := mul_nonpos (Or.inl ⟨sq (b.y - a.y), hx⟩)
    rw [← e3] at h1
    by_cases hy : (x.y - a.y) * (x.y - b.y) ≤ 0
    · exact hy
    · have := Int.mul_pos hp (show 0 < (x.y - a.y) * (x.y - b.y) by omega)
      omega
theorem getD_memG {l : List Pt} {i : Nat} (h : i < l.length) : l.getD i default ∈ l := by
  rw [List.getD_eq_getElem?_getD, List.getElem?_eq_getElem h]; exact List.getElem_mem h
/-- THE HULL OF POINTS HAS THEM ALL. -/
theorem hull_has {l : List Pt} {p : Pt} (hp : p ∈ l) : hasB (hullF (pySortF l)) p = true := by
  have hs := pySortF_strict l
  have hp' := (pySortF_mem l p).2 hp
  by_cases h2 : 2 ≤ (pySortF l).length
  · have side : ∀ i, i < (hullF (pySortF l)).length → Edg (pySortF l) ((hullF (pySortF l)).getD i default) (nextP (hullF (pySortF l)) i) := fun i hi => by
      have h3 : i < (sidesF (hullF (pySortF l))).length := by rw [sides_len]; exact hi
      refine ((hull_sides hs h2).2 _ _).1 ?_
      rw [← sides_get _ i hi]
      exact List.getElem_mem h3
    generalize hullF (pySortF l) = H at side ⊢
    unfold hasB
    by_cases h1 : H.length = 1
    · have := (side 0 (by omega)).2.2.1
      unfold nextP at this
      rw [h1] at this
      exact absurd rfl this
    · rw [if_neg h1]
      split
      · rename_i h3
        have e := side 0 (by omega)
        have hn : nextP H 0 = H.getD 1 default := by unfold nextP; rw [h3]
        have e' := side 1 (by omega)
        have hn' : nextP H 1 = H.getD 0 default := by unfold nextP; rw [h3]
        rw [hn] at e
        rw [hn'] at e'
        have k1 := e.2.2.2 p hp'
        have k2 := e'.2.2.2 p hp'
        have k3 : crs (H.getD 1 default) (H.getD 0 default) (H.getD 1 default) p = - crs (H.getD 0 default) (H.getD 1 default) (H.getD 0 default) p := by unfold crs; grind
        have k4 : crs (H.getD 0 default) (H.getD 1 default) (H.getD 0 default) p = 0 := by omega
        obtain ⟨q1, q2⟩ := btw_y k4 (k1.2 k4)
        unfold segB
        rw [turn_crs, decide_eq_true k4, decide_eq_true q1, decide_eq_true q2]; rfl
      · rw [List.all_eq_true]
        intro i hi
        have hi' : i < H.length := List.mem_range.1 hi
        exact decide_eq_true ((side i hi').2.2.2 p hp').1
  · rw [hull_small h2]
    match h : pySortF l with
    | [] => rw [h] at hp'; simp at hp'
    | [q] => rw [h] at hp'; simp at hp'; subst hp'; simp [hasB]
    | a :: b :: t => rw [h] at h2; simp at h2
/-- A hull has no point twice, and no more points than there were. -/
theorem hull_nodup {l : List Pt} (hs : Strict l) : (hullF l).Nodup := by
  by_cases h2 : 2 ≤ l.length
  · obtain ⟨n1, h1⟩ := hull_sides hs h2
    rw [← sides_fst (hullF l)]
    unfold List.Nodup at n1 ⊢
    rw [List.pairwise_map]
    refine n1.imp_of_mem ?_
    rintro ⟨a, b⟩ ⟨c, d⟩ m1 m2 hne e
    simp only at e
    subst e
    have E1 := (h1 a b).1 m1
    have E2 := (h1 a d).1 m2
    have k1 := E1.2.2.2 d E2.2.1
    have k2 := E2.2.2.2 b E1.2.1
    have k3 := crs_flip a b a d
    have b1 := k1.2 (by omega)
    have b2 := k2.2 (by omega)
    have hab := E1.2.2.1
    have had := E2.2.2.1
    refine hne ?_
    have : b = d := by
      clear k1 k2 k3 E1 E2 m1 m2 hne n1 h1
      obtain ⟨a1, a2⟩ := a
      obtain ⟨b1', b2'⟩ := b
      obtain ⟨d1, d2⟩ := d
      unfold Btw at *
      simp only [le_iff, Pt.mk.injEq, ne_eq] at *
      omega
    rw [this]
  · rw [hull_small h2]
    exact hs.imp fun h => lt_ne h
theorem nodup_le {l : List Pt} : ∀ {m : List Pt}, m.Nodup → (∀ x, x ∈ m → x ∈ l) → m.length ≤ l.length := by
  induction l with
  | nil =>
    intro m _ h
    cases m with
    | nil => simp
    | cons a m => have := h a (by simp); simp at this
  | cons a l ih =>
    intro m hm h
    have h1 := ih (m := m.filter (fun x => decide (x ≠ a))) (hm.filter _) fun x hx => by
      obtain ⟨h2, h3⟩ := List.mem_filter.1 hx
      rcases List.mem_cons.1 (h x h2) with e | e
      · subst e; simp at h3
      · exact e
    have h2 : m.length ≤ (m.filter (fun x => decide (x ≠ a))).length + 1 := by
      clear h1 ih h
      induction m with
      | nil => simp
      | cons b m ih2 =>
        obtain ⟨hb, hm'⟩ := List.nodup_cons.1 hm
        by_cases e : b = a
        · subst e
          have : m.filter (fun x => decide (x ≠ b)) = m := List.filter_eq_self.2 fun x hx => by simp; intro e; subst e; exact hb hx
          rw [List.filter_cons_of_neg (by simp), this]
          simp
        · rw [List.filter_cons_of_pos (by simp [e])]
          have := ih2 hm'
          simp only [List.length_cons]
          omega
    simp only [List.length_cons]
    omega
theorem hull_len_le (l : List Pt) : (hullF (pySortF l)).length ≤ l.length :=
  nodup_le (hull_nodup (pySortF_strict l)) fun x hx => (pySortF_mem l x).1 (hull_sub (pySortF_strict l) hx)
end Geo
end Go.Proofs.YtnapcjfemlhkmaaGreatDoor
