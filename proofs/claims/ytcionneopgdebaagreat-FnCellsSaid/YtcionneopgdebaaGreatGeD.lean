/-
  Some texts of this proof in one: GeD GeE. Each part tells what it proves. By an AI agent.
-/
import Derived.Test.YtcionneopgdebaaGreatSortB
import Derived.Test.YtcionneopgdebaaGreatHalf

/-
  Plain: the sides of a closed list of points by their index; areas and boundaries as sums over sides. By an AI agent.
-/
namespace Go.Proofs.YtcionneopgdebaaGreat

theorem prs_snd : ∀ (a : Pt) (l : List Pt), (Geo.prs (a :: l)).map Prod.snd = l
  | a, [] => rfl
  | a, b :: l => by
    have := prs_snd b l
    simp only [Geo.prs, List.map_cons, this]
theorem sides_snd (a : Pt) (l : List Pt) : (Geo.sidesF (a :: l)).map Prod.snd = l ++ [a] := prs_snd a (l ++ [a])
theorem sides_len (l : List Pt) : (Geo.sidesF l).length = l.length := by
  have := congrArg List.length (Geo.sides_fst l)
  rwa [List.length_map] at this
theorem sides_get (l : List Pt) (i : Nat) (h : i < l.length) : (Geo.sidesF l)[i]'(by rw [sides_len]; exact h) = (l.getD i default, nextP l i) := by
  have h1 : ((Geo.sidesF l).map Prod.fst)[i]'(by rw [Geo.sides_fst]; exact h) = l[i] := by simp only [Geo.sides_fst]
  rw [List.getElem_map] at h1
  match l, h with
  | a :: t, h =>
    have h2 : ((Geo.sidesF (a :: t)).map Prod.snd)[i]'(by rw [sides_snd]; simpa using h) = (t ++ [a])[i]'(by simpa using h) := by simp only [sides_snd]
    rw [List.getElem_map] at h2
    refine Prod.ext ?_ ?_
    · rw [h1, List.getD_eq_getElem?_getD, List.getElem?_eq_getElem h, Option.getD_some]
    · rw [h2]
      show _ = nextP (a :: t) i
      unfold nextP
      rw [List.getElem_append]
      have hl : (a :: t).length = t.length + 1 := rfl
      split
      · rename_i hi
        rw [hl, Nat.mod_eq_of_lt (by omega), List.getD_cons_succ, List.getD_eq_getElem?_getD, List.getElem?_eq_getElem hi, Option.getD_some]
      · rename_i hi
        have : i = t.length := by simp at h; omega
        subst this
        rw [hl, Nat.mod_self]
        simp
theorem sides_tab {α : Type} (F : Pt → Pt → α) (l : List Pt) : tab l.length (fun i => F (l.getD i default) (nextP l i)) = (Geo.sidesF l).map fun e => F e.1 e.2 := by
  refine List.ext_getElem (by simp [tab, sides_len]) fun i h1 h2 => ?_
  have hi : i < l.length := by simpa [tab] using h1
  rw [List.getElem_map, sides_get l i hi]
  simp [tab]
theorem areaTo_tab (l : List Pt) : ∀ n, areaTo l n = (tab n fun i => crossZ (l.getD i default) (nextP l i)).sum
  | 0 => by simp [areaTo, tab]
  | n + 1 => by rw [areaTo, areaTo_tab l n]; simp [tab, List.range_succ]
theorem areaP_sides (l : List Pt) : areaP l = Geo.dblS l := by
  unfold areaP Geo.dblS
  rw [areaTo_tab, sides_tab (fun p q => crossZ p q)]
  rfl
end Go.Proofs.YtcionneopgdebaaGreat

/-
  Plain: a hull has all its points; it has no point twice. By an AI agent.
-/
namespace Go.Proofs.YtcionneopgdebaaGreat
namespace Geo
open Go.Sort (SWO)

/-! ### What a hull says of its points -/
/-- A hull has no point twice, and no more points than there were. -/
theorem hull_nodup {l : List Pt} (hs : Strict l) : (hullF l).Nodup := by
  by_cases h2 : 2 ≤ l.length
  · obtain ⟨n1, h1⟩ := hull_sides hs h2
    rw [← sides_fst (hullF l)]
    unfold List.Nodup at n1 ⊢
    rw [List.pairwise_map]
    refine n1.imp_of_mem ?_
    rintro ⟨a, b⟩ ⟨c, d⟩ m1 m2 hne e
    simp only at e
    subst e
    have E1 := (h1 a b).1 m1
    have E2 := (h1 a d).1 m2
    have k1 := E1.2.2.2 d E2.2.1
    have k2 := E2.2.2.2 b E1.2.1
    have k3 := crs_flip a b a d
    have b1 := k1.2 (by omega)
    have b2 := k2.2 (by omega)
    have hab := E1.2.2.1
    have had := E2.2.2.1
    refine hne ?_
    have : b = d := by
      clear k1 k2 k3 E1 E2 m1 m2 hne n1 h1
      obtain ⟨a1, a2⟩ := a
      obtain ⟨b1', b2'⟩ := b
      obtain ⟨d1, d2⟩ := d
      unfold Btw at *
      simp only [le_iff, Pt.mk.injEq, ne_eq] at *
      omega
    rw [this]
  · rw [hull_small h2]
    exact hs.imp fun h => lt_ne h
theorem nodup_le {l : List Pt} : ∀ {m : List Pt}, m.Nodup → (∀ x, x ∈ m → x ∈ l) → m.length ≤ l.length := by
  induction l with
  | nil =>
    intro m _ h
    cases m with
    | nil => simp
    | cons a m => have := h a (by simp); simp at this
  | cons a l ih =>
    intro m hm h
    have h1 := ih (m := m.filter (fun x => decide (x ≠ a))) (hm.filter _) fun x hx => by
      obtain ⟨h2, h3⟩ := List.mem_filter.1 hx
      rcases List.mem_cons.1 (h x h2) with e | e
      · subst e; simp at h3
      · exact e
    have h2 : m.length ≤ (m.filter (fun x => decide (x ≠ a))).length + 1 := by
      clear h1 ih h
      induction m with
      | nil => simp
      | cons b m ih2 =>
        obtain ⟨hb, hm'⟩ := List.nodup_cons.1 hm
        by_cases e : b = a
        · subst e
          have : m.filter (fun x => decide (x ≠ b)) = m := List.filter_eq_self.2 fun x hx => by simp; intro e; subst e; exact hb hx
          rw [List.filter_cons_of_neg (by simp), this]
          simp
        · rw [List.filter_cons_of_pos (by simp [e])]
          have := ih2 hm'
          simp only [List.length_cons]
          omega
    simp only [List.length_cons]
    omega
theorem hull_len_le (l : List Pt) : (hullF (pySortF l)).length ≤ l.length :=
  nodup_le (hull_nodup (pySortF_strict l)) fun x hx => (pySortF_mem l x).1 (hull_sub (pySortF_strict l) hx)
end Geo
end Go.Proofs.YtcionneopgdebaaGreat
