/-
  Plain: what the law of the areas says of sums, boundaries and widths. By an AI agent.
-/
import Derived.Test.YtapbdfkaaeoonaaArH
import Derived.Test.YtapbdfkaaeoonaaGeA
namespace Go.Proofs.Ytapbdfkaaeoonaa

theorem prs_snd : ∀ (a : Pt) (l : List Pt), (Geo.prs (a :: l)).map Prod.snd = l
  | a, [] => rfl
  | a, b :: l => by
    have := prs_snd b l
    simp only [Geo.prs, List.map_cons, this]
theorem sides_snd (a : Pt) (l : List Pt) : (Geo.sidesF (a :: l)).map Prod.snd = l ++ [a] := prs_snd a (l ++ [a])
theorem sides_len (l : List Pt) : (Geo.sidesF l).length = l.length := by
  have := congrArg List.length (Geo.sides_fst l)
  rwa [List.length_map] at this
theorem sides_get (l : List Pt) (i : Nat) (h : i < l.length) : (Geo.sidesF l)[i]'(by rw [sides_len]; exact h) = (l.getD i default, nextP l i) := by
  have h1 : ((Geo.sidesF l).map Prod.fst)[i]'(by rw [Geo.sides_fst]; exact h) = l[i] := by simp only [Geo.sides_fst]
  rw [List.getElem_map] at h1
  match l, h with
  | a :: t, h =>
    have h2 : ((Geo.sidesF (a :: t)).map Prod.snd)[i]'(by rw [sides_snd]; simpa using h) = (t ++ [a])[i]'(by simpa using h) := by simp only [sides_snd]
    rw [List.getElem_map] at h2
    refine Prod.ext ?_ ?_
    · rw [h1, List.getD_eq_getElem?_getD, List.getElem?_eq_getElem h, Option.getD_some]
    · rw [h2]
      show _ = nextP (a :: t) i
      unfold nextP
      rw [List.getElem_append]
      have hl : (a :: t).length = t.length + 1 := rfl
      split
      · rename_i hi
        rw [hl, Nat.mod_eq_of_lt (by omega), List.getD_cons_succ, List.getD_eq_getElem?_getD, List.getElem?_eq_getElem hi, Option.getD_some]
      · rename_i hi
        have : i = t.length := by simp at h; omega
        subst this
        rw [hl, Nat.mod_self]
        simp
theorem sides_tab {α : Type} (F : Pt → Pt → α) (l : List Pt) : tab l.length (fun i => F (l.getD i default) (nextP l i)) = (Geo.sidesF l).map fun e => F e.1 e.2 := by
  refine List.ext_getElem (by simp [tab, sides_len]) fun i h1 h2 => ?_
  have hi : i < l.length := by simpa [tab] using h1
  rw [List.getElem_map, sides_get l i hi]
  simp [tab]
theorem areaTo_tab (l : List Pt) : ∀ n, areaTo l n = (tab n fun i => crossZ (l.getD i default) (nextP l i)).sum
  | 0 => by simp [areaTo, tab]
  | n + 1 => by rw [areaTo, areaTo_tab l n]; simp [tab, List.range_succ]
theorem areaP_sides (l : List Pt) : areaP l = Geo.dblS l := by
  unfold areaP Geo.dblS
  rw [areaTo_tab, sides_tab (fun p q => crossZ p q)]
  rfl
theorem gsum_sides (l : List Pt) : gsum (edgesP l) = ((Geo.sidesF l).map fun e => gP (subP e.2 e.1)).sum := by
  unfold gsum edgesP
  have := sides_tab (fun p q => subP q p) l
  have e : tab l.length (edgeP l) = (Geo.sidesF l).map fun e => subP e.2 e.1 := by rw [← this]; rfl
  rw [e, List.map_map]
  rfl

/-! ### Parities -/
def zP (p : Pt) : Int := if p.x % 2 = 0 ∧ p.y % 2 = 0 then 1 else 0
theorem gP_par (p : Pt) : gP p % 2 = if p.x % 2 = 0 ∧ p.y % 2 = 0 then 0 else 1 := by
  have h : (2 : Nat) ∣ Nat.gcd p.x.natAbs p.y.natAbs ↔ p.x % 2 = 0 ∧ p.y % 2 = 0 := by
    rw [Nat.dvd_gcd_iff]
    omega
  have hg : gP p = (Nat.gcd p.x.natAbs p.y.natAbs : Int) := by unfold gP gcdN; rfl
  rw [hg]
  split
  · rename_i hh
    have := h.2 hh
    omega
  · rename_i hh
    have : ¬ (2 : Nat) ∣ Nat.gcd p.x.natAbs p.y.natAbs := fun h' => hh (h.1 h')
    omega
theorem side_par (p q : Pt) : ∃ m : Int, crossZ p q + gP (subP q p) = zP p + zP q + 2 * m := by
  have h1 := gP_par (subP q p)
  have h2 : (crossZ p q) % 2 = ((p.x % 2) * (q.y % 2) + (p.y % 2) * (q.x % 2)) % 2 := by
    unfold crossZ
    have e1 := Int.mul_emod p.x q.y 2
    have e2 := Int.mul_emod p.y q.x 2
    omega
  have ex : ∀ a b : Int, a % 2 = b % 2 → ∃ m, a = b + 2 * m := fun a b h => ⟨(a - b) / 2, by omega⟩
  refine ex _ _ ?_
  unfold zP
  unfold subP at h1 ⊢
  simp only at h1 ⊢
  rcases Int.emod_two_eq p.x with a | a <;> rcases Int.emod_two_eq p.y with b | b <;> rcases Int.emod_two_eq q.x with c | c <;> rcases Int.emod_two_eq q.y with d | d <;>
    simp only [a, b, c, d] at h2 ⊢ <;> (split at h1 <;> simp_all <;> omega)
theorem sum_par (E : List (Pt × Pt)) : ∃ m : Int, (E.map fun e => crossZ e.1 e.2).sum + (E.map fun e => gP (subP e.2 e.1)).sum = (E.map fun e => zP e.2 - zP e.1).sum + 2 * m := by
  induction E with
  | nil => exact ⟨0, by simp⟩
  | cons e E ih =>
    obtain ⟨m, hm⟩ := ih
    obtain ⟨k, hk⟩ := side_par e.1 e.2
    refine ⟨m + k + zP e.1, ?_⟩
    simp only [List.map_cons, List.sum_cons]
    omega
/-- The area and the points of the boundary are even together. -/
theorem area_bnd (l : List Pt) (h : 3 ≤ l.length) : areaP l = 2 * innP l + bndP l - 2 := by
  have hb : bndP l = gsum (edgesP l) := by unfold bndP; rw [if_neg (by omega), if_neg (by omega)]
  obtain ⟨m, hm⟩ := sum_par (Geo.sidesF l)
  rw [← gsum_sides, Geo.loop zP l] at hm
  have ha : areaP l = ((Geo.sidesF l).map fun e => crossZ e.1 e.2).sum := by rw [areaP_sides]; rfl
  rw [← ha, ← hb] at hm
  unfold innP
  rw [if_neg (by omega)]
  have e : areaP l - bndP l + 2 = 2 * (m - bndP l + 1) := by omega
  rw [e, Int.mul_tdiv_cancel_left _ (by omega)]
  omega

/-! ### Sums -/
theorem polyB_ne {l : List Pt} (h : polyB l = true) : l ≠ [] := by
  intro e
  have := ptsB_t (polyB_pts h)
  rw [e] at this
  simp at this
theorem polyB_hull {l : List Pt} (h : polyB l = true) : hullF (pySortF l) = l := of_decide_eq_true (Bool.and_eq_true_iff.1 h).2
theorem mix_law {a b : List Pt} (h : smB a b = true) : areaP (sumH a b) = areaP a + areaP b + 2 * mixZ a b ∧ 0 ≤ mixZ a b := by
  obtain ⟨ha, hb, _⟩ := smB_parts h
  obtain ⟨M, h0, hM⟩ := Geo.dbl_sum (S := sumL a b) (A := a) (B := b) (fun z => sumL_mem a b z) (polyB_ne ha) (polyB_ne hb)
  rw [polyB_hull ha, polyB_hull hb, ← areaP_sides, ← areaP_sides, ← areaP_sides] at hM
  have hH : sumH a b = hullF (pySortF (sumL a b)) := by unfold sumH; rfl
  rw [← hH] at hM
  have e : mixZ a b = M := by
    unfold mixZ
    rw [show areaP (sumH a b) - areaP a - areaP b = 2 * M by omega, Int.mul_tdiv_cancel_left _ (by omega)]
  rw [e]
  exact ⟨hM, h0⟩
theorem sumH_comm (a b : List Pt) : sumH a b = sumH b a := by
  unfold sumH
  rw [strict_ext (pySortF_strict (sumL a b)) (pySortF_strict (sumL b a)) fun z => ?_]
  rw [pySortF_mem, pySortF_mem, sumL_mem, sumL_mem]
  have hc : ∀ p q : Pt, addP p q = addP q p := fun p q => by unfold addP; simp only [Pt.mk.injEq]; omega
  constructor
  · rintro ⟨x, hx, y, hy, e⟩; exact ⟨y, hy, x, hx, by rw [e, hc]⟩
  · rintro ⟨x, hx, y, hy, e⟩; exact ⟨y, hy, x, hx, by rw [e, hc]⟩
theorem mixV_comm (a b : List Pt) (h : smB a b = true) : smB b a = true ∧ mixZ b a = mixZ a b := by
  obtain ⟨ha, hb, hs⟩ := smB_parts h
  constructor
  · unfold smB; rw [ha, hb, sumH_comm b a, hs]; rfl
  · unfold mixZ; rw [sumH_comm b a]; congr 1; omega

/-! ### Widths -/
theorem getD_memW {l : List Pt} {i : Nat} (h : i < l.length) : l.getD i default ∈ l := by
  rw [List.getD_eq_getElem?_getD, List.getElem?_eq_getElem h]; exact List.getElem_mem h
theorem mem_getDW {l : List Pt} {x : Pt} (h : x ∈ l) : ∃ i, i < l.length ∧ l.getD i default = x := by
  obtain ⟨i, hi, e⟩ := List.getElem_of_mem h
  exact ⟨i, hi, by rw [List.getD_eq_getElem?_getD, List.getElem?_eq_getElem hi, Option.getD_some, e]⟩
theorem wd_nonneg {l : List Pt} (d : Pt) (h : polyB l = true) : 0 ≤ wdZ l d := by
  have h0 := (ptsB_t (polyB_pts h)).1
  have h1 := mxS_ge (fun j => hgtD d (l.getD j default)) l.length 0 h0
  have h2 := mnS_le (fun j => hgtD d (l.getD j default)) l.length 0 h0
  unfold wdZ
  omega
theorem hgt_add (d p q : Pt) : hgtD d (addP p q) = hgtD d p + hgtD d q := by unfold hgtD addP; grind
theorem wd_twice {u : List Pt} (d : Pt) (h : smB u u = true) : wdZ (sumH u u) d = 2 * wdZ u d := by
  obtain ⟨hu, _, hs⟩ := smB_parts h
  have n0 := (ptsB_t (polyB_pts hu)).1
  have m0 := (ptsB_t hs).1
  obtain ⟨i1, hi1, e1⟩ := mxS_at (fun j => hgtD d (u.getD j default)) u.length n0
  obtain ⟨i2, hi2, e2⟩ := mnS_at (fun j => hgtD d (u.getD j default)) u.length n0
  obtain ⟨j1, hj1, f1⟩ := mxS_at (fun j => hgtD d ((sumH u u).getD j default)) (sumH u u).length m0
  obtain ⟨j2, hj2, f2⟩ := mnS_at (fun j => hgtD d ((sumH u u).getD j default)) (sumH u u).length m0
  have parts : ∀ z, z ∈ sumH u u → ∃ x, x ∈ u ∧ ∃ y, y ∈ u ∧ z = addP x y := fun z hz => by
    unfold sumH at hz
    exact (sumL_mem u u z).1 ((pySortF_mem _ _).1 (Geo.hull_sub (pySortF_strict _) hz))
  have up : ∀ x, x ∈ u → hgtD d x ≤ mxS (fun j => hgtD d (u.getD j default)) u.length ∧ mnS (fun j => hgtD d (u.getD j default)) u.length ≤ hgtD d x := fun x hx => by
    obtain ⟨i, hi, e⟩ := mem_getDW hx
    have h1 := mxS_ge (fun j => hgtD d (u.getD j default)) u.length i hi
    have h2 := mnS_le (fun j => hgtD d (u.getD j default)) u.length i hi
    simp only [e] at h1 h2
    exact ⟨h1, h2⟩
  have sup : ∀ x, x ∈ u → ∀ ux uy : Int, ∃ j, j < (sumH u u).length ∧ Geo.fct ux uy ((sumH u u).getD j default) ≤ Geo.fct ux uy (addP x x) := fun x hx ux uy => by
    obtain ⟨h, hh, hle⟩ := Geo.support (pySortF_strict (sumL u u)) ux uy ((pySortF_mem _ _).2 ((sumL_mem u u _).2 ⟨x, hx, x, hx, rfl⟩))
    have hh' : h ∈ sumH u u := by unfold sumH; exact hh
    obtain ⟨j, hj, e⟩ := mem_getDW hh'
    exact ⟨j, hj, by rw [e]; exact hle⟩
  have fe : ∀ p, Geo.fct d.y (-d.x) p = hgtD d p := fun p => by unfold Geo.fct hgtD; grind
  have fn : ∀ p, Geo.fct (-d.y) d.x p = - hgtD d p := fun p => by unfold Geo.fct hgtD; grind
  obtain ⟨x1, hx1, y1, hy1, z1⟩ := parts _ (getD_memW hj1)
  obtain ⟨x2, hx2, y2, hy2, z2⟩ := parts _ (getD_memW hj2)
  obtain ⟨k1, hk1, g1⟩ := sup _ (getD_memW hi1) (-d.y) d.x
  obtain ⟨k2, hk2, g2⟩ := sup _ (getD_memW hi2) d.y (-d.x)
  rw [fn, fn, hgt_add] at g1
  rw [fe, fe, hgt_add] at g2
  have q1 := mxS_ge (fun j => hgtD d ((sumH u u).getD j default)) (sumH u u).length k1 hk1
  have q2 := mnS_le (fun j => hgtD d ((sumH u u).getD j default)) (sumH u u).length k2 hk2
  have a1 := up x1 hx1; have a2 := up y1 hy1; have a3 := up x2 hx2; have a4 := up y2 hy2
  simp only [z1, z2, hgt_add] at f1 f2
  unfold wdZ
  omega
end Go.Proofs.Ytapbdfkaaeoonaa
