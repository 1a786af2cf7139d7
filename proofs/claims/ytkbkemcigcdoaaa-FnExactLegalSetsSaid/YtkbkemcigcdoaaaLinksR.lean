/-
  LinksOut: reference and program.
-/
import Derived.Test.YtkbkemcigcdoaaaLinks
namespace Go.Proofs.Ytkbkemcigcdoaaa
open Go.RowKit

theorem isum_map_add {α : Type} (l : List α) (f g : α → Int) : isum (l.map fun x => f x + g x) = isum (l.map f) + isum (l.map g) := by
  induction l with
  | nil => rfl
  | cons x l ih => simp only [List.map_cons, isum_cons, ih]; omega
theorem isum_map_congr {α : Type} {l : List α} {f g : α → Int} (h : ∀ x ∈ l, f x = g x) : isum (l.map f) = isum (l.map g) := by rw [List.map_congr_left h]
theorem isum_map_zero {α : Type} (l : List α) : isum (l.map fun _ => (0 : Int)) = 0 := isum_zero fun x hx => by
  obtain ⟨_, _, rfl⟩ := List.mem_map.1 hx
  rfl
theorem isum_single {α : Type} [DecidableEq α] (a : α) (c : Int) : ∀ {l : List α}, l.Nodup → isum (l.map fun v => if v = a then c else 0) = if a ∈ l then c else 0
  | [], _ => rfl
  | x :: l, h => by
    obtain ⟨h1, h2⟩ := List.nodup_cons.1 h
    rw [List.map_cons, isum_cons, isum_single a c h2]
    by_cases e : x = a
    · subst e; simp [h1]
    · have e' : a ≠ x := Ne.symm e
      simp [e, e']
theorem risB_nodup {l : List Int} {lo hi : Int} (h : risB l lo hi = true) : l.Nodup := by
  unfold List.Nodup
  rw [List.pairwise_iff_getElem]
  intro i j hi hj hij
  have := risB_lt h hij hj
  simp [List.getD, hi, hj] at this
  omega

def linkOut (ls : List Lk) (set : List Int) : Int := isum (ls.map fun x : Lk => if (decide (x.a ∈ set) != decide (x.b ∈ set)) = true then x.n else 0)
theorem linkOut_nil (set : List Int) : linkOut [] set = 0 := rfl
theorem linkOut_step {ls : List Lk} {set : List Int} {k : Nat} (hk : k < ls.length) {x : Lk} (hx : ls.getD k Lk.z = x) : linkOut (ls.take (k + 1)) set = linkOut (ls.take k) set + (if (decide (x.a ∈ set) != decide (x.b ∈ set)) = true then x.n else 0) := by
  unfold linkOut
  rw [take_snoc ls k Lk.z hk, hx, List.map_append, List.map_singleton, isum_snoc]
theorem linkOut_bound {n : Int} {ls : List Lk} (h : goodL n ls = true) (hl : ls.length ≤ 1048576) (set : List Int) (k : Nat) : 0 ≤ linkOut (ls.take k) set ∧ linkOut (ls.take k) set ≤ 5242880 := by
  have := isum_bound (l := (ls.take k).map fun x : Lk => if (decide (x.a ∈ set) != decide (x.b ∈ set)) = true then x.n else 0) (c := 5) (fun y hy => by
    obtain ⟨x, hx, rfl⟩ := List.mem_map.1 hy
    have := mem_take_good h hx
    split <;> omega)
  rw [List.length_map, List.length_take] at this
  unfold linkOut
  omega

/-- The sum over a set of the edges to vertices outside it is the sum over the links that leave it. -/
theorem outF_setF (bet : Nat → Nat → Int) (set : List Int) (N v : Nat) : outF bet (tab N (setF set)) v N = isum ((List.range N).map fun u : Nat => if (u : Int) ∈ set then 0 else bet v u) := by
  unfold outF
  refine isum_map_congr fun u hu => ?_
  rw [tab_getD (by simpa using hu)]
  unfold setF
  by_cases h : (u : Int) ∈ set
  · simp [h]
  · simp [h]
theorem range_single {N a : Nat} (h : a < N) (c : Int) : isum ((List.range N).map fun u => if u = a then c else 0) = c := by
  rw [isum_single a c List.nodup_range, if_pos (by simpa using h)]
theorem out_links {n : Int} {set : List Int} (hs : risB set 0 (n - 1) = true) : ∀ {l : List Lk}, (∀ x ∈ l, 0 ≤ x.a ∧ x.a < x.b ∧ x.b ≤ n - 1) →
    isum (set.map fun v : Int => isum ((List.range n.toNat).map fun u : Nat => if (u : Int) ∈ set then 0 else betF l v.toNat u)) = linkOut l set
  | [], _ => by
    rw [linkOut_nil]
    refine isum_zero fun y hy => ?_
    obtain ⟨v, _, rfl⟩ := List.mem_map.1 hy
    refine isum_zero fun y hy => ?_
    obtain ⟨u, _, rfl⟩ := List.mem_map.1 hy
    rw [betF_nil]; split <;> rfl
  | x :: l, h => by
    have ih := out_links hs (l := l) (fun y hy => h y (by simp [hy]))
    obtain ⟨g1, g2, g3⟩ := h x (by simp)
    obtain ⟨xa, xb, xn⟩ := x
    simp only at g1 g2 g3
    obtain ⟨a, rfl⟩ : ∃ a : Nat, xa = a := ⟨xa.toNat, by omega⟩
    obtain ⟨b, rfl⟩ : ∃ b : Nat, xb = b := ⟨xb.toNat, by omega⟩
    have inner : ∀ v ∈ set, isum ((List.range n.toNat).map fun u : Nat => if (u : Int) ∈ set then 0 else betF (⟨a, b, xn⟩ :: l) v.toNat u) =
        ((if v = (a : Int) then (if (b : Int) ∈ set then 0 else xn) else 0) + (if v = (b : Int) then (if (a : Int) ∈ set then 0 else xn) else 0)) + isum ((List.range n.toNat).map fun u : Nat => if (u : Int) ∈ set then 0 else betF l v.toNat u) := by
      intro v hv
      obtain ⟨j, hj, rfl⟩ := List.getElem_of_mem hv
      have hb := risB_bounds hs hj
      simp only [List.getD, List.getElem?_eq_getElem hj, Option.getD_some] at hb
      generalize set[j] = v at hb hv
      obtain ⟨v, rfl⟩ : ∃ v' : Nat, v = v' := ⟨v.toNat, by omega⟩
      have e : ∀ u ∈ List.range n.toNat, (if (u : Int) ∈ set then 0 else betF (⟨a, b, xn⟩ :: l) (v : Int).toNat u) =
          ((if u = b then (if (v : Int) = (a : Int) then (if (b : Int) ∈ set then 0 else xn) else 0) else 0) + (if u = a then (if (v : Int) = (b : Int) then (if (a : Int) ∈ set then 0 else xn) else 0) else 0)) + (if (u : Int) ∈ set then 0 else betF l (v : Int).toNat u) := by
        intro u _
        have eb : betF (⟨a, b, xn⟩ :: l) (v : Int).toNat u = (if ((a : Int) = (v : Int) ∧ (b : Int) = (u : Int)) ∨ ((a : Int) = (u : Int) ∧ (b : Int) = (v : Int)) then xn else 0) + betF l (v : Int).toNat u := by
          rw [Int.toNat_natCast]; rfl
        rw [eb]
        by_cases hu : (u : Int) ∈ set
        · rw [if_pos hu, if_pos hu]
          by_cases e1 : u = b
          · subst e1
            rw [if_pos rfl, if_pos hu, if_neg (show ¬ u = a by omega)]; simp
          · rw [if_neg e1]
            by_cases e2 : u = a
            · subst e2; rw [if_pos rfl, if_pos hu]; simp
            · rw [if_neg e2]; simp
        · rw [if_neg hu, if_neg hu]
          by_cases e1 : u = b
          · subst e1
            rw [if_pos rfl, if_neg hu, if_neg (show ¬ u = a by omega)]
            by_cases e3 : (v : Int) = (a : Int)
            · rw [if_pos e3, if_pos (Or.inl ⟨e3.symm, rfl⟩)]; omega
            · rw [if_neg e3, if_neg (by omega)]; omega
          · rw [if_neg e1]
            by_cases e2 : u = a
            · subst e2
              rw [if_pos rfl, if_neg hu]
              by_cases e3 : (v : Int) = (b : Int)
              · rw [if_pos e3, if_pos (Or.inr ⟨rfl, e3.symm⟩)]; omega
              · rw [if_neg e3, if_neg (by omega)]; omega
            · rw [if_neg e2, if_neg (by omega)]; omega
      rw [isum_map_congr e, isum_map_add, isum_map_add, range_single (by omega), range_single (by omega)]
    rw [isum_map_congr inner, isum_map_add, isum_map_add, isum_single (a : Int) _ (risB_nodup hs), isum_single (b : Int) _ (risB_nodup hs), ih]
    show _ = isum _
    rw [List.map_cons, isum_cons]
    show _ = _ + linkOut l set
    congr 1
    by_cases h1 : (a : Int) ∈ set <;> by_cases h2 : (b : Int) ∈ set <;> simp [h1, h2]

def linksR (n : Int) (ls : List Lk) (set : List Int) : Int × Bool := if goodL n ls = true ∧ risB set 0 (n - 1) = true then (linkOut ls set, true) else (0, false)

/-- What the program sums up. -/
def setOut (bet : Nat → Nat → Int) (m : List Int) (N : Nat) (l : List Int) : Int := isum (l.map fun v : Int => outF bet m v.toNat N)
theorem setOut_step {bet : Nat → Nat → Int} {m : List Int} {N : Nat} {l : List Int} {k : Nat} (hk : k < l.length) : setOut bet m N (l.take (k + 1)) = setOut bet m N (l.take k) + outF bet m (l.getD k 0).toNat N := by
  unfold setOut
  rw [take_snoc l k 0 hk, List.map_append, List.map_singleton, isum_snoc]
theorem setOut_bound {bet : Nat → Nat → Int} {m : List Int} {N : Nat} {l : List Int} (hN : N ≤ 8) (hl : l.length ≤ 1048576) (hb : ∀ v j, 0 ≤ bet v j ∧ bet v j ≤ 5) (k : Nat) : 0 ≤ setOut bet m N (l.take k) ∧ setOut bet m N (l.take k) ≤ 41943040 := by
  have := isum_bound (l := (l.take k).map fun v : Int => outF bet m v.toNat N) (c := 40) (fun y hy => by
    obtain ⟨x, hx, rfl⟩ := List.mem_map.1 hy
    have := outF_bound (m := m) (v := x.toNat) (fun j (_ : j < N) => hb x.toNat j) N (Nat.le_refl _)
    omega)
  rw [List.length_map, List.length_take] at this
  unfold setOut
  omega
theorem setOut_link {n : Int} {ls : List Lk} {set : List Int} (hg : goodL n ls = true) (hs : risB set 0 (n - 1) = true) : setOut (betF ls) (tab n.toNat (setF set)) n.toNat set = linkOut ls set := by
  unfold setOut
  rw [← out_links hs (l := ls) (fun x hx => by have := good_mem hg hx; omega)]
  exact isum_map_congr fun v _ => outF_setF _ _ _ _

end Go.Proofs.Ytkbkemcigcdoaaa
