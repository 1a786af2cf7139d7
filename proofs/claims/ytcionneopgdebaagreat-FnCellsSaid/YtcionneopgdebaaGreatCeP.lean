/-
  Some texts of this proof in one: CeP CsA. Each part tells what it proves. By an AI agent.
-/
import Derived.Test.YtcionneopgdebaaGreatCeL
import Derived.Test.YtcionneopgdebaaGreatPtB
import Derived.Test.YtcionneopgdebaaGreatLaws
import Derived.Test.YtcionneopgdebaaGreatSortB

/-
  Cells of a plane polynomial, plain: the height of a term above the plane of three others, in the program and in the reference. By an AI agent.
-/
namespace Go.Proofs.YtcionneopgdebaaGreat
open LstSort

def pnt (t : Tm) : Pt := ⟨t.i, t.j⟩
theorem cross_anti (p q : Pt) : crossZ p q = -crossZ q p := by
  unfold crossZ
  rw [Int.mul_comm q.x p.y, Int.mul_comm q.y p.x]
  omega
theorem turn_sum (a b p : Pt) : turnZ a b p = crossZ a b + crossZ b p + crossZ p a := by
  unfold turnZ crossZ
  simp only [Int.sub_mul, Int.mul_sub]
  rw [Int.mul_comm b.x a.y, Int.mul_comm b.y a.x, Int.mul_comm p.x a.y, Int.mul_comm p.y a.x, Int.mul_comm a.y a.x]
  omega
/-- a triangle in three. -/
theorem turn_three (o u v w : Pt) : turnZ o u v = turnZ w u v + turnZ o w v + turnZ o u w := by
  rw [turn_sum o u v, turn_sum w u v, turn_sum o w v, turn_sum o u w]
  have h1 := cross_anti u w
  have h2 := cross_anti v w
  have h3 := cross_anti o w
  have h4 := cross_anti w v
  omega
/-- the program's height. -/
def abvI (o u v w : Tm) : Int := (w.c - o.c) * turnZ (pnt o) (pnt u) (pnt v) - (u.c - o.c) * turnZ (pnt o) (pnt w) (pnt v) - (v.c - o.c) * turnZ (pnt o) (pnt u) (pnt w)
/-- the reference's. -/
def abvS (o u v w : Tm) : Int := w.c * turnZ (pnt o) (pnt u) (pnt v) - o.c * turnZ (pnt w) (pnt u) (pnt v) - u.c * turnZ (pnt o) (pnt w) (pnt v) - v.c * turnZ (pnt o) (pnt u) (pnt w)
theorem abv_eq (o u v w : Tm) : abvI o u v w = abvS o u v w := by
  unfold abvI abvS
  have h := turn_three (pnt o) (pnt u) (pnt v) (pnt w)
  generalize turnZ (pnt o) (pnt u) (pnt v) = T at h ⊢
  generalize turnZ (pnt w) (pnt u) (pnt v) = A at h ⊢
  generalize turnZ (pnt o) (pnt w) (pnt v) = B at h ⊢
  generalize turnZ (pnt o) (pnt u) (pnt w) = C at h ⊢
  have e : o.c * T = o.c * A + o.c * B + o.c * C := by rw [h, Int.mul_add, Int.mul_add]
  simp only [Int.sub_mul]
  omega
/-- the height with the side of the three. -/
def hgtZ (o u v w : Tm) : Int := if turnZ (pnt o) (pnt u) (pnt v) < 0 then -abvI o u v w else abvI o u v w
theorem hgt_sign {o u v w : Tm} {s : Int} (hs : s = if turnZ (pnt o) (pnt u) (pnt v) < 0 then -1 else 1) : abvS o u v w * s = hgtZ o u v w := by
  subst hs
  unfold hgtZ
  rw [abv_eq]
  split
  · omega
  · omega
/-- the cell of three terms: those on their plane. -/
def hgtL (L : List Tm) (a b c t : Nat) : Int := hgtZ (tmAt L a) (tmAt L b) (tmAt L c) (tmAt L t)
def trnL (L : List Tm) (a b c : Nat) : Int := turnZ (pnt (tmAt L a)) (pnt (tmAt L b)) (pnt (tmAt L c))
def onL3 (L : List Tm) (a b c : Nat) : Nat → List Int
  | 0 => []
  | k + 1 => if hgtL L a b c k = 0 then onL3 L a b c k ++ [(k : Int)] else onL3 L a b c k
def lowB (L : List Tm) (a b c : Nat) : Nat → Bool
  | 0 => true
  | k + 1 => lowB L a b c k && decide (0 ≤ hgtL L a b c k)
/-- whether there is a cell of the three. -/
def celB (L : List Tm) (a b c : Nat) : Bool := decide (trnL L a b c ≠ 0) && lowB L a b c L.length
def celL (L : List Tm) (a b c : Nat) : List Int := onL3 L a b c L.length
theorem onL3_mem {L : List Tm} {a b c : Nat} : ∀ {k : Nat} {x : Int}, x ∈ onL3 L a b c k ↔ ∃ t : Nat, x = t ∧ t < k ∧ hgtL L a b c t = 0
  | 0, x => by simp [onL3]
  | k + 1, x => by
    unfold onL3
    split
    · rename_i h
      rw [List.mem_append, onL3_mem, List.mem_singleton]
      constructor
      · rintro (⟨t, e, h1, h2⟩ | rfl)
        · exact ⟨t, e, by omega, h2⟩
        · exact ⟨k, rfl, by omega, h⟩
      · rintro ⟨t, e, h1, h2⟩
        by_cases ek : t = k
        · subst ek; exact Or.inr e
        · exact Or.inl ⟨t, e, by omega, h2⟩
    · rename_i h
      rw [onL3_mem]
      constructor
      · rintro ⟨t, e, h1, h2⟩
        exact ⟨t, e, by omega, h2⟩
      · rintro ⟨t, e, h1, h2⟩
        have : t ≠ k := fun ek => h (by rw [← ek]; exact h2)
        exact ⟨t, e, by omega, h2⟩
theorem onL3_len (L : List Tm) (a b c : Nat) : ∀ k, (onL3 L a b c k).length ≤ k
  | 0 => Nat.le_refl _
  | k + 1 => by
    have := onL3_len L a b c k
    unfold onL3
    split
    · rw [List.length_append]; simp; omega
    · omega
theorem turn_at (o u : Pt) : turnZ o u u = 0 ∧ turnZ o o u = 0 ∧ turnZ o u o = 0 := by
  unfold turnZ
  refine ⟨?_, ?_, ?_⟩
  · rw [Int.mul_comm]; omega
  · simp
  · simp
/-- the three themselves are on their plane. -/
theorem hgt_self (o u v : Tm) : hgtZ o u v o = 0 := by
  unfold hgtZ abvI
  rw [Int.sub_self, (turn_at (pnt o) (pnt v)).2.1, (turn_at (pnt o) (pnt u)).2.2]
  simp
/-- a cell isn't empty. -/
theorem celL_ne {L : List Tm} {a b c : Nat} (ha : a < L.length) : celL L a b c ≠ [] := fun e => by
  have : ((a : Nat) : Int) ∈ celL L a b c := onL3_mem.2 ⟨a, rfl, ha, hgt_self _ _ _⟩
  rw [e] at this
  cases this

/-! ### all cells: the triples in order -/
def cel3 (L : List Tm) (a b : Nat) : Nat → List (List Int)
  | 0 => []
  | c + 1 => if b < c ∧ celB L a b c = true then cel3 L a b c ++ [celL L a b c] else cel3 L a b c
def cel2 (L : List Tm) (a : Nat) : Nat → List (List Int)
  | 0 => []
  | b + 1 => if a < b then cel2 L a b ++ cel3 L a b L.length else cel2 L a b
def cel1 (L : List Tm) : Nat → List (List Int)
  | 0 => []
  | a + 1 => cel1 L a ++ cel2 L a L.length
/-- the cells, each one once and in order. -/
def celA (L : List Tm) : List (List Int) := putF (cel1 L L.length)
theorem cel_sorted (L : List Tm) : LstSort.compactF (LstSort.srt (cel1 L L.length)) = celA L := LstSort.sorted_same _
end Go.Proofs.YtcionneopgdebaaGreat

/-
  Cells lie under one plane each; a directed side is a side of at most one cell. Plain. By an AI agent.
-/
namespace Go.Proofs.YtcionneopgdebaaGreat
open Geo

/-- A number that goes with a point as a plane does. -/
def aff (al be ga : Int) (p : Pt) : Int := al * p.x + be * p.y + ga
/-- A plane below all terms that meets just those of a list. -/
structure Sup (L : List Tm) (C : List Int) (T al be ga : Int) : Prop where
  pos : 0 < T
  low : ∀ t, t < L.length → aff al be ga (pnt (tmAt L t)) ≤ T * (tmAt L t).c
  mem : ∀ t : Nat, (t : Int) ∈ C ↔ t < L.length ∧ aff al be ga (pnt (tmAt L t)) = T * (tmAt L t).c
theorem abv_aff (o u v : Tm) : ∃ al be ga : Int, ∀ w : Tm, abvI o u v w = turnZ (pnt o) (pnt u) (pnt v) * w.c - aff al be ga (pnt w) := by
  refine ⟨(u.c - o.c) * ((v.j : Int) - o.j) - (v.c - o.c) * ((u.j : Int) - o.j), (v.c - o.c) * ((u.i : Int) - o.i) - (u.c - o.c) * ((v.i : Int) - o.i),
    o.c * turnZ (pnt o) (pnt u) (pnt v) - ((u.c - o.c) * ((v.j : Int) - o.j) - (v.c - o.c) * ((u.j : Int) - o.j)) * o.i - ((v.c - o.c) * ((u.i : Int) - o.i) - (u.c - o.c) * ((v.i : Int) - o.i)) * o.j, fun w => ?_⟩
  unfold abvI aff turnZ pnt
  simp only
  grind
theorem lowB_at {L : List Tm} {a b c : Nat} : ∀ {k : Nat}, lowB L a b c k = true → ∀ t, t < k → 0 ≤ hgtL L a b c t
  | 0, _, t, h => absurd h (Nat.not_lt_zero _)
  | k + 1, h, t, ht => by
    unfold lowB at h
    rw [Bool.and_eq_true, decide_eq_true_eq] at h
    by_cases e : t = k
    · subst e; exact h.2
    · exact lowB_at h.1 t (by omega)
theorem cel_sup {L : List Tm} {a b c : Nat} (h : celB L a b c = true) : ∃ T al be ga, Sup L (celL L a b c) T al be ga := by
  unfold celB at h
  rw [Bool.and_eq_true, decide_eq_true_eq] at h
  obtain ⟨hT, hlow⟩ := h
  have hl := lowB_at hlow
  unfold trnL at hT
  obtain ⟨al, be, ga, hab⟩ := abv_aff (tmAt L a) (tmAt L b) (tmAt L c)
  by_cases hs : turnZ (pnt (tmAt L a)) (pnt (tmAt L b)) (pnt (tmAt L c)) < 0
  · have hg : ∀ t, hgtL L a b c t = -(turnZ (pnt (tmAt L a)) (pnt (tmAt L b)) (pnt (tmAt L c))) * (tmAt L t).c - aff (-al) (-be) (-ga) (pnt (tmAt L t)) := fun t => by
      unfold hgtL hgtZ
      rw [if_pos hs, hab]
      unfold aff
      grind
    refine ⟨-(turnZ (pnt (tmAt L a)) (pnt (tmAt L b)) (pnt (tmAt L c))), -al, -be, -ga, by omega, fun t ht => ?_, fun t => ?_⟩
    · have := hl t ht
      rw [hg] at this
      omega
    · unfold celL
      rw [onL3_mem]
      constructor
      · rintro ⟨s, e, h1, h2⟩
        obtain rfl : t = s := by omega
        rw [hg] at h2
        exact ⟨h1, by omega⟩
      · rintro ⟨h1, h2⟩
        exact ⟨t, rfl, h1, by rw [hg]; omega⟩
  · have hg : ∀ t, hgtL L a b c t = turnZ (pnt (tmAt L a)) (pnt (tmAt L b)) (pnt (tmAt L c)) * (tmAt L t).c - aff al be ga (pnt (tmAt L t)) := fun t => by
      unfold hgtL hgtZ
      rw [if_neg hs, hab]
    refine ⟨turnZ (pnt (tmAt L a)) (pnt (tmAt L b)) (pnt (tmAt L c)), al, be, ga, by omega, fun t ht => ?_, fun t => ?_⟩
    · have := hl t ht
      rw [hg] at this
      omega
    · unfold celL
      rw [onL3_mem]
      constructor
      · rintro ⟨s, e, h1, h2⟩
        obtain rfl : t = s := by omega
        rw [hg] at h2
        exact ⟨h1, by omega⟩
      · rintro ⟨h1, h2⟩
        exact ⟨t, rfl, h1, by rw [hg]; omega⟩
/-- What vanishes at two points goes with the turn. -/
theorem aff_turn {al be ga : Int} {p q : Pt} (hp : aff al be ga p = 0) (hq : aff al be ga q = 0) (x y : Pt) : aff al be ga x * crs p q p y = aff al be ga y * crs p q p x := by
  unfold aff crs at *
  have e1 : al * (q.x - p.x) + be * (q.y - p.y) = 0 := by grind
  have e2 : al * x.x + be * x.y + ga = al * (x.x - p.x) + be * (x.y - p.y) := by grind
  have e3 : al * y.x + be * y.y + ga = al * (y.x - p.x) + be * (y.y - p.y) := by grind
  rw [e2, e3]
  grind
/-- Two cells with a common directed side have the same terms. -/
theorem sup_same {L : List Tm} {C C' : List Int} {T al be ga T' al' be' ga' : Int} (h : Sup L C T al be ga) (h' : Sup L C' T' al' be' ga') {i k c c' : Nat} (hi : (i : Int) ∈ C) (hk : (k : Int) ∈ C) (hi' : (i : Int) ∈ C') (hk' : (k : Int) ∈ C') (hc : (c : Int) ∈ C) (hc' : (c' : Int) ∈ C')
    (ht : 0 < crs (pnt (tmAt L i)) (pnt (tmAt L k)) (pnt (tmAt L i)) (pnt (tmAt L c))) (ht' : 0 < crs (pnt (tmAt L i)) (pnt (tmAt L k)) (pnt (tmAt L i)) (pnt (tmAt L c'))) (t : Nat) : (t : Int) ∈ C ↔ (t : Int) ∈ C' := by
  have G : ∀ p, aff (T' * al - T * al') (T' * be - T * be') (T' * ga - T * ga') p = T' * aff al be ga p - T * aff al' be' ga' p := fun p => by unfold aff; grind
  obtain ⟨_, e1⟩ := (h.mem i).1 hi
  obtain ⟨_, e2⟩ := (h.mem k).1 hk
  obtain ⟨_, e3⟩ := (h'.mem i).1 hi'
  obtain ⟨_, e4⟩ := (h'.mem k).1 hk'
  obtain ⟨c1, e5⟩ := (h.mem c).1 hc
  obtain ⟨c2, e6⟩ := (h'.mem c').1 hc'
  have z1 : aff (T' * al - T * al') (T' * be - T * be') (T' * ga - T * ga') (pnt (tmAt L i)) = 0 := by rw [G, e1, e3]; grind
  have z2 : aff (T' * al - T * al') (T' * be - T * be') (T' * ga - T * ga') (pnt (tmAt L k)) = 0 := by rw [G, e2, e4]; grind
  have hG := aff_turn z1 z2
  have p1 := h.pos
  have p2 := h'.pos
  have g1 : 0 ≤ aff (T' * al - T * al') (T' * be - T * be') (T' * ga - T * ga') (pnt (tmAt L c)) := by
    rw [G, e5]
    have h1 := Int.mul_le_mul_of_nonneg_left (h'.low c c1) (Int.le_of_lt p1)
    have h2 : T' * (T * (tmAt L c).c) = T * (T' * (tmAt L c).c) := by grind
    omega
  have g2 : aff (T' * al - T * al') (T' * be - T * be') (T' * ga - T * ga') (pnt (tmAt L c')) ≤ 0 := by
    rw [G, e6]
    have h1 := Int.mul_le_mul_of_nonneg_left (h.low c' c2) (Int.le_of_lt p2)
    have h2 : T' * (T * (tmAt L c').c) = T * (T' * (tmAt L c').c) := by grind
    omega
  have e7 := hG (pnt (tmAt L c)) (pnt (tmAt L c'))
  have h1 := Int.mul_nonneg g1 (Int.le_of_lt ht')
  have h2 : aff (T' * al - T * al') (T' * be - T * be') (T' * ga - T * ga') (pnt (tmAt L c')) * crs (pnt (tmAt L i)) (pnt (tmAt L k)) (pnt (tmAt L i)) (pnt (tmAt L c)) ≤ 0 := by
    have := Int.mul_nonneg (show 0 ≤ -(aff (T' * al - T * al') (T' * be - T * be') (T' * ga - T * ga') (pnt (tmAt L c'))) by omega) (Int.le_of_lt ht)
    rw [Int.neg_mul] at this
    omega
  have z3 : aff (T' * al - T * al') (T' * be - T * be') (T' * ga - T * ga') (pnt (tmAt L c)) * crs (pnt (tmAt L i)) (pnt (tmAt L k)) (pnt (tmAt L i)) (pnt (tmAt L c')) = 0 := by omega
  have z4 : aff (T' * al - T * al') (T' * be - T * be') (T' * ga - T * ga') (pnt (tmAt L c)) = 0 := by
    rcases Int.mul_eq_zero.1 z3 with h | h
    · exact h
    · omega
  have z5 : ∀ p, T' * aff al be ga p = T * aff al' be' ga' p := fun p => by
    have e8 := hG p (pnt (tmAt L c))
    rw [z4, Int.zero_mul] at e8
    rcases Int.mul_eq_zero.1 e8 with h | h
    · rw [G] at h; omega
    · omega
  rw [h.mem, h'.mem]
  have e9 := z5 (pnt (tmAt L t))
  constructor
  · rintro ⟨q1, q2⟩
    refine ⟨q1, ?_⟩
    rw [q2] at e9
    have : T * aff al' be' ga' (pnt (tmAt L t)) = T * (T' * (tmAt L t).c) := by rw [← e9]; grind
    exact Int.eq_of_mul_eq_mul_left (by omega) this
  · rintro ⟨q1, q2⟩
    refine ⟨q1, ?_⟩
    rw [q2] at e9
    have : T' * aff al be ga (pnt (tmAt L t)) = T' * (T * (tmAt L t).c) := by rw [e9]; grind
    exact Int.eq_of_mul_eq_mul_left (by omega) this
end Go.Proofs.YtcionneopgdebaaGreat
