/-
  Some texts of this proof in one: CsF CnA. Each part tells what it proves. By an AI agent.
-/
import Derived.Test.YtcionneopgdebaaGreatCsB
import Derived.Test.YtcionneopgdebaaGreatCpQ
import Derived.Deep.QuietTactic
import Derived.StillTailTactics

/-
  Some texts of this proof in one: CsF CsH. Each part tells what it proves. By an AI agent.
-/

/-
  Edges of the subdivision: the program's. By an AI agent.
-/
namespace Go.Proofs.YtcionneopgdebaaGreat
open Go.RowKit

/-! ### Plain -/
theorem befT_b {p q : Tm} (h : befT p q = true) : p.i < q.i ∨ (p.i = q.i ∧ p.j < q.j) := by
  unfold befT at h
  simp only [Bool.or_eq_true, Bool.and_eq_true, decide_eq_true_eq] at h
  exact h
theorem plane_ord {L : List Tm} (h : planeB L = true) : ∀ i j, i < j → j < L.length → (tmAt L i).i < (tmAt L j).i ∨ ((tmAt L i).i = (tmAt L j).i ∧ (tmAt L i).j < (tmAt L j).j) := by
  unfold planeB at h
  rw [Bool.and_eq_true] at h
  have step : ∀ j, j + 1 < L.length → (tmAt L j).i < (tmAt L (j + 1)).i ∨ ((tmAt L j).i = (tmAt L (j + 1)).i ∧ (tmAt L j).j < (tmAt L (j + 1)).j) := fun j hj => by
    have h2 := plnK_le h.2 (show j + 1 + 1 ≤ L.length by omega)
    unfold plnK at h2
    simp only [Bool.and_eq_true, Bool.or_eq_true, decide_eq_true_eq] at h2
    rcases h2.2.2 with h3 | h3
    · omega
    · exact befT_b h3
  intro i j
  induction j with
  | zero => intro hij; omega
  | succ j ih =>
    intro hij hj
    have h1 := step j hj
    by_cases e : i = j
    · subst e; exact h1
    · have h2 := ih (by omega) (by omega)
      omega
theorem plane_dist {L : List Tm} (h : planeB L = true) : Dist L := dist_of (plane_ord h)
def LstO (B : Bool) (M : List (List Int)) (w : World) (e : Ending) (w' : World) : Prop := ∃ ad c, e = .returned (.tuple #[.slice ad (if B = true then M else []).length c, .bool B]) ∧ RdM w' ad (if B = true then M else []) ∧ Below w.heap.size w w'
theorem LstO.no {M : List (List Int)} {w w' : World} (hb : Below w.heap.size w w') : LstO false M w (.returned (.tuple #[.slice none 0 0, .bool false])) w' := ⟨none, 0, rfl, (fun i hi => by simp at hi), hb⟩
theorem LstO.yes {M : List (List Int)} {w w' : World} {a : Option Addr} {c : Nat} (h : RdM w' a M) (hb : Below w.heap.size w w') : LstO true M w (.returned (.tuple #[.slice a M.length c, .bool true])) w' := ⟨a, c, rfl, h, hb⟩

/-! ### Walks -/
end Go.Proofs.YtcionneopgdebaaGreat

/-
  IsTriangulated: the program's. By an AI agent.
-/
namespace Go.Proofs.YtcionneopgdebaaGreat
open Go.RowKit

theorem cell_len {L : List Tm} {C : List Int} (h : C ∈ celA L) : C.length ≤ L.length := by
  unfold celA at h
  rw [LstSort.putF_mem] at h
  obtain ⟨a, b, c, _, _, _, _, rfl⟩ := cel1_cel h
  unfold celL
  exact onL3_len L a b c L.length
end Go.Proofs.YtcionneopgdebaaGreat

/-
  Some texts of this proof in one: CnA CnB CnC CnD. Each part tells what it proves. By an AI agent.
-/

/-
  Planes that are turned about a line; cells beyond a side; there is a cell. Plain. By an AI agent.
-/
namespace Go.Proofs.YtcionneopgdebaaGreat
open Geo

/-- how far a term is above a plane. -/
def slk (L : List Tm) (T al be ga : Int) (t : Nat) : Int := T * (tmAt L t).c - aff al be ga (pI L t)
/-- a plane below all terms. -/
structure Low (L : List Tm) (T al be ga : Int) : Prop where
  pos : 0 < T
  low : ∀ t, t < L.length → 0 ≤ slk L T al be ga t
theorem Sup.toLow {L : List Tm} {C : List Int} {T al be ga : Int} (h : Sup L C T al be ga) : Low L T al be ga := ⟨h.pos, fun t ht => by have := h.low t ht; unfold slk; show 0 ≤ T * (tmAt L t).c - aff al be ga (pnt (tmAt L t)); omega⟩
theorem Sup.on {L : List Tm} {C : List Int} {T al be ga : Int} (h : Sup L C T al be ga) (t : Nat) : (t : Int) ∈ C ↔ t < L.length ∧ slk L T al be ga t = 0 := by
  rw [h.mem]
  unfold slk
  show _ ∧ aff al be ga (pnt (tmAt L t)) = _ ↔ _ ∧ T * (tmAt L t).c - aff al be ga (pnt (tmAt L t)) = 0
  constructor
  · rintro ⟨h1, h2⟩; exact ⟨h1, by omega⟩
  · rintro ⟨h1, h2⟩; exact ⟨h1, by omega⟩
/-- the least quotient. -/
theorem ex_least (n : Nat) (d g : Nat → Int) (hd : ∀ t, t < n → 0 ≤ d t) : (∀ t, t < n → g t ≤ 0) ∨ ∃ m, m < n ∧ 0 < g m ∧ ∀ t, t < n → 0 < g t → d m * g t ≤ d t * g m := by
  induction n with
  | zero => exact Or.inl fun t ht => by omega
  | succ n ih =>
    rcases ih (fun t ht => hd t (by omega)) with h | ⟨m, hm, hg, h⟩
    · by_cases h0 : 0 < g n
      · refine Or.inr ⟨n, by omega, h0, fun t ht htg => ?_⟩
        by_cases e : t = n
        · subst e; exact Int.le_refl _
        · have := h t (by omega); omega
      · refine Or.inl fun t ht => ?_
        by_cases e : t = n
        · subst e; omega
        · exact h t (by omega)
    · by_cases h0 : 0 < g n ∧ d n * g m < d m * g n
      · obtain ⟨h0, h1⟩ := h0
        refine Or.inr ⟨n, by omega, h0, fun t ht htg => ?_⟩
        by_cases e : t = n
        · subst e; exact Int.le_refl _
        · have h2 := h t (by omega) htg
          -- d n g m < d m g n, d m g t <= d t g m
          have a1 := Int.mul_le_mul_of_nonneg_right (Int.le_of_lt h1) (Int.le_of_lt htg)
          have a2 := Int.mul_le_mul_of_nonneg_right h2 (Int.le_of_lt h0)
          have a3 : d n * g t * g m ≤ d t * g n * g m := by
            have e1 : d n * g m * g t = d n * g t * g m := by grind
            have e2 : d m * g n * g t = d m * g t * g n := by grind
            have e3 : d t * g m * g n = d t * g n * g m := by grind
            omega
          exact Int.le_of_mul_le_mul_right a3 hg
      · refine Or.inr ⟨m, by omega, hg, fun t ht htg => ?_⟩
        by_cases e : t = n
        · subst e
          rcases Int.lt_or_le (d t * g m) (d m * g t) with h1 | h1
          · exact absurd ⟨htg, h1⟩ h0
          · exact h1
        · exact h t (by omega) htg
/-- A PLANE IS TURNED about where a number vanishes, till it meets a term where the number is positive. -/
theorem turn_plane {L : List Tm} {T al be ga : Int} (h : Low L T al be ga) (a b c : Int) (hg : ∃ t, t < L.length ∧ 0 < aff a b c (pI L t)) : ∃ m T' al' be' ga', m < L.length ∧ 0 < aff a b c (pI L m) ∧ Low L T' al' be' ga' ∧ ∀ t, slk L T' al' be' ga' t = aff a b c (pI L m) * slk L T al be ga t - slk L T al be ga m * aff a b c (pI L t) := by
  rcases ex_least L.length (slk L T al be ga) (fun t => aff a b c (pI L t)) h.low with h0 | ⟨m, hm, hgm, hl⟩
  · obtain ⟨t, ht, h1⟩ := hg
    have := h0 t ht
    omega
  · have key : ∀ t, slk L (aff a b c (pI L m) * T) (aff a b c (pI L m) * al + slk L T al be ga m * a) (aff a b c (pI L m) * be + slk L T al be ga m * b) (aff a b c (pI L m) * ga + slk L T al be ga m * c) t = aff a b c (pI L m) * slk L T al be ga t - slk L T al be ga m * aff a b c (pI L t) := fun t => by
      generalize aff a b c (pI L m) = G
      generalize slk L T al be ga m = D
      unfold slk aff
      grind
    refine ⟨m, _, _, _, _, hm, hgm, ⟨Int.mul_pos hgm h.pos, fun t ht => ?_⟩, key⟩
    rw [key]
    have d0 := h.low t ht
    have dm := h.low m hm
    rcases Int.lt_or_le 0 (aff a b c (pI L t)) with h1 | h1
    · have := hl t ht h1
      have e : aff a b c (pI L m) * slk L T al be ga t = slk L T al be ga t * aff a b c (pI L m) := Int.mul_comm _ _
      omega
    · have e1 := Int.mul_nonneg (Int.le_of_lt hgm) d0
      have e2 := Int.mul_nonneg dm (show 0 ≤ -aff a b c (pI L t) by omega)
      rw [Int.mul_neg] at e2
      omega

/-! ### a plane that meets three terms makes a cell -/
theorem cel3_put {L : List Tm} {a b c k : Nat} (hbc : b < c) (hk : c < k) (h : celB L a b c = true) : celL L a b c ∈ cel3 L a b k := by
  induction k with
  | zero => omega
  | succ k ih =>
    unfold cel3
    by_cases e : c = k
    · subst e
      rw [if_pos ⟨hbc, h⟩]
      simp
    · split
      · exact List.mem_append_left _ (ih (by omega))
      · exact ih (by omega)
theorem cel2_put {L : List Tm} {a b c k : Nat} (hab : a < b) (hbc : b < c) (hc : c < L.length) (hk : b < k) (h : celB L a b c = true) : celL L a b c ∈ cel2 L a k := by
  induction k with
  | zero => omega
  | succ k ih =>
    unfold cel2
    by_cases e : b = k
    · subst e
      rw [if_pos hab]
      exact List.mem_append_right _ (cel3_put hbc hc h)
    · split
      · exact List.mem_append_left _ (ih (by omega))
      · exact ih (by omega)
theorem cel1_put {L : List Tm} {a b c k : Nat} (hab : a < b) (hbc : b < c) (hc : c < L.length) (hk : a < k) (h : celB L a b c = true) : celL L a b c ∈ cel1 L k := by
  induction k with
  | zero => omega
  | succ k ih =>
    unfold cel1
    by_cases e : a = k
    · subst e
      exact List.mem_append_right _ (cel2_put hab hbc hc (by omega) h)
    · exact List.mem_append_left _ (ih (by omega))
theorem slk_abv {L : List Tm} {T al be ga : Int} {a b c : Nat} (ha : slk L T al be ga a = 0) (hb : slk L T al be ga b = 0) (hc : slk L T al be ga c = 0) (ht : turnZ (pI L a) (pI L b) (pI L c) ≠ 0) (w : Nat) : T * abvI (tmAt L a) (tmAt L b) (tmAt L c) (tmAt L w) = turnZ (pI L a) (pI L b) (pI L c) * slk L T al be ga w := by
  obtain ⟨al', be', ga', hA⟩ := abv_aff (tmAt L a) (tmAt L b) (tmAt L c)
  have hA : ∀ w : Tm, abvI (tmAt L a) (tmAt L b) (tmAt L c) w = turnZ (pI L a) (pI L b) (pI L c) * w.c - aff al' be' ga' (pnt w) := hA
  have z1 : abvI (tmAt L a) (tmAt L b) (tmAt L c) (tmAt L a) = 0 := by unfold abvI turnZ pnt; simp only; grind
  have z2 : abvI (tmAt L a) (tmAt L b) (tmAt L c) (tmAt L b) = 0 := by unfold abvI turnZ pnt; simp only; grind
  have z3 : abvI (tmAt L a) (tmAt L b) (tmAt L c) (tmAt L c) = 0 := by unfold abvI turnZ pnt; simp only; grind
  have htc : turnZ (pI L a) (pI L b) (pI L c) = crs (pI L a) (pI L b) (pI L a) (pI L c) := rfl
  have hne : crs (pI L a) (pI L b) (pI L a) (pI L c) ≠ 0 := htc ▸ ht
  generalize turnZ (pI L a) (pI L b) (pI L c) = D at hA htc ⊢
  rw [hA] at z1 z2 z3
  have G : ∀ p, aff (D * al - T * al') (D * be - T * be') (D * ga - T * ga') p = D * aff al be ga p - T * aff al' be' ga' p := fun p => by unfold aff; grind
  have g : ∀ t : Nat, slk L T al be ga t = 0 → D * (tmAt L t).c - aff al' be' ga' (pnt (tmAt L t)) = 0 → aff (D * al - T * al') (D * be - T * be') (D * ga - T * ga') (pI L t) = 0 := fun t h1 h2 => by
    rw [G]
    have e1 : aff al be ga (pI L t) = T * (tmAt L t).c := by unfold slk at h1; omega
    have e2 : aff al' be' ga' (pI L t) = D * (tmAt L t).c := by show aff al' be' ga' (pnt (tmAt L t)) = _; omega
    rw [e1, e2]
    grind
  have ga1 := g a ha z1
  have gb1 := g b hb z2
  have gc1 := g c hc z3
  have h := aff_turn ga1 gb1 (pI L w) (pI L c)
  rw [gc1, Int.zero_mul] at h
  have hw : aff (D * al - T * al') (D * be - T * be') (D * ga - T * ga') (pI L w) = 0 := (Int.mul_eq_zero.1 h).elim id fun e => absurd e hne
  rw [G] at hw
  rw [hA]
  unfold slk
  have : aff al' be' ga' (pnt (tmAt L w)) = aff al' be' ga' (pI L w) := rfl
  rw [this]
  grind
theorem slk_hgt {L : List Tm} {T al be ga : Int} {a b c : Nat} (hT : 0 < T) (ha : slk L T al be ga a = 0) (hb : slk L T al be ga b = 0) (hc : slk L T al be ga c = 0) (ht : turnZ (pI L a) (pI L b) (pI L c) ≠ 0) (w : Nat) : (0 ≤ hgtL L a b c w ↔ 0 ≤ slk L T al be ga w) ∧ (hgtL L a b c w = 0 ↔ slk L T al be ga w = 0) := by
  have h := slk_abv ha hb hc ht w
  have e : ∃ D : Int, 0 < D ∧ T * hgtL L a b c w = D * slk L T al be ga w := by
    unfold hgtL hgtZ
    show ∃ D : Int, 0 < D ∧ T * (if turnZ (pI L a) (pI L b) (pI L c) < 0 then -abvI (tmAt L a) (tmAt L b) (tmAt L c) (tmAt L w) else abvI (tmAt L a) (tmAt L b) (tmAt L c) (tmAt L w)) = D * slk L T al be ga w
    split
    · exact ⟨-turnZ (pI L a) (pI L b) (pI L c), by omega, by rw [Int.mul_neg, h, Int.neg_mul]⟩
    · exact ⟨turnZ (pI L a) (pI L b) (pI L c), by omega, h⟩
  obtain ⟨D, hD, e⟩ := e
  generalize hgtL L a b c w = x at e ⊢
  generalize slk L T al be ga w = y at e ⊢
  have pm : ∀ {u v : Int}, 0 < u → (0 ≤ u * v ↔ 0 ≤ v) := fun {u v} hu => ⟨fun h => by
    rcases Int.lt_or_le v 0 with g | g
    · have := Int.mul_neg_of_pos_of_neg hu g; omega
    · exact g, fun h => Int.mul_nonneg (Int.le_of_lt hu) h⟩
  have zm : ∀ {u v : Int}, 0 < u → (u * v = 0 ↔ v = 0) := fun {u v} hu => ⟨fun h => (Int.mul_eq_zero.1 h).elim (fun e => by omega) id, fun h => by rw [h, Int.mul_zero]⟩
  constructor
  · rw [← pm hT, e, pm hD]
  · rw [← zm hT, e, zm hD]
theorem lowB_of {L : List Tm} {a b c : Nat} : ∀ {k : Nat}, (∀ t, t < k → 0 ≤ hgtL L a b c t) → lowB L a b c k = true
  | 0, _ => rfl
  | k + 1, h => by
    unfold lowB
    rw [Bool.and_eq_true, decide_eq_true_eq]
    exact ⟨lowB_of fun t ht => h t (by omega), h k (by omega)⟩
theorem cell_of {L : List Tm} {T al be ga : Int} (h : Low L T al be ga) {a b c : Nat} (hab : a < b) (hbc : b < c) (hcn : c < L.length) (ha : slk L T al be ga a = 0) (hb : slk L T al be ga b = 0) (hc : slk L T al be ga c = 0) (ht : turnZ (pI L a) (pI L b) (pI L c) ≠ 0) : ∃ C ∈ celA L, ∀ t : Nat, (t : Int) ∈ C ↔ t < L.length ∧ slk L T al be ga t = 0 := by
  have hh := slk_hgt h.pos ha hb hc ht
  have hB : celB L a b c = true := by
    unfold celB
    rw [Bool.and_eq_true, decide_eq_true_eq]
    exact ⟨ht, lowB_of fun t ht => (hh t).1.2 (h.low t ht)⟩
  refine ⟨celL L a b c, ?_, fun t => ?_⟩
  · unfold celA
    rw [LstSort.putF_mem]
    exact cel1_put hab hbc hcn (by omega) hB
  · unfold celL
    rw [onL3_mem]
    constructor
    · rintro ⟨s, e, h1, h2⟩
      obtain rfl : t = s := by omega
      exact ⟨h1, (hh t).2.1 h2⟩
    · rintro ⟨h1, h2⟩
      exact ⟨t, rfl, h1, (hh t).2.2 h2⟩
/-- three terms off a line, on a plane below all. -/
theorem cell_of3 {L : List Tm} {T al be ga : Int} (h : Low L T al be ga) {a b c : Nat} (han : a < L.length) (hbn : b < L.length) (hcn : c < L.length) (ha : slk L T al be ga a = 0) (hb : slk L T al be ga b = 0) (hc : slk L T al be ga c = 0) (ht : turnZ (pI L a) (pI L b) (pI L c) ≠ 0) : ∃ C ∈ celA L, ∀ t : Nat, (t : Int) ∈ C ↔ t < L.length ∧ slk L T al be ga t = 0 := by
  have n1 : a ≠ b := fun e => ht (by rw [e]; unfold turnZ; grind)
  have n2 : a ≠ c := fun e => ht (by rw [e]; unfold turnZ; grind)
  have n3 : b ≠ c := fun e => ht (by rw [e]; unfold turnZ; grind)
  have s1 : turnZ (pI L b) (pI L a) (pI L c) ≠ 0 := fun e => ht (by unfold turnZ at *; grind)
  have s2 : turnZ (pI L a) (pI L c) (pI L b) ≠ 0 := fun e => ht (by unfold turnZ at *; grind)
  have s3 : turnZ (pI L b) (pI L c) (pI L a) ≠ 0 := fun e => ht (by unfold turnZ at *; grind)
  have s4 : turnZ (pI L c) (pI L a) (pI L b) ≠ 0 := fun e => ht (by unfold turnZ at *; grind)
  have s5 : turnZ (pI L c) (pI L b) (pI L a) ≠ 0 := fun e => ht (by unfold turnZ at *; grind)
  rcases (show (a < b ∧ b < c) ∨ (b < a ∧ a < c) ∨ (a < c ∧ c < b) ∨ (b < c ∧ c < a) ∨ (c < a ∧ a < b) ∨ (c < b ∧ b < a) by omega) with ⟨u, v⟩ | ⟨u, v⟩ | ⟨u, v⟩ | ⟨u, v⟩ | ⟨u, v⟩ | ⟨u, v⟩
  · exact cell_of h u v hcn ha hb hc ht
  · exact cell_of h u v hcn hb ha hc s1
  · exact cell_of h u v hbn ha hc hb s2
  · exact cell_of h u v han hb hc ha s3
  · exact cell_of h u v hbn hc ha hb s4
  · exact cell_of h u v han hc hb ha s5

/-! ### the cell beyond a side -/
theorem crs_aff (p q x : Pt) : ∃ a b c : Int, ∀ y, aff a b c y = crs p q x y := ⟨-(q.y - p.y), q.x - p.x, (q.y - p.y) * x.x - (q.x - p.x) * x.y, fun y => by unfold aff crs; grind⟩
/-- BEYOND A SIDE that has terms beyond it lies a cell with the same side, the other way round. -/
theorem beyond {L : List Tm} {C : List Int} (hC : C ∈ celA L) {i k : Nat} (hi : i < L.length) (hk : k < L.length) (hd : Dist L) (he : Edg (ptS L C) (pI L i) (pI L k)) (hr : ∃ t, t < L.length ∧ crs (pI L i) (pI L k) (pI L i) (pI L t) < 0) : ∃ C' ∈ celA L, Edg (ptS L C') (pI L k) (pI L i) := by
  have h := celA_g hC
  obtain ⟨T, al, be, ga, s⟩ := h.sup
  obtain ⟨a, b, c, hg⟩ := crs_aff (pI L k) (pI L i) (pI L i)
  have gr : ∀ y, aff a b c y = -crs (pI L i) (pI L k) (pI L i) y := fun y => by rw [hg]; unfold crs; grind
  obtain ⟨t0, ht0, hneg⟩ := hr
  obtain ⟨m, T', al', be', ga', hm, hgm, hl, key⟩ := turn_plane s.toLow a b c ⟨t0, ht0, by rw [gr]; omega⟩
  have mem : ∀ {t : Nat}, t < L.length → pI L t ∈ ptS L C → (t : Int) ∈ C := fun ht hm => by
    obtain ⟨u, hu, e⟩ := (ptS_mem h _).1 hm
    obtain ⟨u2, e2, hu2⟩ := h.idx _ hu
    have := hd _ u ht (by omega) e
    rw [this]
    exact hu
  have ci := (s.on i).1 (mem hi he.1)
  have ck := (s.on k).1 (mem hk he.2.1)
  have gi : aff a b c (pI L i) = 0 := by rw [hg]; unfold crs; grind
  have gk : aff a b c (pI L k) = 0 := by rw [hg]; unfold crs; grind
  have zi : slk L T' al' be' ga' i = 0 := by rw [key, ci.2, gi]; simp
  have zk : slk L T' al' be' ga' k = 0 := by rw [key, ck.2, gk]; simp
  have zm : slk L T' al' be' ga' m = 0 := by rw [key, Int.mul_comm]; omega
  have hturn : turnZ (pI L k) (pI L i) (pI L m) ≠ 0 := by
    show crs (pI L k) (pI L i) (pI L k) (pI L m) ≠ 0
    have e : crs (pI L k) (pI L i) (pI L k) (pI L m) = aff a b c (pI L m) := by rw [hg]; unfold crs; grind
    rw [e]
    omega
  obtain ⟨C', hC', hmem⟩ := cell_of3 hl hk hi hm zk zi zm hturn
  have h' := celA_g hC'
  -- the slack of the turned-to term is positive in the first plane
  have dm : 0 < slk L T al be ga m := by
    have h0 := s.toLow.low m hm
    rcases Int.lt_or_le 0 (slk L T al be ga m) with h1 | h1
    · exact h1
    · have hmC := (s.on m).2 ⟨hm, by omega⟩
      have := (he.2.2.2 _ ((ptS_mem h _).2 ⟨m, hmC, rfl⟩)).1
      rw [gr] at hgm
      omega
  refine ⟨C', hC', (ptS_mem h' _).2 ⟨k, (hmem k).2 ⟨hk, zk⟩, rfl⟩, (ptS_mem h' _).2 ⟨i, (hmem i).2 ⟨hi, zi⟩, rfl⟩, fun e => he.2.2.1 e.symm, fun x hx => ?_⟩
  obtain ⟨t, htC, rfl⟩ := (ptS_mem h' _).1 hx
  obtain ⟨htn, hts⟩ := (hmem t).1 htC
  rw [key] at hts
  have d0 := s.toLow.low t htn
  have e : crs (pI L k) (pI L i) (pI L k) (pI L t) = aff a b c (pI L t) := by rw [hg]; unfold crs; grind
  rw [e]
  have g0 : 0 ≤ aff a b c (pI L t) := by
    rcases Int.lt_or_le (aff a b c (pI L t)) 0 with h1 | h1
    · exfalso
      have e1 := Int.mul_nonneg (Int.le_of_lt hgm) d0
      have e2 := Int.mul_neg_of_pos_of_neg dm h1
      omega
    · exact h1
  refine ⟨g0, fun z => ?_⟩
  rw [z, Int.mul_zero, Int.sub_zero] at hts
  have hz : slk L T al be ga t = 0 := (Int.mul_eq_zero.1 hts).elim (fun e => by omega) id
  have htC2 := (s.on t).2 ⟨htn, hz⟩
  have hb := (he.2.2.2 _ ((ptS_mem h _).2 ⟨t, htC2, rfl⟩)).2 (by rw [gr] at z; omega)
  exact btw_symm hb

/-! ### there is a cell -/
theorem ex_low {L : List Tm} (h0 : 0 < L.length) : ∃ m ga, m < L.length ∧ Low L 1 0 0 ga ∧ slk L 1 0 0 ga m = 0 := by
  have : ∀ n, 0 < n → ∃ m, m < n ∧ ∀ t, t < n → (tmAt L m).c ≤ (tmAt L t).c := fun n => by
    induction n with
    | zero => intro h; omega
    | succ n ih =>
      intro _
      by_cases h : 0 < n
      · obtain ⟨m, hm, hl⟩ := ih h
        by_cases g : (tmAt L n).c < (tmAt L m).c
        · refine ⟨n, by omega, fun t ht => ?_⟩
          by_cases e : t = n
          · subst e; exact Int.le_refl _
          · have := hl t (by omega); omega
        · refine ⟨m, by omega, fun t ht => ?_⟩
          by_cases e : t = n
          · subst e; omega
          · exact hl t (by omega)
      · refine ⟨0, by omega, fun t ht => ?_⟩
        obtain rfl : t = 0 := by omega
        exact Int.le_refl _
  obtain ⟨m, hm, hl⟩ := this L.length h0
  refine ⟨m, (tmAt L m).c, hm, ⟨by omega, fun t ht => ?_⟩, ?_⟩
  · have := hl t ht
    unfold slk aff
    omega
  · unfold slk aff
    omega
/-- THERE IS A CELL where not all terms are on a line. -/
theorem ex_cell {L : List Tm} {i j k : Nat} (hi : i < L.length) (hj : j < L.length) (hk : k < L.length) (ht : turnZ (pI L i) (pI L j) (pI L k) ≠ 0) : ∃ C, C ∈ celA L := by
  obtain ⟨m0, ga0, hm0, hl0, z0⟩ := ex_low (L := L) (by omega)
  -- some term is at another point
  have hne : ∃ t, t < L.length ∧ pI L t ≠ pI L m0 := by
    rcases Classical.em (pI L i = pI L m0) with e1 | e1
    · rcases Classical.em (pI L j = pI L m0) with e2 | e2
      · exact absurd (by rw [e1, e2]; unfold turnZ; grind) ht
      · exact ⟨j, hj, e2⟩
    · exact ⟨i, hi, e1⟩
  obtain ⟨t1, ht1, hn1⟩ := hne
  have sq : ∀ x : Int, 0 ≤ x * x := fun x => by
    rcases Int.le_total 0 x with h | h
    · exact Int.mul_nonneg h h
    · exact Int.mul_nonneg_of_nonpos_of_nonpos h h
  have sqp : ∀ x : Int, x ≠ 0 → 0 < x * x := fun x h => by
    have := sq x
    have := Int.mul_ne_zero h h
    omega
  obtain ⟨a, b, c, hg⟩ : ∃ a b c : Int, ∀ y, aff a b c y = ((pI L t1).x - (pI L m0).x) * (y.x - (pI L m0).x) + ((pI L t1).y - (pI L m0).y) * (y.y - (pI L m0).y) := ⟨(pI L t1).x - (pI L m0).x, (pI L t1).y - (pI L m0).y, -(((pI L t1).x - (pI L m0).x) * (pI L m0).x + ((pI L t1).y - (pI L m0).y) * (pI L m0).y), fun y => by unfold aff; grind⟩
  have g1 : 0 < aff a b c (pI L t1) := by
    rw [hg]
    by_cases e : (pI L t1).x - (pI L m0).x = 0
    · have : (pI L t1).y - (pI L m0).y ≠ 0 := fun e2 => hn1 (pt_ext (by omega) (by omega))
      have := sqp _ this
      have := sq ((pI L t1).x - (pI L m0).x)
      omega
    · have := sqp _ e
      have := sq ((pI L t1).y - (pI L m0).y)
      omega
  have g0 : aff a b c (pI L m0) = 0 := by rw [hg]; grind
  obtain ⟨m1, T1, al1, be1, ga1, hm1, hgm1, hl1, key1⟩ := turn_plane hl0 a b c ⟨t1, ht1, g1⟩
  have z10 : slk L T1 al1 be1 ga1 m0 = 0 := by rw [key1, z0, g0]; simp
  have z11 : slk L T1 al1 be1 ga1 m1 = 0 := by rw [key1, Int.mul_comm]; omega
  have hne1 : pI L m0 ≠ pI L m1 := fun e => by rw [← e] at hgm1; omega
  -- some term is off the line of the two
  have hoff : ∃ t, t < L.length ∧ crs (pI L m0) (pI L m1) (pI L m0) (pI L t) ≠ 0 := by
    rcases Classical.em (∃ t, t < L.length ∧ crs (pI L m0) (pI L m1) (pI L m0) (pI L t) ≠ 0) with g | g
    · exact g
    · exfalso
      have z : ∀ t, t < L.length → crs (pI L m0) (pI L m1) (pI L m0) (pI L t) = 0 := fun t h => Classical.byContradiction fun h2 => g ⟨t, h, h2⟩
      exact ht (line_turn hne1 (z i hi) (z j hj) (z k hk))
  obtain ⟨t2, ht2, hn2⟩ := hoff
  obtain ⟨a2, b2, c2, hg2, hp2, hq2, hr2⟩ : ∃ a b c : Int, 0 < aff a b c (pI L t2) ∧ aff a b c (pI L m0) = 0 ∧ aff a b c (pI L m1) = 0 ∧ ∀ y, 0 < aff a b c y → crs (pI L m0) (pI L m1) (pI L m0) y ≠ 0 := by
    obtain ⟨a, b, c, h⟩ := crs_aff (pI L m0) (pI L m1) (pI L m0)
    have h0 : crs (pI L m0) (pI L m1) (pI L m0) (pI L m0) = 0 := by unfold crs; grind
    have h1 : crs (pI L m0) (pI L m1) (pI L m0) (pI L m1) = 0 := by unfold crs; grind
    rcases Int.lt_or_gt_of_ne hn2 with g | g
    · have hn : ∀ y, aff (-a) (-b) (-c) y = -aff a b c y := fun y => by unfold aff; grind
      refine ⟨-a, -b, -c, ?_, ?_, ?_, fun y hy => ?_⟩
      · rw [hn, h]; omega
      · rw [hn, h]; omega
      · rw [hn, h]; omega
      · rw [hn, h] at hy; omega
    · refine ⟨a, b, c, ?_, ?_, ?_, fun y hy => ?_⟩
      · rw [h]; omega
      · rw [h]; omega
      · rw [h]; omega
      · rw [h] at hy; omega
  obtain ⟨m2, T2, al2, be2, ga2, hm2, hgm2, hl2, key2⟩ := turn_plane hl1 a2 b2 c2 ⟨t2, ht2, hg2⟩
  have y0 : slk L T2 al2 be2 ga2 m0 = 0 := by rw [key2, z10, hp2]; simp
  have y1 : slk L T2 al2 be2 ga2 m1 = 0 := by rw [key2, z11, hq2]; simp
  have y2 : slk L T2 al2 be2 ga2 m2 = 0 := by rw [key2, Int.mul_comm]; omega
  obtain ⟨C, hC, _⟩ := cell_of3 hl2 hm0 hm1 hm2 y0 y1 y2 (hr2 _ hgm2)
  exact ⟨C, hC⟩
end Go.Proofs.YtcionneopgdebaaGreat

/-
  The directed sides of all cells: those inside cancel, those at the border lie on sides of the hull. Plain. By an AI agent.
-/
namespace Go.Proofs.YtcionneopgdebaaGreat
open Geo

/-! ### lists -/
theorem nodup_flat {α β : Type} {f : α → List β} : ∀ {l : List α}, l.Nodup → (∀ x ∈ l, (f x).Nodup) → (∀ x ∈ l, ∀ y ∈ l, ∀ a, a ∈ f x → a ∈ f y → x = y) → (l.flatMap f).Nodup
  | [], _, _, _ => by simp
  | x :: l, hn, hf, hd => by
    rw [List.nodup_cons] at hn
    rw [List.flatMap_cons, List.nodup_append]
    refine ⟨hf x (by simp), nodup_flat hn.2 (fun y hy => hf y (List.mem_cons_of_mem _ hy)) (fun y hy z hz => hd y (List.mem_cons_of_mem _ hy) z (List.mem_cons_of_mem _ hz)), fun a ha b hb e => ?_⟩
    subst e
    obtain ⟨y, hy, h2⟩ := List.mem_flatMap.1 hb
    have := hd x (by simp) y (List.mem_cons_of_mem _ hy) a ha h2
    subst this
    exact hn.1 hy
theorem sum_flat {α β : Type} (f : α → List β) (g : β → Int) : ∀ l : List α, ((l.flatMap f).map g).sum = (l.map fun x => ((f x).map g).sum).sum
  | [] => rfl
  | x :: l => by rw [List.flatMap_cons, List.map_append, List.sum_append, List.map_cons, List.sum_cons, sum_flat f g l]
theorem sum_split {α : Type} (g : α → Int) (p : α → Bool) : ∀ l : List α, (l.map g).sum = ((l.filter p).map g).sum + ((l.filter fun x => !p x).map g).sum
  | [] => rfl
  | x :: l => by
    have h := sum_split g p l
    rw [List.map_cons, List.sum_cons, h]
    cases hp : p x
    · rw [List.filter_cons_of_neg (by simp [hp]), List.filter_cons_of_pos (by simp [hp]), List.map_cons, List.sum_cons]
      omega
    · rw [List.filter_cons_of_pos (by simp [hp]), List.filter_cons_of_neg (by simp [hp]), List.map_cons, List.sum_cons]
      omega
theorem sum_one {α : Type} [DecidableEq α] (f : α → Int) (a : α) : ∀ {l : List α}, l.Nodup → a ∈ l → (l.map fun x => if x = a then f x else 0).sum = f a
  | [], _, h => by simp at h
  | x :: l, hn, h => by
    rw [List.nodup_cons] at hn
    rw [List.map_cons, List.sum_cons]
    by_cases e : x = a
    · subst e
      have : (l.map fun y => if y = x then f y else 0).sum = 0 := sum_none fun y hy => if_neg fun e => hn.1 (by rw [← e]; exact hy)
      rw [if_pos rfl, this]
      omega
    · have ha : a ∈ l := (List.mem_cons.1 h).elim (fun h => absurd h.symm e) id
      rw [if_neg e, sum_one f a hn.2 ha]
      omega
/-- a sum in parts, each number in just one. -/
theorem sum_parts {α β : Type} [DecidableEq β] (f : α → Int) (on : β → α → Bool) {S : List β} (hS : S.Nodup) : ∀ {B : List α}, (∀ e ∈ B, ∃ s ∈ S, on s e = true ∧ ∀ s' ∈ S, on s' e = true → s' = s) → (B.map f).sum = (S.map fun s => ((B.filter (on s)).map f).sum).sum
  | [], _ => by
    exact (sum_none fun s _ => rfl).symm
  | e :: B, h => by
    have ih := sum_parts f on hS (B := B) fun x hx => h x (List.mem_cons_of_mem _ hx)
    obtain ⟨s0, hs0, ho, hu⟩ := h e (by simp)
    have step : ∀ s ∈ S, (((e :: B).filter (on s)).map f).sum = (if s = s0 then f e else 0) + ((B.filter (on s)).map f).sum := fun s hs => by
      by_cases g : on s e = true
      · rw [List.filter_cons_of_pos g, List.map_cons, List.sum_cons, if_pos (hu s hs g)]
      · rw [List.filter_cons_of_neg g, if_neg fun e2 => g (by rw [e2]; exact ho)]
        omega
    rw [sum_congr step, sum_add, List.map_cons, List.sum_cons, ih, sum_one (fun _ => f e) s0 hS hs0]

/-! ### the sides of all cells -/
def swE (e : Pt × Pt) : Pt × Pt := (e.2, e.1)
def dsd (L : List Tm) : List (Pt × Pt) := (celA L).flatMap fun C => sidesF (hulX L C)
theorem dsd_mem {L : List Tm} {p q : Pt} : (p, q) ∈ dsd L ↔ ∃ C ∈ celA L, Edg (ptS L C) p q := by
  unfold dsd
  rw [List.mem_flatMap]
  constructor
  · rintro ⟨C, hC, h⟩; exact ⟨C, hC, ((cell_sides (celA_g hC)).2 p q).1 h⟩
  · rintro ⟨C, hC, h⟩; exact ⟨C, hC, ((cell_sides (celA_g hC)).2 p q).2 h⟩
theorem cell_sameP {L : List Tm} (hd : Dist L) {C C' : List Int} (hC : C ∈ celA L) (hC' : C' ∈ celA L) {p q : Pt} (h : Edg (ptS L C) p q) (h' : Edg (ptS L C') p q) : C = C' := by
  obtain ⟨i, k, _, _, hi, hk, rfl, rfl⟩ := edg_ix (celA_g hC) h
  exact cell_same (celA_g hC) (celA_g hC') hi hk hd h h'
theorem dsd_nodup {L : List Tm} (hd : Dist L) : (dsd L).Nodup := by
  refine nodup_flat ?_ (fun C hC => (cell_sides (celA_g hC)).1) fun C hC C' hC' e h1 h2 => ?_
  · exact List.Pairwise.imp (fun {a b} h e => by subst e; rw [LstSort.lt_irrefl] at h; exact absurd h (by simp)) (show LstSort.Strict (celA L) from LstSort.putF_strict _)
  · obtain ⟨p, q⟩ := e
    exact cell_sameP hd hC hC' (((cell_sides (celA_g hC)).2 p q).1 h1) (((cell_sides (celA_g hC')).2 p q).1 h2)
theorem dsd_loop (L : List Tm) (F : Pt → Int) : ((dsd L).map fun e => F e.2 - F e.1).sum = 0 := by
  unfold dsd
  rw [sum_flat]
  exact sum_none fun C _ => loop F _
theorem dsd_area (L : List Tm) : ((dsd L).map fun e => crz e.1 e.2).sum = ((celA L).map fun C => areaP (hulX L C)).sum := by
  unfold dsd
  rw [sum_flat]
  refine sum_congr fun C _ => ?_
  rw [areaP_sides]
  rfl
/-- the sides that have no cell beyond. -/
def bdr (L : List Tm) : List (Pt × Pt) := (dsd L).filter fun e => !decide (swE e ∈ dsd L)
theorem bdr_sum {L : List Tm} (hd : Dist L) (g : Pt × Pt → Int) (hg : ∀ e, g (swE e) = -g e) : ((dsd L).map g).sum = ((bdr L).map g).sum := by
  rw [sum_split g (fun e => decide (swE e ∈ dsd L)) (dsd L)]
  have hI : (((dsd L).filter fun e => decide (swE e ∈ dsd L)).map g).sum = 0 := by
    generalize hI : (dsd L).filter (fun e => decide (swE e ∈ dsd L)) = I
    have hn : I.Nodup := by rw [← hI]; exact (dsd_nodup hd).filter _
    have hm : ∀ e, e ∈ I ↔ e ∈ dsd L ∧ swE e ∈ dsd L := fun e => by rw [← hI, List.mem_filter, decide_eq_true_eq]
    have hsw : ∀ e, swE (swE e) = e := fun e => rfl
    have h1 : ((I.map swE).map g).sum = (I.map g).sum := by
      refine nodup_sum g (nodup_mapS hn fun x _ y _ e => by rw [← hsw x, e]; rfl) hn fun x => ?_
      rw [List.mem_map]
      constructor
      · rintro ⟨y, hy, rfl⟩
        rw [hm] at hy ⊢
        exact ⟨hy.2, hy.1⟩
      · intro hx
        refine ⟨swE x, ?_, rfl⟩
        rw [hm] at hx ⊢
        exact ⟨hx.2, hx.1⟩
    rw [List.map_map] at h1
    have h2 : (I.map (g ∘ swE)).sum = -(I.map g).sum := by
      have : (I.map (g ∘ swE)).sum = (I.map fun e => (-1) * g e).sum := sum_congr fun e _ => by show g (swE e) = _; rw [hg]; omega
      rw [this, sum_mul]
      omega
    omega
  rw [hI]
  show 0 + _ = _
  rw [Int.zero_add]
  rfl
theorem bdr_loop {L : List Tm} (hd : Dist L) (F : Pt → Int) : ((bdr L).map fun e => F e.2 - F e.1).sum = 0 := by
  rw [← bdr_sum hd (fun e => F e.2 - F e.1) (fun e => by unfold swE; simp only; omega), dsd_loop]
theorem bdr_in {L : List Tm} {e : Pt × Pt} (h : e ∈ bdr L) : e ∈ dsd L ∧ swE e ∉ dsd L := by
  unfold bdr at h
  rw [List.mem_filter] at h
  exact ⟨h.1, by simpa using h.2⟩
theorem bdr_nodup {L : List Tm} (hd : Dist L) : (bdr L).Nodup := (dsd_nodup hd).filter _
/-- all terms lie left of a side at the border. -/
theorem bdr_left {L : List Tm} (hd : Dist L) {e : Pt × Pt} (h : e ∈ bdr L) {t : Nat} (ht : t < L.length) : 0 ≤ crs e.1 e.2 e.1 (pI L t) := by
  obtain ⟨h1, h2⟩ := bdr_in h
  obtain ⟨p, q⟩ := e
  obtain ⟨C, hC, he⟩ := dsd_mem.1 h1
  rcases Int.lt_or_le (crs p q p (pI L t)) 0 with g | g
  · exfalso
    obtain ⟨i, k, _, _, hi, hk, rfl, rfl⟩ := edg_ix (celA_g hC) he
    obtain ⟨C', hC', he'⟩ := beyond hC hi hk hd he ⟨t, ht, g⟩
    exact h2 (dsd_mem.2 ⟨C', hC', he'⟩)
  · exact g

/-! ### the sides of the hull -/
def ptA (L : List Tm) : List Pt := pySortF (ptsL L L.length)
def hulA (L : List Tm) : List Pt := hullF (ptA L)
theorem ptA_mem {L : List Tm} (p : Pt) : p ∈ ptA L ↔ ∃ t : Nat, t < L.length ∧ p = pI L t := by
  unfold ptA
  rw [pySortF_mem]
  constructor
  · intro h
    obtain ⟨t, ht, rfl⟩ := List.getElem_of_mem h
    rw [ptsL_len] at ht
    refine ⟨t, ht, ?_⟩
    have := ptsL_at L ht
    rw [List.getD_eq_getElem?_getD, List.getElem?_eq_getElem (by rw [ptsL_len]; exact ht)] at this
    exact this
  · rintro ⟨t, ht, rfl⟩
    have := ptsL_at L ht
    rw [List.getD_eq_getElem?_getD, List.getElem?_eq_getElem (by rw [ptsL_len]; exact ht)] at this
    have h2 : (ptsL L L.length)[t]'(by rw [ptsL_len]; exact ht) = pI L t := this
    rw [← h2]
    exact List.getElem_mem _
/-- not all points are on a line. -/
def Wide (X : List Pt) : Prop := ∃ a ∈ X, ∃ b ∈ X, ∃ c ∈ X, turnZ a b c ≠ 0
theorem wide_of {L : List Tm} {C : List Int} (hC : C ∈ celA L) : Wide (ptA L) := by
  have h := celA_g hC
  obtain ⟨a, b, c, ha, hb, hc, ht⟩ := h.tri
  have ix : ∀ x : Nat, (x : Int) ∈ C → x < L.length := fun x hx => by obtain ⟨t, e, ht⟩ := h.idx _ hx; omega
  exact ⟨_, (ptA_mem _).2 ⟨a, ix a ha, rfl⟩, _, (ptA_mem _).2 ⟨b, ix b hb, rfl⟩, _, (ptA_mem _).2 ⟨c, ix c hc, rfl⟩, ht⟩
theorem wide_one {X : List Pt} (h : Wide X) : ∀ p q : Pt, Edg X p q → Edg X q p → False := fun p q h1 h2 => by
  obtain ⟨a, ha, b, hb, c, hc, ht⟩ := h
  have z : ∀ x ∈ X, crs p q p x = 0 := fun x hx => by
    have e1 := (h1.2.2.2 x hx).1
    have e2 := (h2.2.2.2 x hx).1
    rw [crs_back] at e2
    omega
  exact ht (line_turn h1.2.2.1 (z a ha) (z b hb) (z c hc))
theorem wide_two {X : List Pt} (h : Wide X) : 2 ≤ X.length := by
  obtain ⟨a, ha, b, hb, c, hc, ht⟩ := h
  exact two_of_ne ha hb fun e => ht (by rw [e]; exact (turn_at _ _).2.1)
/-- two sides of the hull with two points in common are one. -/
theorem side_uniq {X : List Pt} (hn : ∀ p q : Pt, Edg X p q → Edg X q p → False) {p q p' q' u v : Pt} (he : Edg X p q) (he' : Edg X p' q') (hu : u ∈ X) (hv : v ∈ X) (huv : u ≠ v) (h1 : crs p q p u = 0) (h2 : crs p q p v = 0) (h3 : crs p' q' p' u = 0) (h4 : crs p' q' p' v = 0) : p' = p ∧ q' = q := by
  by_cases a1 : u = p ∨ u = q
  · by_cases a2 : v = p ∨ v = q
    · by_cases a3 : u = p' ∨ u = q'
      · by_cases a4 : v = p' ∨ v = q'
        · have hc : (p' = p ∧ q' = q) ∨ (p' = q ∧ q' = p) := by
            rcases a1 with a1 | a1 <;> rcases a2 with a2 | a2 <;> rcases a3 with a3 | a3 <;> rcases a4 with a4 | a4 <;> first
              | exact absurd (a1.trans a2.symm) huv
              | exact absurd (a3.trans a4.symm) huv
              | exact Or.inl ⟨a3.symm.trans a1, a4.symm.trans a2⟩
              | exact Or.inl ⟨a4.symm.trans a2, a3.symm.trans a1⟩
              | exact Or.inr ⟨a3.symm.trans a1, a4.symm.trans a2⟩
              | exact Or.inr ⟨a4.symm.trans a2, a3.symm.trans a1⟩
          rcases hc with h | ⟨h1, h2⟩
          · exact h
          · rw [h1, h2] at he'
            exact absurd he' fun g => hn _ _ he g
        · obtain ⟨e1, e2⟩ := in_two hn he' he hv h4 h2 (fun e => a4 (Or.inl e)) (fun e => a4 (Or.inr e))
          exact ⟨e1.symm, e2.symm⟩
      · obtain ⟨e1, e2⟩ := in_two hn he' he hu h3 h1 (fun e => a3 (Or.inl e)) (fun e => a3 (Or.inr e))
        exact ⟨e1.symm, e2.symm⟩
    · exact in_two hn he he' hv h2 h4 (fun e => a2 (Or.inl e)) (fun e => a2 (Or.inr e))
  · exact in_two hn he he' hu h1 h3 (fun e => a1 (Or.inl e)) (fun e => a1 (Or.inr e))
/-- each side at the border lies on a side of the hull. -/
theorem bdr_face {L : List Tm} (hd : Dist L) {e : Pt × Pt} (h : e ∈ bdr L) : e.1 ∈ ptA L ∧ e.2 ∈ ptA L ∧ e.1 ≠ e.2 ∧ ∃ p s, Edg (ptA L) p s ∧ crs p s p e.1 = 0 ∧ crs p s p e.2 = 0 ∧ Dirs e.1 e.2 p s := by
  obtain ⟨h1, _⟩ := bdr_in h
  have hl : ∀ x ∈ ptA L, 0 ≤ crs e.1 e.2 e.1 x := fun x hx => by
    obtain ⟨t, ht, rfl⟩ := (ptA_mem x).1 hx
    exact bdr_left hd h ht
  obtain ⟨a, b⟩ := e
  obtain ⟨C, hC, he⟩ := dsd_mem.1 h1
  have hne := he.2.2.1
  have hin : ∀ x ∈ ptS L C, x ∈ ptA L := fun x hx => by
    obtain ⟨t, ht, rfl⟩ := (ptS_mem (celA_g hC) x).1 hx
    obtain ⟨t2, e2, ht2⟩ := (celA_g hC).idx _ ht
    exact (ptA_mem _).2 ⟨t, by omega, rfl⟩
  have ha := hin _ he.1
  have hb := hin _ he.2.1
  simp only at hl ⊢
  obtain ⟨p, s, hf⟩ := ex_face (ptA L) (fun e => by rw [e] at ha; simp at ha) hne
  have k1 := (hf.2.2.2.2.2 a ha).1
  have k2 := hl p hf.1
  have e1 : crs a b p a = 0 := by have : crs a b p a = -crs a b a p := by unfold crs; grind
                                  omega
  have e2 : crs a b p b = 0 := by have : crs a b p b = crs a b p a := by unfold crs; grind
                                  omega
  have b1 := (hf.2.2.2.2.2 a ha).2 e1
  have b2 := (hf.2.2.2.2.2 b hb).2 e2
  have hps : p ≠ s := fun e => by
    subst e
    have q : ∀ x, Btw p x p → x = p := fun x hx => hx.elim (fun h => le_as h.2 h.1) (fun h => le_as h.2 h.1)
    exact hne (by rw [q a b1, q b b2])
  have hD := face_dirs hne hf hps
  refine ⟨ha, hb, hne, p, s, face_edg hne hf hps, ?_, ?_, hD⟩
  · exact (par_zero hD p a).1 e1
  · exact (par_zero hD p b).1 e2
end Go.Proofs.YtcionneopgdebaaGreat

/-
  The areas of all cells are together that of the hull. Plain. By an AI agent.
-/
namespace Go.Proofs.YtcionneopgdebaaGreat
open Geo

/-- a side lies on the line of another. -/
def onL (s e : Pt × Pt) : Bool := decide (crs s.1 s.2 s.1 e.1 = 0 ∧ crs s.1 s.2 s.1 e.2 = 0)
theorem onL_t {s e : Pt × Pt} : onL s e = true ↔ crs s.1 s.2 s.1 e.1 = 0 ∧ crs s.1 s.2 s.1 e.2 = 0 := decide_eq_true_iff
theorem hulA_sides {L : List Tm} (hw : Wide (ptA L)) : (sidesF (hulA L)).Nodup ∧ ∀ a b, (a, b) ∈ sidesF (hulA L) ↔ Edg (ptA L) a b := hull_sides (pySortF_strict _) (wide_two hw)
/-- each side at the border lies on just one side of the hull. -/
theorem bdr_one {L : List Tm} (hd : Dist L) (hw : Wide (ptA L)) {e : Pt × Pt} (h : e ∈ bdr L) : ∃ s ∈ sidesF (hulA L), onL s e = true ∧ ∀ s' ∈ sidesF (hulA L), onL s' e = true → s' = s := by
  obtain ⟨m1, m2, hne, p, s, he, z1, z2, _⟩ := bdr_face hd h
  refine ⟨(p, s), ((hulA_sides hw).2 p s).2 he, onL_t.2 ⟨z1, z2⟩, fun s' hs' ho => ?_⟩
  obtain ⟨p', q'⟩ := s'
  obtain ⟨z3, z4⟩ := onL_t.1 ho
  obtain ⟨e1, e2⟩ := side_uniq (wide_one hw) he (((hulA_sides hw).2 p' q').1 hs') m1 m2 hne z1 z2 z3 z4
  rw [e1, e2]
/-- the sides at the border on a side of the hull. -/
def bdo (L : List Tm) (s : Pt × Pt) : List (Pt × Pt) := (bdr L).filter (onL s)
def ind (y x : Pt) : Int := if x = y then 1 else 0
/-- how often a side of the hull is made up. -/
def bet (L : List Tm) (s : Pt × Pt) : Int := ((bdo L s).map fun e => ind s.2 e.2 - ind s.2 e.1).sum
theorem sum_sub {α : Type} (f g : α → Int) : ∀ l : List α, (l.map fun x => f x - g x).sum = (l.map f).sum - (l.map g).sum
  | [] => rfl
  | x :: l => by simp only [List.map_cons, List.sum_cons]; rw [sum_sub f g l]; omega
theorem bet_sum {L : List Tm} (hd : Dist L) (hw : Wide (ptA L)) {s : Pt × Pt} (hs : s ∈ sidesF (hulA L)) (F : Pt → Int) : ((bdo L s).map fun e => F e.2 - F e.1).sum = bet L s * (F s.2 - F s.1) := by
  obtain ⟨a, b⟩ := s
  have he := ((hulA_sides hw).2 a b).1 hs
  have hab := he.2.2.1
  -- what is made up of the numbers at both ends
  have main : ∀ F : Pt → Int, ((bdo L (a, b)).map fun e => F e.2 - F e.1).sum + (((bdr L).filter fun e => !onL (a, b) e).map fun e => (F a * (ind a e.2 - ind a e.1) + F b * (ind b e.2 - ind b e.1))).sum = 0 := fun F => by
    have h := bdr_loop hd fun x => if crs a b a x = 0 then F x else 0
    rw [sum_split _ (onL (a, b)) (bdr L)] at h
    rw [← h]
    congr 1
    · refine sum_congr fun e hm => ?_
      obtain ⟨_, ho⟩ := List.mem_filter.1 hm
      obtain ⟨z1, z2⟩ := onL_t.1 ho
      have z1 : crs a b a e.1 = 0 := z1
      have z2 : crs a b a e.2 = 0 := z2
      rw [if_pos z1, if_pos z2]
    · refine sum_congr fun e hm => ?_
      obtain ⟨hb, ho⟩ := List.mem_filter.1 hm
      have ho : onL (a, b) e = false := by simpa using ho
      obtain ⟨m1, m2, hne, p, q, he', z1, z2, _⟩ := bdr_face hd hb
      -- a point of another side on this line is an end
      have key : ∀ x ∈ ptA L, crs p q p x = 0 → (if crs a b a x = 0 then F x else 0) = F a * ind a x + F b * ind b x := fun x hx hz => by
        unfold ind
        by_cases g : crs a b a x = 0
        · rw [if_pos g]
          have hx2 : x = a ∨ x = b := Classical.byContradiction fun hn => by
            obtain ⟨e1, e2⟩ := in_two (wide_one hw) he he' hx g hz (fun e => hn (Or.inl e)) (fun e => hn (Or.inr e))
            subst e1; subst e2
            rw [onL_t.2 ⟨z1, z2⟩] at ho
            exact absurd ho (by simp)
          rcases hx2 with rfl | rfl
          · rw [if_pos rfl, if_neg hab]; omega
          · rw [if_pos rfl, if_neg fun e => hab e.symm]; omega
        · rw [if_neg g, if_neg fun e => g (by rw [e]; unfold crs; grind), if_neg fun e => g (by rw [e]; unfold crs; grind)]
          omega
      rw [key _ m1 z1, key _ m2 z2]
      grind
  have eq : ∀ F : Pt → Int, (((bdr L).filter fun e => !onL (a, b) e).map fun e => (F a * (ind a e.2 - ind a e.1) + F b * (ind b e.2 - ind b e.1))).sum = F a * (((bdr L).filter fun e => !onL (a, b) e).map fun e => (ind a e.2 - ind a e.1)).sum + F b * (((bdr L).filter fun e => !onL (a, b) e).map fun e => (ind b e.2 - ind b e.1)).sum := fun F => by
    rw [sum_add, sum_mul, sum_mul]
  generalize hA : (((bdr L).filter fun e => !onL (a, b) e).map fun e => (ind a e.2 - ind a e.1)).sum = A at eq
  generalize hB : (((bdr L).filter fun e => !onL (a, b) e).map fun e => (ind b e.2 - ind b e.1)).sum = B at eq
  have m1 := main fun _ => 1
  have e1 := eq fun _ => 1
  rw [e1, sum_none fun e _ => Int.sub_self _] at m1
  have m2 := main (ind b)
  rw [eq] at m2
  have i1 : ind b a = 0 := if_neg hab
  have i2 : ind b b = 1 := if_pos rfl
  rw [i1, i2] at m2
  have hbt : bet L (a, b) = -B := by
    unfold bet
    show ((bdo L (a, b)).map fun e => ind b e.2 - ind b e.1).sum = -B
    omega
  have m3 := main F
  rw [eq] at m3
  rw [hbt]
  have hAB : A = -B := by omega
  rw [hAB] at m3
  show _ = -B * (F b - F a)
  grind

/-! ### the same number at all sides of the hull -/
theorem bet_loop {L : List Tm} (hd : Dist L) (hw : Wide (ptA L)) (F : Pt → Int) : ((sidesF (hulA L)).map fun s => bet L s * (F s.2 - F s.1)).sum = 0 := by
  have h := sum_parts (fun e => F e.2 - F e.1) onL (hulA_sides hw).1 (B := bdr L) fun e he => bdr_one hd hw he
  rw [bdr_loop hd] at h
  rw [h]
  exact sum_congr fun s hs => (bet_sum hd hw hs F).symm
theorem sum_key {α : Type} [DecidableEq α] {l : List α} (hn : l.Nodup) (f : α → Int) (k : α → Pt) {a : α} (ha : a ∈ l) (hk : ∀ x ∈ l, k x = k a → x = a) : (l.map fun x => f x * ind (k a) (k x)).sum = f a := by
  rw [← sum_one f a hn ha]
  refine sum_congr fun x hx => ?_
  unfold ind
  by_cases e : x = a
  · subst e; rw [if_pos rfl, if_pos rfl]; omega
  · rw [if_neg fun h => e (hk x hx h), if_neg e]; omega
theorem nodup_key {α β : Type} {f : α → β} : ∀ {l : List α}, (l.map f).Nodup → ∀ x ∈ l, ∀ y ∈ l, f x = f y → x = y
  | [], _, x, hx, _, _, _ => by simp at hx
  | a :: l, h, x, hx, y, hy, e => by
    rw [List.map_cons, List.nodup_cons] at h
    rcases List.mem_cons.1 hx with e1 | hx2
    · rcases List.mem_cons.1 hy with e2 | hy2
      · rw [e1, e2]
      · exact absurd (by rw [← e1, e]; exact List.mem_map.2 ⟨y, hy2, rfl⟩) h.1
    · rcases List.mem_cons.1 hy with e2 | hy2
      · exact absurd (by rw [← e2, ← e]; exact List.mem_map.2 ⟨x, hx2, rfl⟩) h.1
      · exact nodup_key h.2 x hx2 y hy2 e
theorem hulA_keys {L : List Tm} : (∀ x ∈ sidesF (hulA L), ∀ y ∈ sidesF (hulA L), x.1 = y.1 → x = y) ∧ (∀ x ∈ sidesF (hulA L), ∀ y ∈ sidesF (hulA L), x.2 = y.2 → x = y) := by
  have hn : (hulA L).Nodup := hull_nodup (pySortF_strict _)
  generalize hulA L = H at hn ⊢
  constructor
  · exact nodup_key (f := Prod.fst) (by rw [sides_fst]; exact hn)
  · refine nodup_key (f := Prod.snd) ?_
    cases H with
    | nil => simp [sidesF, prs]
    | cons a l =>
      rw [sides_snd]
      rw [List.nodup_cons] at hn
      rw [List.nodup_append]
      exact ⟨hn.2, by simp, fun x hx y hy e => by
        rw [List.mem_singleton] at hy
        subst hy; subst e
        exact hn.1 hx⟩
theorem bet_next {L : List Tm} (hd : Dist L) (hw : Wide (ptA L)) {s s' : Pt × Pt} (hs : s ∈ sidesF (hulA L)) (hs' : s' ∈ sidesF (hulA L)) (h : s.2 = s'.1) : bet L s = bet L s' := by
  have h0 := bet_loop hd hw (ind s.2)
  have hk := hulA_keys (L := L)
  have e : ((sidesF (hulA L)).map fun x => bet L x * (ind s.2 x.2 - ind s.2 x.1)).sum = ((sidesF (hulA L)).map fun x => bet L x * ind s.2 x.2).sum - ((sidesF (hulA L)).map fun x => bet L x * ind s.2 x.1).sum := by
    rw [← sum_sub]
    exact sum_congr fun x _ => by grind
  rw [e] at h0
  have e1 := sum_key (hulA_sides hw).1 (bet L) Prod.snd hs fun x hx hxy => hk.2 x hx s hs hxy
  have e2 := sum_key (hulA_sides hw).1 (bet L) Prod.fst hs' fun x hx hxy => hk.1 x hx s' hs' hxy
  rw [← h] at e2
  rw [e1, e2] at h0
  omega
theorem bet_all {L : List Tm} (hd : Dist L) (hw : Wide (ptA L)) : ∃ c : Int, ∀ s ∈ sidesF (hulA L), bet L s = c := by
  have side : ∀ i, i < (hulA L).length → ((hulA L).getD i default, nextP (hulA L) i) ∈ sidesF (hulA L) := fun i hi => by
    have h3 : i < (sidesF (hulA L)).length := by rw [sides_len]; exact hi
    rw [← sides_get _ i hi]
    exact List.getElem_mem h3
  refine ⟨bet L ((hulA L).getD 0 default, nextP (hulA L) 0), fun s hs => ?_⟩
  obtain ⟨i, hi, rfl⟩ := List.getElem_of_mem hs
  have hi2 : i < (hulA L).length := by rw [sides_len] at hi; exact hi
  rw [sides_get _ i hi2]
  clear hs hi
  induction i with
  | zero => rfl
  | succ i ih =>
    rw [← ih (by omega)]
    refine (bet_next hd hw (side i (by omega)) (side (i + 1) hi2) ?_).symm
    show nextP (hulA L) i = (hulA L).getD (i + 1) default
    unfold nextP
    rw [Nat.mod_eq_of_lt hi2]

/-! ### just once -/
theorem dirs_dot {a q q' : Pt} (h : crs a q a q' = 0) (hd : (ltPt a q = true ∧ ltPt a q' = true) ∨ (ltPt q a = true ∧ ltPt q' a = true)) : 0 < (q.x - a.x) * (q'.x - a.x) + (q.y - a.y) * (q'.y - a.y) := by
  obtain ⟨u1, hu1⟩ : ∃ z, q.x - a.x = z := ⟨_, rfl⟩
  obtain ⟨u2, hu2⟩ : ∃ z, q.y - a.y = z := ⟨_, rfl⟩
  obtain ⟨v1, hv1⟩ : ∃ z, q'.x - a.x = z := ⟨_, rfl⟩
  obtain ⟨v2, hv2⟩ : ∃ z, q'.y - a.y = z := ⟨_, rfl⟩
  unfold crs at h
  rw [hu1, hu2, hv1, hv2] at h
  rw [hu1, hu2, hv1, hv2]
  have core : ∀ u1 u2 v1 v2 : Int, u1 * v2 - u2 * v1 = 0 → (0 < u1 ∨ (u1 = 0 ∧ 0 < u2)) → (0 < v1 ∨ (v1 = 0 ∧ 0 < v2)) → 0 < u1 * v1 + u2 * v2 := fun u1 u2 v1 v2 h hu hv => by
    rcases hu with hu | ⟨rfl, hu⟩
    · rcases hv with hv | ⟨rfl, hv⟩
      · have p1 := Int.mul_pos hu hv
        have p2 : 0 ≤ u2 * v2 := by
          -- u1 v2 = u2 v1: same signs
          rcases Int.lt_or_le u2 0 with g | g
          · have n1 := Int.mul_neg_of_neg_of_pos g hv
            have n2 : v2 < 0 := by
              rcases Int.lt_or_le v2 0 with k | k
              · exact k
              · have := Int.mul_nonneg (Int.le_of_lt hu) k; omega
            exact Int.mul_nonneg_of_nonpos_of_nonpos (Int.le_of_lt g) (Int.le_of_lt n2)
          · have n1 := Int.mul_nonneg g (Int.le_of_lt hv)
            have n2 : 0 ≤ v2 := by
              rcases Int.lt_or_le v2 0 with k | k
              · have := Int.mul_neg_of_pos_of_neg hu k; omega
              · exact k
            exact Int.mul_nonneg g n2
        omega
      · have := Int.mul_pos hu hv
        simp at h
        omega
    · rcases hv with hv | ⟨rfl, hv⟩
      · have := Int.mul_pos hu hv
        simp at h
        omega
      · have := Int.mul_pos hu hv
        omega
  simp only [lt_iff] at hd
  rcases hd with ⟨h1, h2⟩ | ⟨h1, h2⟩
  · exact core u1 u2 v1 v2 h (by omega) (by omega)
  · have := core (-u1) (-u2) (-v1) (-v2) (by grind) (by omega) (by omega)
    grind
theorem aff_par {al be ga : Int} {a q q' : Pt} (h0 : aff al be ga a = 0) (h : crs a q a q' = 0) (hp : 0 < (q.x - a.x) * (q'.x - a.x) + (q.y - a.y) * (q'.y - a.y)) (hne : q ≠ a) (h1 : 0 ≤ aff al be ga q) (h2 : aff al be ga q' ≤ 0) : aff al be ga q = 0 ∧ aff al be ga q' = 0 := by
  have e : aff al be ga q * ((q.x - a.x) * (q'.x - a.x) + (q.y - a.y) * (q'.y - a.y)) = aff al be ga q' * ((q.x - a.x) * (q.x - a.x) + (q.y - a.y) * (q.y - a.y)) := by
    unfold aff crs at *
    have e1 : al * q.x + be * q.y + ga = al * (q.x - a.x) + be * (q.y - a.y) := by grind
    have e2 : al * q'.x + be * q'.y + ga = al * (q'.x - a.x) + be * (q'.y - a.y) := by grind
    rw [e1, e2]
    grind
  have sq : ∀ x : Int, 0 ≤ x * x := fun x => by
    rcases Int.le_total 0 x with h | h
    · exact Int.mul_nonneg h h
    · exact Int.mul_nonneg_of_nonpos_of_nonpos h h
  have hq : 0 < (q.x - a.x) * (q.x - a.x) + (q.y - a.y) * (q.y - a.y) := by
    have a1 := sq (q.x - a.x)
    have a2 := sq (q.y - a.y)
    rcases Int.lt_or_le 0 ((q.x - a.x) * (q.x - a.x) + (q.y - a.y) * (q.y - a.y)) with g | g
    · exact g
    · exfalso
      have z1 : (q.x - a.x) * (q.x - a.x) = 0 := by omega
      have z2 : (q.y - a.y) * (q.y - a.y) = 0 := by omega
      have y1 : q.x - a.x = 0 := (Int.mul_eq_zero.1 z1).elim id id
      have y2 : q.y - a.y = 0 := (Int.mul_eq_zero.1 z2).elim id id
      exact hne (pt_ext (by omega) (by omega))
  generalize (q.x - a.x) * (q'.x - a.x) + (q.y - a.y) * (q'.y - a.y) = P at e hp
  generalize (q.x - a.x) * (q.x - a.x) + (q.y - a.y) * (q.y - a.y) = Q at e hq
  have n1 := Int.mul_nonneg h1 (Int.le_of_lt hp)
  have n2 := Int.mul_nonneg (show 0 ≤ -aff al be ga q' by omega) (Int.le_of_lt hq)
  rw [Int.neg_mul] at n2
  have z1 : aff al be ga q * P = 0 := by omega
  have z2 : aff al be ga q' * Q = 0 := by omega
  exact ⟨(Int.mul_eq_zero.1 z1).elim id fun e => by omega, (Int.mul_eq_zero.1 z2).elim id fun e => by omega⟩
/-- two sides of cells from one point in one direction are one. -/
theorem dsd_uniq {L : List Tm} (hd : Dist L) {a q q' : Pt} (h1 : (a, q) ∈ dsd L) (h2 : (a, q') ∈ dsd L) (hz : crs a q a q' = 0) (hdir : (ltPt a q = true ∧ ltPt a q' = true) ∨ (ltPt q a = true ∧ ltPt q' a = true)) : q = q' := by
  obtain ⟨C, hC, he⟩ := dsd_mem.1 h1
  obtain ⟨C', hC', he'⟩ := dsd_mem.1 h2
  have h := celA_g hC
  have h' := celA_g hC'
  obtain ⟨i, k, mi, mk, hi, hk, rfl, rfl⟩ := edg_ix h he
  obtain ⟨i', k', mi', mk', hi', hk', e1, rfl⟩ := edg_ix h' he'
  obtain rfl := hd _ _ hi hi' e1
  obtain ⟨T, al, be, ga, s⟩ := h.sup
  obtain ⟨T', al', be', ga', s'⟩ := h'.sup
  have p1 := s.pos
  have p2 := s'.pos
  have G : ∀ p, aff (T' * al - T * al') (T' * be - T * be') (T' * ga - T * ga') p = T' * aff al be ga p - T * aff al' be' ga' p := fun p => by unfold aff; grind
  have A : ∀ t : Nat, aff al be ga (pI L t) = T * (tmAt L t).c - slk L T al be ga t := fun t => by unfold slk; omega
  have A' : ∀ t : Nat, aff al' be' ga' (pI L t) = T' * (tmAt L t).c - slk L T' al' be' ga' t := fun t => by unfold slk; omega
  have GS : ∀ t : Nat, aff (T' * al - T * al') (T' * be - T * be') (T' * ga - T * ga') (pI L t) = T * slk L T' al' be' ga' t - T' * slk L T al be ga t := fun t => by rw [G, A, A']; grind
  have zi := ((s.on i).1 mi).2
  have zk := ((s.on k).1 mk).2
  have zi' := ((s'.on i).1 mi').2
  have zk' := ((s'.on k').1 mk').2
  have g0 : aff (T' * al - T * al') (T' * be - T * be') (T' * ga - T * ga') (pI L i) = 0 := by rw [GS, zi, zi']; simp
  have g1 : 0 ≤ aff (T' * al - T * al') (T' * be - T * be') (T' * ga - T * ga') (pI L k) := by
    rw [GS, zk]
    have := Int.mul_nonneg (Int.le_of_lt p1) (s'.toLow.low k hk)
    omega
  have g2 : aff (T' * al - T * al') (T' * be - T * be') (T' * ga - T * ga') (pI L k') ≤ 0 := by
    rw [GS, zk']
    have := Int.mul_nonneg (Int.le_of_lt p2) (s.toLow.low k' hk')
    omega
  obtain ⟨y1, y2⟩ := aff_par g0 hz (dirs_dot hz hdir) (fun e => he.2.2.1 e.symm) g1 g2
  rw [GS, zk] at y1
  rw [GS, zk'] at y2
  have w1 : slk L T' al' be' ga' k = 0 := (Int.mul_eq_zero.1 (show T * slk L T' al' be' ga' k = 0 by omega)).elim (fun e => by omega) id
  have w2 : slk L T al be ga k' = 0 := (Int.mul_eq_zero.1 (show T' * slk L T al be ga k' = 0 by omega)).elim (fun e => by omega) id
  have m1 : pI L k' ∈ ptS L C := (ptS_mem h _).2 ⟨k', (s.on k').2 ⟨hk', w2⟩, rfl⟩
  have m2 : pI L k ∈ ptS L C' := (ptS_mem h' _).2 ⟨k, (s'.on k).2 ⟨hk, w1⟩, rfl⟩
  have b1 := (he.2.2.2 _ m1).2 hz
  have b2 := (he'.2.2.2 _ m2).2 (by unfold crs at *; grind)
  rcases hdir with ⟨d1, d2⟩ | ⟨d1, d2⟩
  · exact le_as ((btw_lt d2).1 b2).2 ((btw_lt d1).1 b1).2
  · exact le_as ((btw_lt d1).1 (btw_symm b1)).1 ((btw_lt d2).1 (btw_symm b2)).1
end Go.Proofs.YtcionneopgdebaaGreat

/-
  The areas of all cells are together that of the hull of all points. Plain. By an AI agent.
-/
namespace Go.Proofs.YtcionneopgdebaaGreat
open Geo

theorem bdo_in {L : List Tm} {s e : Pt × Pt} (h : e ∈ bdo L s) : e ∈ bdr L ∧ crs s.1 s.2 s.1 e.1 = 0 ∧ crs s.1 s.2 s.1 e.2 = 0 := by
  obtain ⟨h1, h2⟩ := List.mem_filter.1 h
  exact ⟨h1, onL_t.1 h2⟩
theorem bdo_dirs {L : List Tm} (hd : Dist L) (hw : Wide (ptA L)) {s e : Pt × Pt} (hs : s ∈ sidesF (hulA L)) (h : e ∈ bdo L s) : Dirs e.1 e.2 s.1 s.2 ∧ e.1 ∈ ptA L ∧ e.2 ∈ ptA L := by
  obtain ⟨h1, z1, z2⟩ := bdo_in h
  obtain ⟨m1, m2, hne, p, q, he, y1, y2, hD⟩ := bdr_face hd h1
  obtain ⟨a, b⟩ := s
  obtain ⟨e1, e2⟩ := side_uniq (wide_one hw) (((hulA_sides hw).2 a b).1 hs) he m1 m2 hne z1 z2 y1 y2
  subst e1; subst e2
  exact ⟨hD, m1, m2⟩
/-- no side at the border ends where the hull's side begins. -/
theorem bdo_end {L : List Tm} (hd : Dist L) (hw : Wide (ptA L)) {s e : Pt × Pt} (hs : s ∈ sidesF (hulA L)) (h : e ∈ bdo L s) : e.2 ≠ s.1 := fun eq => by
  obtain ⟨hD, m1, _⟩ := bdo_dirs hd hw hs h
  obtain ⟨_, z1, _⟩ := bdo_in h
  obtain ⟨a, b⟩ := s
  have he := ((hulA_sides hw).2 a b).1 hs
  have hb := (he.2.2.2 _ m1).2 z1
  simp only at eq hD
  rw [eq] at hD
  rcases hD.2 with ⟨d1, d2⟩ | ⟨d1, d2⟩
  · exact le_lt_false ((btw_lt d2).1 hb).1 d1
  · exact le_lt_false ((btw_lt d2).1 (btw_symm hb)).2 d1
theorem sum_le_one {α : Type} {f : α → Int} : ∀ {l : List α}, l.Nodup → (∀ x ∈ l, f x = 0 ∨ f x = 1) → (∀ x ∈ l, ∀ y ∈ l, f x = 1 → f y = 1 → x = y) → 0 ≤ (l.map f).sum ∧ (l.map f).sum ≤ 1
  | [], _, _, _ => ⟨Int.le_refl _, by simp⟩
  | x :: l, hn, h01, hu => by
    rw [List.nodup_cons] at hn
    obtain ⟨i1, i2⟩ := sum_le_one hn.2 (fun y hy => h01 y (List.mem_cons_of_mem _ hy)) (fun y hy z hz => hu y (List.mem_cons_of_mem _ hy) z (List.mem_cons_of_mem _ hz))
    rw [List.map_cons, List.sum_cons]
    rcases h01 x (by simp) with h | h
    · omega
    · have : (l.map f).sum = 0 := sum_none fun y hy => (h01 y (List.mem_cons_of_mem _ hy)).elim id fun g => by
        have := hu x (by simp) y (List.mem_cons_of_mem _ hy) h g
        subst this
        exact absurd hy hn.1
      omega
theorem bet_01 {L : List Tm} (hd : Dist L) (hw : Wide (ptA L)) {s : Pt × Pt} (hs : s ∈ sidesF (hulA L)) : 0 ≤ bet L s ∧ bet L s ≤ 1 := by
  have h := bet_sum hd hw hs (ind s.1)
  have he := ((hulA_sides hw).2 s.1 s.2).1 hs
  have i1 : ind s.1 s.2 = 0 := if_neg fun e => he.2.2.1 e.symm
  have i2 : ind s.1 s.1 = 1 := if_pos rfl
  rw [i1, i2] at h
  have e : ((bdo L s).map fun e => ind s.1 e.2 - ind s.1 e.1).sum = ((bdo L s).map fun e => (-1) * ind s.1 e.1).sum := sum_congr fun e hm => by
    have : ind s.1 e.2 = 0 := if_neg (bdo_end hd hw hs hm)
    rw [this]
    omega
  rw [e, sum_mul] at h
  have hk := sum_le_one (f := fun e : Pt × Pt => ind s.1 e.1) (l := bdo L s) ((bdr_nodup hd).filter _) (fun e _ => by unfold ind; split <;> simp) fun x hx y hy h1 h2 => by
    have e1 : x.1 = s.1 := by unfold ind at h1; split at h1 <;> simp_all
    have e2 : y.1 = s.1 := by unfold ind at h2; split at h2 <;> simp_all
    obtain ⟨b1, _, z1⟩ := bdo_in hx
    obtain ⟨b2, _, z2⟩ := bdo_in hy
    obtain ⟨D1, _⟩ := bdo_dirs hd hw hs hx
    obtain ⟨D2, _⟩ := bdo_dirs hd hw hs hy
    obtain ⟨x1, x2⟩ := x
    obtain ⟨y1, y2⟩ := y
    simp only at e1 e2 z1 z2 D1 D2
    subst e1
    subst e2
    have hz : crs s.1 x2 s.1 y2 = 0 := line_turn he.2.2.1 (by unfold crs; grind) z1 z2
    have := dsd_uniq hd (bdr_in b1).1 (bdr_in b2).1 hz (by
      rcases D1.2 with ⟨d1, d2⟩ | ⟨d1, d2⟩
      · rcases D2.2 with ⟨f1, f2⟩ | ⟨f1, f2⟩
        · exact Or.inl ⟨d1, f1⟩
        · exact absurd f2 fun g => le_lt_false (lt_le d2) g
      · rcases D2.2 with ⟨f1, f2⟩ | ⟨f1, f2⟩
        · exact absurd f2 fun g => le_lt_false (lt_le d2) g
        · exact Or.inr ⟨d1, f1⟩)
    rw [this]
  omega
theorem mem_le_sum {α : Type} {f : α → Int} : ∀ {l : List α}, (∀ x ∈ l, 0 ≤ f x) → ∀ a ∈ l, f a ≤ (l.map f).sum
  | [], _, a, ha => by simp at ha
  | x :: l, h, a, ha => by
    have h0 := h x (by simp)
    have h1 : ∀ y ∈ l, 0 ≤ f y := fun y hy => h y (List.mem_cons_of_mem _ hy)
    have h2 := sum_nonneg h1
    rw [List.map_cons, List.sum_cons]
    rcases List.mem_cons.1 ha with rfl | ha
    · omega
    · have := mem_le_sum h1 a ha; omega
/-- each cell has an area. -/
theorem area_pos {L : List Tm} {C : List Int} (hC : C ∈ celA L) : 1 ≤ areaP (hulX L C) := by
  have h := celA_g hC
  obtain ⟨p, q, he⟩ := ex_side (pySortF_strict _) (ptS_two h)
  have he : Edg (ptS L C) p q := he
  obtain ⟨t, ht, hl⟩ := edg_left h he
  have hm : pI L t ∈ ptS L C := (ptS_mem h _).2 ⟨t, ht, rfl⟩
  rw [areaP_sides, dbl_from _ (pI L t)]
  have hs := cell_sides h
  have := mem_le_sum (f := fun e : Pt × Pt => crs e.1 e.2 e.1 (pI L t)) (l := sidesF (hulX L C)) (fun e hme => (((hs.2 e.1 e.2).1 hme).2.2.2 _ hm).1) (p, q) ((hs.2 p q).2 he)
  simp only at this
  omega
theorem sum_pos {α : Type} {f : α → Int} {l : List α} (hl : l ≠ []) (h : ∀ x ∈ l, 1 ≤ f x) : 1 ≤ (l.map f).sum := by
  cases l with
  | nil => exact absurd rfl hl
  | cons a l =>
    have h1 := h a (by simp)
    have h2 := sum_nonneg (f := f) (l := l) fun x hx => by have := h x (List.mem_cons_of_mem _ hx); omega
    rw [List.map_cons, List.sum_cons]
    omega
/-- THE AREAS OF ALL CELLS are together that of the hull. -/
theorem areas_hull {L : List Tm} (hd : Dist L) (hne : celA L ≠ []) : (areL L).sum = areaP (hulA L) := by
  obtain ⟨C0, hC0⟩ := List.exists_mem_of_ne_nil _ hne
  have hw := wide_of hC0
  have hpos : 1 ≤ (areL L).sum := sum_pos hne fun C hC => area_pos hC
  obtain ⟨c, hc⟩ := bet_all hd hw
  have e1 : (areL L).sum = ((bdr L).map fun e => crz e.1 e.2).sum := by
    rw [← bdr_sum hd (fun e => crz e.1 e.2) (fun e => by unfold swE crz; simp only; grind), dsd_area]
    rfl
  have e2 : ((bdr L).map fun e => crz e.1 e.2).sum = c * dblS (hulA L) := by
    rw [sum_parts (fun e => crz e.1 e.2) onL (hulA_sides hw).1 (B := bdr L) fun e he => bdr_one hd hw he]
    unfold dblS
    rw [← sum_mul]
    refine sum_congr fun s hs => ?_
    have hes := ((hulA_sides hw).2 s.1 s.2).1 hs
    have e3 : (((bdr L).filter (onL s)).map fun e => crz e.1 e.2).sum = ((bdo L s).map fun e => crz s.1 e.2 - crz s.1 e.1).sum := by
      refine sum_congr fun e hm => ?_
      obtain ⟨_, z1, z2⟩ := bdo_in (show e ∈ bdo L s from hm)
      have : turnZ s.1 e.1 e.2 = 0 := line_turn hes.2.2.1 (by unfold crs; grind) z1 z2
      unfold turnZ at this
      unfold crz
      grind
    rw [e3, bet_sum hd hw hs (fun x => crz s.1 x), hc s hs]
    have : crz s.1 s.1 = 0 := by unfold crz; grind
    rw [this]
    grind
  rw [e1, e2, areaP_sides]
  rw [e1, e2] at hpos
  obtain ⟨p, q, he⟩ := ex_side (pySortF_strict _) (wide_two hw)
  have hs : (p, q) ∈ sidesF (hulA L) := ((hulA_sides hw).2 p q).2 he
  have hb := bet_01 hd hw hs
  rw [hc _ hs] at hb
  have : c = 1 := by
    rcases (show c = 0 ∨ c = 1 by omega) with h | h
    · rw [h, Int.zero_mul] at hpos; omega
    · exact h
  rw [this, Int.one_mul]
/-- where there is no cell, the hull has no area. -/
theorem no_cell {L : List Tm} (h : celA L = []) : areaP (hulA L) = 0 := by
  have hz : ∀ p ∈ ptA L, ∀ q ∈ ptA L, ∀ r ∈ ptA L, turnZ p q r = 0 := fun p hp q hq r hr => by
    obtain ⟨i, hi, rfl⟩ := (ptA_mem p).1 hp
    obtain ⟨j, hj, rfl⟩ := (ptA_mem q).1 hq
    obtain ⟨k, hk, rfl⟩ := (ptA_mem r).1 hr
    refine Classical.byContradiction fun hn => ?_
    obtain ⟨C, hC⟩ := ex_cell hi hj hk hn
    rw [h] at hC
    simp at hC
  have hsub : ∀ x ∈ hulA L, x ∈ ptA L := fun x hx => hull_sub (pySortF_strict _) hx
  rw [areaP_sides]
  generalize hulA L = H at hsub
  cases H with
  | nil => rfl
  | cons a l =>
    rw [dbl_from _ a]
    refine sum_none fun e he => ?_
    have h1 : e.1 ∈ a :: l := by
      have : e.1 ∈ (sidesF (a :: l)).map Prod.fst := List.mem_map.2 ⟨e, he, rfl⟩
      rw [sides_fst] at this
      exact this
    have h2 : e.2 ∈ a :: l := by
      have : e.2 ∈ (sidesF (a :: l)).map Prod.snd := List.mem_map.2 ⟨e, he, rfl⟩
      rw [sides_snd] at this
      simp only [List.mem_append, List.mem_singleton] at this
      rcases this with h | h
      · exact List.mem_cons_of_mem _ h
      · rw [h]; simp
    exact hz _ (hsub _ h1) _ (hsub _ h2) _ (hsub _ (by simp))
theorem whole_zero {L : List Tm} (hd : Dist L) : (celA L = []) ↔ areaP (hulA L) = 0 := by
  constructor
  · exact no_cell
  · intro h
    refine Classical.byContradiction fun hn => ?_
    have h1 := areas_hull hd hn
    have h2 : 1 ≤ (areL L).sum := sum_pos hn fun C hC => area_pos hC
    omega
end Go.Proofs.YtcionneopgdebaaGreat
