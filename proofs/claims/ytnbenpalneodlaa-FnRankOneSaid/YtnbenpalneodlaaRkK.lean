/-
  Classes of columns that differ by one number: plain; rows that grow in a list that grows. By an AI agent.
-/
import Derived.Test.YtnbenpalneodlaaRkJ
import Derived.Test.YtnbenpalneodlaaWyF
namespace Go.Proofs.Ytnbenpalneodlaa
open Go.RowKit

/-! ### alike columns -/
/-- after some rows: none when they are not alike; whether a finite number was met, and the difference. -/
def akF (a b : Nat → Int) : Nat → Option (Bool × Int)
  | 0 => some (false, 0)
  | t + 1 => (akF a b t).bind fun s => if a t = 1000000000 ∧ b t = 1000000000 then some s else if a t = 1000000000 ∨ b t = 1000000000 ∨ (s.1 = true ∧ b t - a t ≠ s.2) then none else some (true, b t - a t)
def alkB (R : Nat) (a b : Nat → Int) : Bool := (akF a b R).isSome
theorem akF_none {a b : Nat → Int} {t : Nat} (h : akF a b t = none) : ∀ {R : Nat}, t ≤ R → akF a b R = none
  | 0, hR => by rw [show t = 0 by omega] at h; exact h
  | R + 1, hR => by
    by_cases e : t = R + 1
    · rw [← e]; exact h
    · unfold akF
      rw [akF_none h (by omega)]
      rfl
theorem akF_eqs {a b : Nat → Int} {t : Nat} {s : Bool × Int} (h : akF a b t = some s) :
    (a t = 1000000000 → b t = 1000000000 → akF a b (t + 1) = some s) ∧ (a t = 1000000000 → b t ≠ 1000000000 → akF a b (t + 1) = none) ∧ (a t ≠ 1000000000 → b t = 1000000000 → akF a b (t + 1) = none) ∧
    (a t ≠ 1000000000 → b t ≠ 1000000000 → s.1 = true → b t - a t ≠ s.2 → akF a b (t + 1) = none) ∧ (a t ≠ 1000000000 → b t ≠ 1000000000 → (s.1 = true → b t - a t = s.2) → akF a b (t + 1) = some (true, b t - a t)) := by
  have e : akF a b (t + 1) = if a t = 1000000000 ∧ b t = 1000000000 then some s else if a t = 1000000000 ∨ b t = 1000000000 ∨ (s.1 = true ∧ b t - a t ≠ s.2) then none else some (true, b t - a t) := by
    show (akF a b t).bind _ = _
    rw [h]
    rfl
  rw [e]
  refine ⟨fun h1 h2 => by rw [if_pos ⟨h1, h2⟩], fun h1 h2 => by rw [if_neg (fun q => h2 q.2), if_pos (Or.inl h1)], fun h1 h2 => by rw [if_neg (fun q => h1 q.1), if_pos (Or.inr (Or.inl h2))], fun h1 h2 h3 h4 => by rw [if_neg (fun q => h1 q.1), if_pos (Or.inr (Or.inr ⟨h3, h4⟩))], fun h1 h2 h3 => by
    rw [if_neg (fun q => h1 q.1), if_neg]
    rintro (q | q | ⟨q, q2⟩)
    · exact h1 q
    · exact h2 q
    · exact q2 (h3 q)⟩
theorem alk_no {R : Nat} {a b : Nat → Int} {t : Nat} (ht : t ≤ R) (h : akF a b t = none) : alkB R a b = false := by
  unfold alkB
  rw [akF_none h ht]
  rfl

/-! ### classes -/
theorem getD_setN {L : List (List Int)} {i j : Nat} {x : List Int} (h : j ≠ i) : (L.set i x).getD j [] = L.getD j [] := by
  rw [List.getD_eq_getElem?_getD, List.getElem?_set_ne (by omega), ← List.getD_eq_getElem?_getD]
def clPut (p : List Int → Bool) (k : Nat) : List (List Int) → List (List Int)
  | [] => [[(k : Int)]]
  | c :: L => if p c = true then (c ++ [(k : Int)]) :: L else c :: clPut p k L
theorem clPut_at {p : List Int → Bool} {k : Nat} : ∀ {L : List (List Int)} {i : Nat}, i < L.length → (∀ t, t < i → p (L.getD t []) = false) → p (L.getD i []) = true → clPut p k L = L.set i (L.getD i [] ++ [(k : Int)])
  | [], i, hi, _, _ => by simp at hi
  | c :: L, 0, _, _, h => by
    rw [List.getD_cons_zero] at h
    unfold clPut
    rw [if_pos h]
    rfl
  | c :: L, i + 1, hi, h0, h => by
    have h1 := h0 0 (by omega)
    rw [List.getD_cons_zero] at h1
    unfold clPut
    rw [if_neg (by rw [h1]; simp), clPut_at (L := L) (i := i) (by simpa using hi) (fun t ht => by have := h0 (t + 1) (by omega); rwa [List.getD_cons_succ] at this) (by rwa [List.getD_cons_succ] at h)]
    rfl
theorem clPut_end {p : List Int → Bool} {k : Nat} : ∀ {L : List (List Int)}, (∀ t, t < L.length → p (L.getD t []) = false) → clPut p k L = L ++ [[(k : Int)]]
  | [], _ => rfl
  | c :: L, h => by
    have h1 := h 0 (by simp)
    rw [List.getD_cons_zero] at h1
    unfold clPut
    rw [if_neg (by rw [h1]; simp), clPut_end (L := L) (fun t ht => by have := h (t + 1) (by simpa using ht); rwa [List.getD_cons_succ] at this)]
    rfl
def clsL (al : Nat → Nat → Bool) : Nat → List (List Int)
  | 0 => []
  | k + 1 => clPut (fun c => al (vx c 0) k) k (clsL al k)
/-- what classes are. -/
structure ClsOk (L : List (List Int)) (k : Nat) : Prop where
  len : L.length ≤ k
  ne : ∀ i, i < L.length → 0 < (L.getD i []).length ∧ (L.getD i []).length ≤ k
  fst : ∀ i, i < L.length → (L.getD i []).getD 0 0 = (vx (L.getD i []) 0 : Int) ∧ vx (L.getD i []) 0 < k
theorem clPut_cases (p : List Int → Bool) (k : Nat) (L : List (List Int)) : (∃ i, i < L.length ∧ p (L.getD i []) = true ∧ clPut p k L = L.set i (L.getD i [] ++ [(k : Int)])) ∨ clPut p k L = L ++ [[(k : Int)]] := by
  induction L with
  | nil => exact Or.inr rfl
  | cons c L ih =>
    unfold clPut
    by_cases h : p c = true
    · rw [if_pos h]
      exact Or.inl ⟨0, by simp, h, rfl⟩
    · rw [if_neg h]
      rcases ih with ⟨i, h1, h2, h3⟩ | h1
      · exact Or.inl ⟨i + 1, by simpa using h1, by rwa [List.getD_cons_succ], by rw [h3]; rfl⟩
      · exact Or.inr (by rw [h1]; rfl)
theorem clsL_ok (al : Nat → Nat → Bool) : ∀ k, ClsOk (clsL al k) k
  | 0 => ⟨Nat.le_refl _, fun i hi => by simp [clsL] at hi, fun i hi => by simp [clsL] at hi⟩
  | k + 1 => by
    have ih := clsL_ok al k
    unfold clsL
    generalize clsL al k = L at ih
    rcases clPut_cases (fun c => al (vx c 0) k) k L with ⟨i, h1, _, h3⟩ | h3
    · rw [h3]
      refine ⟨by rw [List.length_set]; have := ih.len; omega, fun j hj => ?_, fun j hj => ?_⟩
      · rw [List.length_set] at hj
        by_cases e : j = i
        · subst e
          rw [show (L.set j (L.getD j [] ++ [(k : Int)])).getD j [] = L.getD j [] ++ [(k : Int)] by simp [List.getD_eq_getElem?_getD, hj], List.length_append, List.length_singleton]
          have := (ih.ne j hj).2
          omega
        · rw [getD_setN e]
          have := ih.ne j hj
          omega
      · rw [List.length_set] at hj
        by_cases e : j = i
        · subst e
          rw [show (L.set j (L.getD j [] ++ [(k : Int)])).getD j [] = L.getD j [] ++ [(k : Int)] by simp [List.getD_eq_getElem?_getD, hj]]
          have h4 := (ih.ne j hj).1
          have h5 := ih.fst j hj
          have h6 : (L.getD j [] ++ [(k : Int)]).getD 0 0 = (L.getD j []).getD 0 0 := by
            rw [List.getD_eq_getElem?_getD, List.getElem?_append_left h4, ← List.getD_eq_getElem?_getD]
          have h7 : vx (L.getD j [] ++ [(k : Int)]) 0 = vx (L.getD j []) 0 := by unfold vx; rw [h6]
          rw [h6, h7]
          exact ⟨h5.1, by omega⟩
        · rw [getD_setN e]
          have := ih.fst j hj
          exact ⟨this.1, by omega⟩
    · rw [h3]
      have hl := ih.len
      have hg : ∀ j, j < (L ++ [[(k : Int)]]).length → (j < L.length ∧ (L ++ [[(k : Int)]]).getD j [] = L.getD j []) ∨ (L ++ [[(k : Int)]]).getD j [] = [(k : Int)] := fun j hj => by
        rw [List.length_append, List.length_singleton] at hj
        by_cases e : j < L.length
        · exact Or.inl ⟨e, by rw [List.getD_eq_getElem?_getD, List.getElem?_append_left e, ← List.getD_eq_getElem?_getD]⟩
        · obtain rfl : j = L.length := by omega
          exact Or.inr (by simp [List.getD_eq_getElem?_getD])
      refine ⟨by rw [List.length_append, List.length_singleton]; omega, fun j hj => ?_, fun j hj => ?_⟩
      · rcases hg j hj with ⟨h1, h2⟩ | h2
        · rw [h2]; have := ih.ne j h1; omega
        · rw [h2]; simp
      · rcases hg j hj with ⟨h1, h2⟩ | h2
        · rw [h2]; have := ih.fst j h1; exact ⟨this.1, by omega⟩
        · rw [h2]; simp [vx]
/-- all columns are in classes. -/
theorem cls_sum (al : Nat → Nat → Bool) : ∀ k, ((clsL al k).map List.length).sum = k
  | 0 => rfl
  | k + 1 => by
    have ih := cls_sum al k
    unfold clsL
    generalize clsL al k = L at ih
    have key : ∀ (p : List Int → Bool) (L : List (List Int)), ((clPut p k L).map List.length).sum = (L.map List.length).sum + 1 := by
      intro p L
      induction L with
      | nil => rfl
      | cons c L ih =>
        unfold clPut
        by_cases h : p c = true
        · rw [if_pos h]; simp; omega
        · rw [if_neg h]; simp [ih]; omega
    rw [key, ih]

/-! ### rows that grow in a list that grows -/
structure ClsO (w : World) (B : Nat) (v : Value) (M : List (List Int)) (vs : List Value) : Prop where
  row : w.ownsRow B 23 1 v M.length vs
  each : ∀ i, i < M.length → RowI w B (vs.getD i undef) (M.getD i [])
  apart : ∀ i j, i < M.length → j < M.length → i ≠ j → ∀ q, (vs.getD i undef).ownBlock = some q → (vs.getD j undef).ownBlock ≠ some q
theorem ClsO.nil (w : World) (B : Nat) : ClsO w B (.slice none 0 0) [] [] := ⟨⟨rfl, Or.inl ⟨rfl, rfl⟩⟩, fun i hi => by simp at hi, fun i j hi => by simp at hi⟩
theorem ClsO.empty (w : World) (B H : Nat) (hB : B ≤ w.heap.size) (hH : w.heap.size = H) : ClsO (w.alloc (.cells #[] 23)) B (.slice (some ⟨H, 0, none⟩) 0 0) [] [] := by
  subst hH
  exact ⟨World.ownsRow_made w #[] 0 hB (by decide) rfl, fun i hi => by simp at hi, fun i j hi => by simp at hi⟩
theorem ClsO.len {w : World} {B : Nat} {v : Value} {M : List (List Int)} {vs : List Value} (h : ClsO w B v M vs) : vs.length = M.length := by have := h.row.1; omega
theorem ClsO.below {w w' : World} {B : Nat} {v : Value} {M : List (List Int)} {vs : List Value} (h : ClsO w B v M vs) (hb : Below w.heap.size w w') : ClsO w' B v M vs := ⟨row_below h.row hb, fun i hi => (h.each i hi).below hb, h.apart⟩
theorem ClsO.shape {w : World} {B : Nat} {v : Value} {M : List (List Int)} {vs : List Value} (h : ClsO w B v M vs) : ∃ ad cap, v = .slice ad M.length cap ∧ ∀ a, ad = some a → ∃ g, a = ⟨g, 0, none⟩ ∧ B ≤ g ∧ Own w g 23 vs := by
  rcases Own.of_row h.row with ⟨h1, h0, _⟩ | ⟨g, cap, h1, hB, _, _, ho⟩
  · exact ⟨none, 0, by rw [h1, h0], fun a e => by cases e⟩
  · exact ⟨_, cap, h1, fun a e => by cases e; exact ⟨g, rfl, hB, ho⟩⟩
theorem ClsO.at {w : World} {B : Nat} {ad : Option Addr} {n cap : Nat} {M : List (List Int)} {vs : List Value} (h : ClsO w B (.slice ad n cap) M vs) {i : Nat} (hi : i < M.length) : ∃ g a c, ad = some ⟨g, 0, none⟩ ∧ B ≤ g ∧ g < w.heap.size ∧ w.cell? ⟨g, i, none⟩ = some (.slice a (M.getD i []).length c) ∧ w.frozen? ⟨g, i, none⟩ = false ∧ vs.getD i undef = .slice a (M.getD i []).length c ∧ RowI w B (.slice a (M.getD i []).length c) (M.getD i []) ∧ RdI w a (M.getD i []) := by
  rcases Own.of_row h.row with ⟨_, h0, _⟩ | ⟨g, cap', h1, hB, _, _, ho⟩
  · omega
  · injection h1 with h1 _ _
    subst h1
    have hi' : i < vs.length := by rw [h.len]; exact hi
    have hc : w.cell? ⟨g, i, none⟩ = some (vs.getD i undef) := ho.cell? (by simp [List.getD, hi'])
    obtain ⟨a, c, e, hrd⟩ := (h.each i hi).shape
    have hr := h.each i hi
    rw [e] at hc hr
    exact ⟨g, a, c, rfl, hB, ho.lt, hc, ho.frozen i, e, hr, hrd⟩
theorem ClsO.rd {w : World} {B : Nat} {ad : Option Addr} {n cap : Nat} {M : List (List Int)} {vs : List Value} (h : ClsO w B (.slice ad n cap) M vs) : RdM w ad M := by
  intro i hi
  obtain ⟨g, a, c, rfl, _, hl, hc, _, _, _, hrd⟩ := h.at hi
  exact ⟨g, 0, a, c, rfl, hl, by rw [Nat.zero_add]; exact hc, hrd⟩
theorem getD_setV {vs : List Value} {k : Nat} {u : Value} (hk : k < vs.length) : (vs.set k u).getD k undef = u := by simp [List.getD_eq_getElem?_getD, hk]
/-- one more number in a class. -/
theorem ClsO.put {w w' : World} {B g n cap k : Nat} {M : List (List Int)} {vs : List Value} {u : Value} {x : Int} (h : ClsO w B (.slice (some ⟨g, 0, none⟩) n cap) M vs) (hn : M.length = n) (hk : k < n) (hu : RowI w' B u (M.getD k [] ++ [x])) (hg : w.grownBy w' (vs.getD k undef).ownBlock)
    (hb : u.ownBlock = (vs.getD k undef).ownBlock ∨ u.ownBlock = some w.heap.size) : ClsO (w'.setCell ⟨g, k, none⟩ u) B (.slice (some ⟨g, 0, none⟩) n cap) (M.set k (M.getD k [] ++ [x])) (vs.set k u) := by
  subst hn
  obtain ⟨_, _, e0, hso⟩ := h.shape
  injection e0 with e0 _ _
  obtain ⟨g', e1, hBg, ho⟩ := hso _ e0.symm
  injection e1 with e1 _ _
  subst e1
  have hne : ∀ {i}, i < M.length → (vs.getD i undef).ownBlock ≠ some g := fun {i} hi => row_ne_ty (h.each i hi) ho (by decide)
  have ho' : Own w' g 23 vs := ho.grown hg (hne hk)
  have hl := h.len
  have hlow : ∀ {i q}, i < M.length → (vs.getD i undef).ownBlock = some q → q < w.heap.size := fun {i q} hi hq => (World.ownsRow.lt (h.each i hi) q hq).2
  have hrow' : w'.ownsRow B 23 1 (.slice (some ⟨g, 0, none⟩) M.length cap) M.length vs := by
    refine ⟨h.row.1, ?_⟩
    rcases h.row.2 with ⟨e, _⟩ | ⟨g2, cap2, cur, e, hb2, hh, rest⟩
    · cases e
    · injection e with e e3 e4
      injection e with e
      injection e with e _ _
      subst e
      exact .inr ⟨g, cap2, cur, by rw [e4], hb2, by rw [hg.block g ho.lt (fun q => hne hk q.symm)]; exact hh, rest⟩
  have eS : (vs.set k u).getD k undef = u := getD_setV (by omega)
  have eO : ∀ {i}, i ≠ k → (vs.set k u).getD i undef = vs.getD i undef := fun {i} hi => by rw [List.getD_eq_getElem?_getD, List.getElem?_set_ne (by omega), ← List.getD_eq_getElem?_getD]
  refine ⟨row_congr (World.ownsRow.stored hrow' k u).1 (by rw [List.length_set]) rfl, fun i hi => ?_, fun i j hi hj hij q => ?_⟩
  · rw [List.length_set] at hi
    by_cases e : i = k
    · subst e
      rw [eS, show (M.set i (M.getD i [] ++ [x])).getD i [] = M.getD i [] ++ [x] by simp [List.getD_eq_getElem?_getD, hi]]
      exact ownsRow_setCell_other hu (row_ne_ty hu ho' (by decide)) _
    · rw [eO e, show (M.set k (M.getD k [] ++ [x])).getD i [] = M.getD i [] by rw [List.getD_eq_getElem?_getD, List.getElem?_set_ne (by omega), ← List.getD_eq_getElem?_getD]]
      have h1 : RowI w' B (vs.getD i undef) (M.getD i []) := (h.each i hi).of_block fun q hq => hg.block q (hlow hi hq) fun e2 => h.apart i k hi hk e q hq e2.symm
      exact ownsRow_setCell_other h1 (hne hi) _
  · rw [List.length_set] at hi hj
    by_cases e : i = k
    · subst e
      rw [eS, eO (by omega)]
      intro h1 h2
      rcases hb with hb | hb
      · rw [hb] at h1; exact h.apart i j hi hj hij q h1 h2
      · rw [hb] at h1
        cases h1
        exact absurd (hlow hj h2) (Nat.lt_irrefl _)
    · by_cases e' : j = k
      · subst e'
        rw [eS, eO e]
        intro h1 h2
        rcases hb with hb | hb
        · rw [hb] at h2; exact h.apart i j hi hj hij q h1 h2
        · rw [hb] at h2
          cases h2
          exact absurd (hlow hi h1) (Nat.lt_irrefl _)
      · rw [eO e, eO e']
        exact h.apart i j hi hj hij q
end Go.Proofs.Ytnbenpalneodlaa
