/-
  Some texts of this proof in one: Laws TmP PlP Good Num Trop Cur DrP Big. Each part tells what it proves. By an AI agent.
-/
import Derived.Test.YtbafgmicpopnoaaGreatDoorRows
import Derived.Test.YtbafgmicpopnoaaGreatDoorBase
import Derived.WalkSpells
import Derived.WalkLawsBesides
import Derived.Deep.QuietTactic
import Derived.BigQuiet
import Derived.StillTailTactics

/-
  What the harness's own functions do: sizes, copies, comparisons, marks.
-/
namespace Go.Proofs.YtbafgmicpopnoaaGreatDoor
open Go.RowKit

theorem Tryz.infoI : (Tryz.prog.info? 3).map (fun i => (i.zero, i.size, i.bytes)) = some (some (.int .i64 0), 1, 8) := by kernel_rfl
/-! ### The same of values: a slice that reads as numbers -/
def RdV (w : World) (v : Value) (xs : List Int) : Prop := ∃ ad cap, v = .slice ad xs.length cap ∧ RdI w ad xs
theorem ResI.rdV {w : World} {B : Nat} {E : TypeId} {v : Value} {xs : List Int} (h : ResI w B E v xs) : RdV w v xs := h.rd
theorem ResI.chg {w w' : World} {B b : Nat} {E : TypeId} {v : Value} {xs : List Int} (h : ResI w B E v xs) (hc : Chg b w w') (hb : b < B) : ResI w' B E v xs := by
  rcases h with h | ⟨g, cap, rfl, hg, ho⟩
  · exact Or.inl h
  · exact Or.inr ⟨g, cap, rfl, hg, ho.chg hc (by omega)⟩
/-! ### What an exported function hands back -/
def RetB (r : Bool) (w : World) (e : Ending) (w' : World) : Prop := e = .returned (.bool r) ∧ Below w.heap.size w w'
def RetIB (r : Int × Bool) (w : World) (e : Ending) (w' : World) : Prop := e = .returned (.tuple #[.int .i64 r.1, .bool r.2]) ∧ Below w.heap.size w w'
def RetBB (r : Bool × Bool) (w : World) (e : Ending) (w' : World) : Prop := e = .returned (.tuple #[.bool r.1, .bool r.2]) ∧ Below w.heap.size w w'
def RetLB (r : List Int × Bool) (w : World) (e : Ending) (w' : World) : Prop := ∃ v, e = .returned (.tuple #[v, .bool r.2]) ∧ ResI w' w.heap.size 3 v r.1 ∧ Below w.heap.size w w'
def RetLLB (r : List Int × List Int × Bool) (w : World) (e : Ending) (w' : World) : Prop := ∃ v u, e = .returned (.tuple #[v, u, .bool r.2.2]) ∧ ResI w' w.heap.size 3 v r.1 ∧ ResI w' w.heap.size 3 u r.2.1 ∧ (∀ q, v.ownBlock = some q → u.ownBlock ≠ some q) ∧ Below w.heap.size w w'
theorem RetIB.of {r : Int × Bool} {w w' : World} {a : Int} {b : Bool} (h : r = (a, b)) (hb : Below w.heap.size w w') : RetIB r w (.returned (.tuple #[.int .i64 a, .bool b])) w' := by subst h; exact ⟨rfl, hb⟩
theorem RetBB.of {r : Bool × Bool} {w w' : World} {a : Bool} {b : Bool} (h : r = (a, b)) (hb : Below w.heap.size w w') : RetBB r w (.returned (.tuple #[.bool a, .bool b])) w' := by subst h; exact ⟨rfl, hb⟩
theorem RetLB.of {r : List Int × Bool} {w w' : World} {v : Value} {a : List Int} {b : Bool} (h : r = (a, b)) (hv : ResI w' w.heap.size 3 v a) (hb : Below w.heap.size w w') : RetLB r w (.returned (.tuple #[v, .bool b])) w' := by subst h; exact ⟨v, rfl, hv, hb⟩
theorem RetLB.no {r : List Int × Bool} {w w' : World} (h : r = ([], false)) (hb : Below w.heap.size w w') : RetLB r w (.returned (.tuple #[.slice none 0 0, .bool false])) w' := RetLB.of h (Or.inl ⟨rfl, rfl⟩) hb

end Go.Proofs.YtbafgmicpopnoaaGreatDoor

/-
  Terms of plane polynomials, plain. By an AI agent.
-/
namespace Go.Proofs.YtbafgmicpopnoaaGreatDoor

structure Tm where
  i : Int
  j : Int
  c : Int
  deriving Inhabited, DecidableEq
def tmAt (L : List Tm) (k : Nat) : Tm := L.getD k default
end Go.Proofs.YtbafgmicpopnoaaGreatDoor

/-
  Plane polynomials, plain: terms gathered, values, degrees, exchange. By an AI agent.
-/
namespace Go.Proofs.YtbafgmicpopnoaaGreatDoor

/-- The exponents of a term come before those of another one. -/
def befP (a b : Tm) : Prop := a.i < b.i ∨ (a.i = b.i ∧ a.j < b.j)
instance (a b : Tm) : Decidable (befP a b) := by unfold befP; infer_instance
def sameE (a b : Tm) : Prop := a.i = b.i ∧ a.j = b.j
instance (a b : Tm) : Decidable (sameE a b) := by unfold sameE; infer_instance
theorem befP_trans {a b c : Tm} (h1 : befP a b) (h2 : befP b c) : befP a c := by unfold befP at *; omega
theorem befP_irr {a b : Tm} (h1 : befP a b) : ¬ befP b a := by unfold befP at *; omega
theorem befP_three (a b : Tm) : befP a b ∨ sameE a b ∨ befP b a := by unfold befP sameE; omega
def StrictT (l : List Tm) : Prop := l.Pairwise befP
/-- Terms with one more, or with the less coefficient. -/
def putT (l : List Tm) (t : Tm) : List Tm := match l with
  | [] => [t]
  | a :: r => if befP a t then a :: putT r t else if befP t a then t :: a :: r else ⟨t.i, t.j, min t.c a.c⟩ :: r
def gth (l : List Tm) : List Tm := l.foldl putT []
/-- t is one of l, and the least with its exponents. -/
def Lst (l : List Tm) (t : Tm) : Prop := t ∈ l ∧ ∀ u ∈ l, sameE u t → t.c ≤ u.c
theorem strictT_tail {a : Tm} {l : List Tm} (h : StrictT (a :: l)) : StrictT l := (List.pairwise_cons.1 h).2
theorem strictT_head {a : Tm} {l : List Tm} (h : StrictT (a :: l)) : ∀ b ∈ l, befP a b := (List.pairwise_cons.1 h).1
theorem strictT_one {l : List Tm} (h : StrictT l) {a b : Tm} (ha : a ∈ l) (hb : b ∈ l) (e : sameE a b) : a = b := by
  induction l with
  | nil => cases ha
  | cons x l ih =>
    have h1 := strictT_head h
    rcases List.mem_cons.1 ha with rfl | ha' <;> rcases List.mem_cons.1 hb with rfl | hb'
    · rfl
    · have := h1 _ hb'; unfold befP sameE at *; omega
    · have := h1 _ ha'; unfold befP sameE at *; omega
    · exact ih (strictT_tail h) ha' hb'
/-- Strict lists with the same members are the same. -/
theorem strictT_ext : ∀ {l m : List Tm}, StrictT l → StrictT m → (∀ t, t ∈ l ↔ t ∈ m) → l = m
  | [], [], _, _, _ => rfl
  | [], b :: m, _, _, h => by have := (h b).2 (by simp); simp at this
  | a :: l, [], _, _, h => by have := (h a).1 (by simp); simp at this
  | a :: l, b :: m, hl, hm, h => by
    have h1 := strictT_head hl
    have h2 := strictT_head hm
    have e : a = b := by
      rcases List.mem_cons.1 ((h a).1 (by simp)) with e | e
      · exact e
      · rcases List.mem_cons.1 ((h b).2 (by simp)) with e' | e'
        · exact e'.symm
        · exact absurd (h1 _ e') (befP_irr (h2 _ e))
    subst e
    congr 1
    refine strictT_ext (strictT_tail hl) (strictT_tail hm) fun t => ?_
    constructor
    · intro ht
      rcases List.mem_cons.1 ((h t).1 (List.mem_cons_of_mem _ ht)) with e | e
      · subst e; exact absurd (h1 _ ht) (fun h => befP_irr h h)
      · exact e
    · intro ht
      rcases List.mem_cons.1 ((h t).2 (List.mem_cons_of_mem _ ht)) with e | e
      · subst e; exact absurd (h2 _ ht) (fun h => befP_irr h h)
      · exact e
/-- What is in a list with one more. -/
theorem putT_mem {l : List Tm} {t x : Tm} (h : x ∈ putT l t) : x ∈ l ∨ sameE x t := by
  induction l with
  | nil => simp [putT] at h; subst h; exact Or.inr ⟨rfl, rfl⟩
  | cons a r ih =>
    rw [putT] at h
    split at h
    · rcases List.mem_cons.1 h with e | e
      · exact Or.inl (by simp [e])
      · rcases ih e with e | e
        · exact Or.inl (List.mem_cons_of_mem _ e)
        · exact Or.inr e
    · split at h
      · rcases List.mem_cons.1 h with e | e
        · exact Or.inr (by subst e; exact ⟨rfl, rfl⟩)
        · exact Or.inl e
      · rcases List.mem_cons.1 h with e | e
        · exact Or.inr (by subst e; exact ⟨rfl, rfl⟩)
        · exact Or.inl (List.mem_cons_of_mem _ e)
theorem putT_strict {l : List Tm} {t : Tm} (h : StrictT l) : StrictT (putT l t) := by
  induction l with
  | nil => exact List.pairwise_singleton _ _
  | cons a r ih =>
    have h1 := strictT_head h
    rw [putT]
    split
    · rename_i hb
      refine List.pairwise_cons.2 ⟨fun b hb' => ?_, ih (strictT_tail h)⟩
      rcases putT_mem hb' with e | e
      · exact h1 _ e
      · unfold befP sameE at *; omega
    · split
      · rename_i hb
        refine List.pairwise_cons.2 ⟨fun b hb' => ?_, h⟩
        rcases List.mem_cons.1 hb' with e | e
        · subst e; exact hb
        · exact befP_trans hb (h1 _ e)
      · rename_i hb hb2
        have h3 : sameE a t := by rcases befP_three a t with h | h | h; exact absurd h hb; exact h; exact absurd h hb2
        refine List.pairwise_cons.2 ⟨fun b hb' => ?_, strictT_tail h⟩
        have := h1 _ hb'
        unfold befP sameE at *
        simp only
        omega
theorem putT_iff {l : List Tm} {t x : Tm} (h : StrictT l) : x ∈ putT l t ↔ (x ∈ l ∧ (sameE x t → x.c ≤ t.c)) ∨ (x = t ∧ ∀ a ∈ l, sameE a t → t.c ≤ a.c) := by
  induction l with
  | nil => simp [putT]
  | cons a r ih =>
    have h1 := strictT_head h
    have ih := ih (strictT_tail h)
    rw [putT]
    split
    · rename_i hb
      rw [List.mem_cons, ih]
      constructor
      · rintro (e | ⟨e, e2⟩ | ⟨e, e2⟩)
        · subst e; exact Or.inl ⟨by simp, fun hs => by unfold befP sameE at *; omega⟩
        · exact Or.inl ⟨List.mem_cons_of_mem _ e, e2⟩
        · refine Or.inr ⟨e, fun b hb' hs => ?_⟩
          rcases List.mem_cons.1 hb' with e3 | e3
          · subst e3; unfold befP sameE at *; omega
          · exact e2 b e3 hs
      · rintro (⟨e, e2⟩ | ⟨e, e2⟩)
        · rcases List.mem_cons.1 e with e3 | e3
          · exact Or.inl e3
          · exact Or.inr (Or.inl ⟨e3, e2⟩)
        · exact Or.inr (Or.inr ⟨e, fun b hb' hs => e2 b (List.mem_cons_of_mem _ hb') hs⟩)
    · split
      · rename_i hb
        rw [List.mem_cons]
        have hno : ∀ b ∈ a :: r, ¬ sameE b t := fun b hb' hs => by
          rcases List.mem_cons.1 hb' with e3 | e3
          · subst e3; unfold befP sameE at *; omega
          · have := h1 _ e3; unfold befP sameE at *; omega
        constructor
        · rintro (e | e)
          · exact Or.inr ⟨e, fun b hb' hs => absurd hs (hno b hb')⟩
          · exact Or.inl ⟨e, fun hs => absurd hs (hno x e)⟩
        · rintro (⟨e, _⟩ | ⟨e, _⟩)
          · exact Or.inr e
          · exact Or.inl e
      · rename_i hb hb2
        have h3 : sameE a t := by rcases befP_three a t with h | h | h; exact absurd h hb; exact h; exact absurd h hb2
        have hno : ∀ b ∈ r, ¬ sameE b t := fun b hb' hs => by
          have := h1 _ hb'; unfold befP sameE at *; omega
        rw [List.mem_cons]
        constructor
        · rintro (e | e)
          · by_cases hc : a.c ≤ t.c
            · refine Or.inl ⟨?_, fun _ => by subst e; simp only; omega⟩
              have : x = a := by
                subst e
                obtain ⟨i, j, c⟩ := a
                unfold sameE at h3
                simp only at h3 hc
                rw [h3.1, h3.2]
                simp only [Tm.mk.injEq, true_and]
                omega
              rw [this]; simp
            · refine Or.inr ⟨?_, fun b hb' hs => ?_⟩
              · subst e
                obtain ⟨i, j, c⟩ := t
                simp only [Tm.mk.injEq, true_and]
                simp only at hc
                omega
              · rcases List.mem_cons.1 hb' with e3 | e3
                · subst e3; omega
                · exact absurd hs (hno b e3)
          · exact Or.inl ⟨List.mem_cons_of_mem _ e, fun hs => absurd hs (hno x e)⟩
        · rintro (⟨e, e2⟩ | ⟨e, e2⟩)
          · rcases List.mem_cons.1 e with e3 | e3
            · left
              subst e3
              have := e2 h3
              obtain ⟨i, j, c⟩ := x
              unfold sameE at h3
              simp only at h3 this ⊢
              rw [h3.1, h3.2]
              simp only [Tm.mk.injEq, true_and]
              omega
            · exact Or.inr e3
          · left
            have := e2 a (by simp) h3
            subst e
            obtain ⟨i, j, c⟩ := x
            simp only [Tm.mk.injEq, true_and]
            simp only at this
            omega
theorem fold_gth : ∀ (m l0 l : List Tm), StrictT l → (∀ t, t ∈ l ↔ Lst l0 t) → StrictT (m.foldl putT l) ∧ ∀ t, t ∈ m.foldl putT l ↔ Lst (l0 ++ m) t
  | [], l0, l, h, hm => ⟨h, fun t => by rw [List.append_nil]; exact hm t⟩
  | u :: m, l0, l, h, hm => by
    have := fold_gth m (l0 ++ [u]) (putT l u) (putT_strict h) (fun t => by
      rw [putT_iff h]
      unfold Lst at *
      constructor
      · rintro (⟨e, e2⟩ | ⟨e, e2⟩)
        · obtain ⟨e3, e4⟩ := (hm t).1 e
          refine ⟨List.mem_append_left _ e3, fun v hv hs => ?_⟩
          rcases List.mem_append.1 hv with h5 | h5
          · exact e4 v h5 hs
          · simp at h5; subst h5; exact e2 ⟨hs.1.symm, hs.2.symm⟩
        · subst e
          refine ⟨by simp, fun v hv hs => ?_⟩
          rcases List.mem_append.1 hv with h5 | h5
          · -- the least of those like v in l0
            have hex : ∀ k : List Tm, ∀ v ∈ k, ∃ y ∈ k, sameE y v ∧ ∀ z ∈ k, sameE z y → y.c ≤ z.c := by
              intro k
              induction k with
              | nil => intro v hv; cases hv
              | cons b k ih =>
                intro v hv
                by_cases hk : ∃ z ∈ k, sameE z v
                · obtain ⟨z, hz, hzs⟩ := hk
                  obtain ⟨y, hy, hys, hyl⟩ := ih z hz
                  by_cases hb : sameE b v
                  · by_cases hc : b.c ≤ y.c
                    · refine ⟨b, by simp, hb, fun q hq hqs => ?_⟩
                      rcases List.mem_cons.1 hq with e | e
                      · subst e; omega
                      · have := hyl q e (by unfold sameE at *; omega); omega
                    · refine ⟨y, List.mem_cons_of_mem _ hy, by unfold sameE at *; omega, fun q hq hqs => ?_⟩
                      rcases List.mem_cons.1 hq with e | e
                      · subst e; omega
                      · exact hyl q e hqs
                  · refine ⟨y, List.mem_cons_of_mem _ hy, by unfold sameE at *; omega, fun q hq hqs => ?_⟩
                    rcases List.mem_cons.1 hq with e | e
                    · subst e; unfold sameE at *; omega
                    · exact hyl q e hqs
                · have hvb : v = b := by
                    rcases List.mem_cons.1 hv with e | e
                    · exact e
                    · exact absurd ⟨v, e, rfl, rfl⟩ hk
                  subst hvb
                  refine ⟨v, by simp, ⟨rfl, rfl⟩, fun q hq hqs => ?_⟩
                  rcases List.mem_cons.1 hq with e | e
                  · subst e; omega
                  · exact absurd ⟨q, e, hqs⟩ hk
            obtain ⟨y, hy, hys, hyl⟩ := hex l0 v h5
            have h6 : y ∈ l := (hm y).2 ⟨hy, hyl⟩
            have h7 := e2 y h6 (by unfold sameE at *; omega)
            have h8 := hyl v h5 (by unfold sameE at *; omega)
            omega
          · simp at h5; subst h5; omega
      · rintro ⟨e, e2⟩
        rcases List.mem_append.1 e with h5 | h5
        · exact Or.inl ⟨(hm t).2 ⟨h5, fun v hv hs => e2 v (List.mem_append_left _ hv) hs⟩, fun hs => e2 u (by simp) ⟨hs.1.symm, hs.2.symm⟩⟩
        · simp at h5
          subst h5
          exact Or.inr ⟨rfl, fun v hv hs => e2 v (List.mem_append_left _ ((hm v).1 hv).1) hs⟩)
    rw [List.append_assoc] at this
    exact this
theorem gth_strict (l : List Tm) : StrictT (gth l) := (fold_gth l [] [] List.Pairwise.nil (fun t => by simp [Lst])).1
theorem gth_mem (l : List Tm) (t : Tm) : t ∈ gth l ↔ Lst l t := by
  unfold gth
  have := (fold_gth l [] [] List.Pairwise.nil (fun t => by simp [Lst])).2 t
  simpa using this
/-- Of terms with the same exponents there is a least. -/
theorem lst_ex : ∀ {l : List Tm} {v : Tm}, v ∈ l → ∃ y, Lst l y ∧ sameE y v
  | [], _, hv => by cases hv
  | b :: k, v, hv => by
    by_cases hk : ∃ z ∈ k, sameE z v
    · obtain ⟨z, hz, hzs⟩ := hk
      obtain ⟨y, ⟨hy, hyl⟩, hys⟩ := lst_ex hz
      by_cases hb : sameE b v
      · by_cases hc : b.c ≤ y.c
        · refine ⟨b, ⟨by simp, fun q hq hqs => ?_⟩, hb⟩
          rcases List.mem_cons.1 hq with e | e
          · subst e; omega
          · have := hyl q e (by unfold sameE at *; omega); omega
        · refine ⟨y, ⟨List.mem_cons_of_mem _ hy, fun q hq hqs => ?_⟩, by unfold sameE at *; omega⟩
          rcases List.mem_cons.1 hq with e | e
          · subst e; omega
          · exact hyl q e hqs
      · refine ⟨y, ⟨List.mem_cons_of_mem _ hy, fun q hq hqs => ?_⟩, by unfold sameE at *; omega⟩
        rcases List.mem_cons.1 hq with e | e
        · subst e; unfold sameE at *; omega
        · exact hyl q e hqs
    · have hvb : v = b := by
        rcases List.mem_cons.1 hv with e | e
        · exact e
        · exact absurd ⟨v, e, rfl, rfl⟩ hk
      subst hvb
      refine ⟨v, ⟨by simp, fun q hq hqs => ?_⟩, ⟨rfl, rfl⟩⟩
      rcases List.mem_cons.1 hq with e | e
      · subst e; omega
      · exact absurd ⟨q, e, hqs⟩ hk
theorem lst_perm {l m : List Tm} (h : l.Perm m) (t : Tm) : Lst l t ↔ Lst m t := by
  unfold Lst
  rw [h.mem_iff]
  constructor
  · rintro ⟨a, b⟩; exact ⟨a, fun u hu => b u (h.mem_iff.2 hu)⟩
  · rintro ⟨a, b⟩; exact ⟨a, fun u hu => b u (h.mem_iff.1 hu)⟩

/-! ### Sorted terms, the first of each -/
/-- Terms in order: exponents, then coefficients. -/
def ltTm (p q : Tm) : Bool := decide (p.i < q.i) || (decide (p.i = q.i) && (decide (p.j < q.j) || (decide (p.j = q.j) && decide (p.c < q.c))))
def cmpT (p : Tm) : List Tm → List Tm
  | [] => []
  | b :: r => if sameE b p then cmpT b r else b :: cmpT b r
def compT : List Tm → List Tm
  | [] => []
  | a :: r => a :: cmpT a r
theorem cmpT_spec : ∀ (r : List Tm) (p : Tm), (p :: r).Pairwise (fun a b => ltTm b a = false) → (p :: cmpT p r).Pairwise befP ∧ ∀ t, t ∈ p :: cmpT p r ↔ Lst (p :: r) t
  | [], p, _ => by
    refine ⟨List.pairwise_singleton _ _, fun t => ?_⟩
    simp only [cmpT, List.mem_singleton, Lst]
    constructor
    · rintro rfl; exact ⟨rfl, fun u hu _ => by subst hu; omega⟩
    · exact fun h => h.1
  | b :: r, p, h => by
    have hp := (List.pairwise_cons.1 h).1
    have hb : ltTm b p = false := hp b (by simp)
    have hle : ∀ q, ltTm q p = false → befP p q ∨ (sameE p q ∧ p.c ≤ q.c) := fun q hq => by
      unfold ltTm at hq
      unfold befP sameE
      simp only [Bool.or_eq_false_iff, Bool.and_eq_false_iff, decide_eq_false_iff_not] at hq
      omega
    rw [cmpT]
    by_cases hs : sameE b p
    · rw [if_pos hs]
      -- p stands for b
      have h2 : (p :: r).Pairwise (fun a b => ltTm b a = false) := List.pairwise_cons.2 ⟨fun q hq => hp q (List.mem_cons_of_mem _ hq), (List.pairwise_cons.1 (List.pairwise_cons.1 h).2).2⟩
      have hcm : cmpT b r = cmpT p r := by
        cases r with
        | nil => rfl
        | cons x r => unfold cmpT; have : sameE x b ↔ sameE x p := by unfold sameE at *; omega
                      by_cases hx : sameE x p
                      · rw [if_pos (this.2 hx), if_pos hx]
                      · rw [if_neg (fun e => hx (this.1 e)), if_neg hx]
      rw [hcm]
      obtain ⟨k1, k2⟩ := cmpT_spec r p h2
      refine ⟨k1, fun t => (k2 t).trans ?_⟩
      have hbc : p.c ≤ b.c := by rcases hle b hb with e | e; unfold befP sameE at *; omega; exact e.2
      unfold Lst
      constructor
      · rintro ⟨e1, e2⟩
        refine ⟨?_, fun u hu hus => ?_⟩
        · rcases List.mem_cons.1 e1 with e | e
          · simp [e]
          · simp [e]
        · rcases List.mem_cons.1 hu with e | e
          · exact e2 u (by simp [e]) hus
          · rcases List.mem_cons.1 e with e | e
            · subst e
              have := e2 p (by simp) (by unfold sameE at *; omega)
              omega
            · exact e2 u (by simp [e]) hus
      · rintro ⟨e1, e2⟩
        refine ⟨?_, fun u hu hus => e2 u (by rcases List.mem_cons.1 hu with e | e <;> simp [e]) hus⟩
        rcases List.mem_cons.1 e1 with e | e
        · simp [e]
        · rcases List.mem_cons.1 e with e | e
          · have := e2 p (by simp) (by subst e; unfold sameE at *; omega)
            have : t = p := by
              subst e
              obtain ⟨i, j, c⟩ := t
              obtain ⟨i2, j2, c2⟩ := p
              unfold sameE at hs
              simp only at hs this hbc
              simp only [Tm.mk.injEq]
              omega
            simp [this]
          · simp [e]
    · rw [if_neg hs]
      obtain ⟨k1, k2⟩ := cmpT_spec r b (List.pairwise_cons.1 h).2
      have hpb : ∀ q ∈ b :: r, befP p q := fun q hq => by
        have hq' : befP b q ∨ sameE b q := by
          rcases List.mem_cons.1 hq with e | e
          · exact Or.inr (by subst e; exact ⟨rfl, rfl⟩)
          · have := (List.pairwise_cons.1 (List.pairwise_cons.1 h).2).1 q e
            unfold ltTm at this
            unfold befP sameE
            simp only [Bool.or_eq_false_iff, Bool.and_eq_false_iff, decide_eq_false_iff_not] at this
            omega
        rcases hle b hb with e | e
        · unfold befP sameE at *; omega
        · unfold sameE at *; omega
      refine ⟨List.pairwise_cons.2 ⟨fun q hq => hpb q ((k2 q).1 hq).1, k1⟩, fun t => ?_⟩
      rw [List.mem_cons, k2 t]
      unfold Lst
      constructor
      · rintro (e | ⟨e1, e2⟩)
        · subst e
          refine ⟨by simp, fun u hu hus => ?_⟩
          rcases List.mem_cons.1 hu with e | e
          · subst e; omega
          · have := hpb u e; unfold befP sameE at *; omega
        · refine ⟨List.mem_cons_of_mem _ e1, fun u hu hus => ?_⟩
          rcases List.mem_cons.1 hu with e | e
          · subst e; have := hpb t e1; unfold befP sameE at *; omega
          · exact e2 u e hus
      · rintro ⟨e1, e2⟩
        rcases List.mem_cons.1 e1 with e | e
        · exact Or.inl e
        · exact Or.inr ⟨e, fun u hu hus => e2 u (List.mem_cons_of_mem _ hu) hus⟩
/-- THE SORTED LIST WITH THE FIRST OF EACH IS THE GATHERED ONE. -/
theorem comp_gth {l s : List Tm} (hp : s.Perm l) (hs : s.Pairwise (fun a b => ltTm b a = false)) : compT s = gth l := by
  cases s with
  | nil => rw [List.nil_perm.1 hp]; rfl
  | cons a r =>
    obtain ⟨k1, k2⟩ := cmpT_spec r a hs
    refine strictT_ext k1 (gth_strict l) fun t => ?_
    rw [gth_mem, ← lst_perm hp]
    exact k2 t

/-! ### Values, degrees, exchange -/
def vlT (x y : Int) (t : Tm) : Int := t.c + t.i * x + t.j * y
def LeastF (f : Tm → Int) (l : List Tm) (m : Int) : Prop := (∃ t ∈ l, f t = m) ∧ ∀ t ∈ l, m ≤ f t
theorem leastF_one {f : Tm → Int} {l : List Tm} {m n : Int} (h : LeastF f l m) (k : LeastF f l n) : m = n := by
  obtain ⟨⟨t, ht, e⟩, h2⟩ := h
  obtain ⟨⟨u, hu, e2⟩, k2⟩ := k
  have := h2 u hu
  have := k2 t ht
  omega
theorem leastF_gth {x y m : Int} {l : List Tm} (h : LeastF (vlT x y) l m) : LeastF (vlT x y) (gth l) m := by
  obtain ⟨⟨t, ht, e⟩, h2⟩ := h
  refine ⟨?_, fun u hu => h2 u ((gth_mem l u).1 hu).1⟩
  obtain ⟨z, hz, hs⟩ := lst_ex ht
  refine ⟨z, (gth_mem l z).2 hz, ?_⟩
  have h3 := hz.2 t ht ⟨hs.1.symm, hs.2.symm⟩
  have h4 := h2 z hz.1
  unfold vlT at *
  rw [hs.1, hs.2] at h4 ⊢
  omega
def addT (s t : Tm) : Tm := ⟨s.i + t.i, s.j + t.j, s.c + t.c⟩
def prdL (a b : List Tm) : List Tm := a.flatMap fun s => b.map (addT s)
theorem prd_mem {a b : List Tm} {z : Tm} : z ∈ prdL a b ↔ ∃ s ∈ a, ∃ t ∈ b, z = addT s t := by
  unfold prdL
  rw [List.mem_flatMap]
  constructor
  · rintro ⟨s, hs, h⟩
    obtain ⟨t, ht, e⟩ := List.mem_map.1 h
    exact ⟨s, hs, t, ht, e.symm⟩
  · rintro ⟨s, hs, t, ht, e⟩
    exact ⟨s, hs, List.mem_map.2 ⟨t, ht, e.symm⟩⟩
theorem vlT_add (x y : Int) (s t : Tm) : vlT x y (addT s t) = vlT x y s + vlT x y t := by
  unfold vlT addT
  simp only [Int.add_mul]
  omega
theorem value_prod {x y m n : Int} {a b : List Tm} (h : LeastF (vlT x y) a m) (k : LeastF (vlT x y) b n) : LeastF (vlT x y) (gth (prdL a b)) (m + n) := by
  apply leastF_gth
  obtain ⟨⟨s, hs, e⟩, h2⟩ := h
  obtain ⟨⟨t, ht, e2⟩, k2⟩ := k
  refine ⟨⟨addT s t, prd_mem.2 ⟨s, hs, t, ht, rfl⟩, by rw [vlT_add]; omega⟩, fun z hz => ?_⟩
  obtain ⟨s', hs', t', ht', rfl⟩ := prd_mem.1 hz
  rw [vlT_add]
  have := h2 s' hs'
  have := k2 t' ht'
  omega
theorem value_sum {x y m n : Int} {a b : List Tm} (h : LeastF (vlT x y) a m) (k : LeastF (vlT x y) b n) : LeastF (vlT x y) (gth (a ++ b)) (min m n) := by
  apply leastF_gth
  obtain ⟨⟨s, hs, e⟩, h2⟩ := h
  obtain ⟨⟨t, ht, e2⟩, k2⟩ := k
  refine ⟨?_, fun z hz => ?_⟩
  · by_cases hc : m ≤ n
    · exact ⟨s, by simp [hs], by omega⟩
    · exact ⟨t, by simp [ht], by omega⟩
  · rcases List.mem_append.1 hz with h5 | h5
    · have := h2 z h5; omega
    · have := k2 z h5; omega
/-- Degrees. -/
def dgT (t : Tm) : Int := -(t.i + t.j)
theorem deg_gth {l : List Tm} {m : Int} (h : LeastF dgT l m) : LeastF dgT (gth l) m := by
  obtain ⟨⟨t, ht, e⟩, h2⟩ := h
  refine ⟨?_, fun u hu => h2 u ((gth_mem l u).1 hu).1⟩
  obtain ⟨z, hz, hs⟩ := lst_ex ht
  refine ⟨z, (gth_mem l z).2 hz, ?_⟩
  unfold dgT at *
  rw [hs.1, hs.2]; exact e
theorem deg_prod {m n : Int} {a b : List Tm} (h : LeastF dgT a m) (k : LeastF dgT b n) : LeastF dgT (gth (prdL a b)) (m + n) := by
  apply deg_gth
  have ha : ∀ s t, dgT (addT s t) = dgT s + dgT t := fun s t => by unfold dgT addT; simp only; omega
  obtain ⟨⟨s, hs, e⟩, h2⟩ := h
  obtain ⟨⟨t, ht, e2⟩, k2⟩ := k
  refine ⟨⟨addT s t, prd_mem.2 ⟨s, hs, t, ht, rfl⟩, by rw [ha]; omega⟩, fun z hz => ?_⟩
  obtain ⟨s', hs', t', ht', rfl⟩ := prd_mem.1 hz
  rw [ha]
  have := h2 s' hs'
  have := k2 t' ht'
  omega
/-- Exchange. -/
def swT (t : Tm) : Tm := ⟨t.j, t.i, t.c⟩
def swpT (l : List Tm) : List Tm := gth (l.map swT)
theorem lst_uniq {l : List Tm} (h : ∀ a ∈ l, ∀ b ∈ l, sameE a b → a = b) (t : Tm) : Lst l t ↔ t ∈ l :=
  ⟨fun h => h.1, fun ht => ⟨ht, fun u hu hs => by rw [h u hu t ht hs]; omega⟩⟩
theorem swT_two (t : Tm) : swT (swT t) = t := rfl
theorem swp_mem {l : List Tm} (h : StrictT l) (t : Tm) : t ∈ swpT l ↔ swT t ∈ l := by
  unfold swpT
  rw [gth_mem, lst_uniq]
  · rw [List.mem_map]
    constructor
    · rintro ⟨a, ha, e⟩; rw [← e]; exact ha
    · intro h; exact ⟨swT t, h, rfl⟩
  · intro a ha b hb hs
    obtain ⟨a', ha', rfl⟩ := List.mem_map.1 ha
    obtain ⟨b', hb', rfl⟩ := List.mem_map.1 hb
    rw [strictT_one h ha' hb' ⟨hs.2, hs.1⟩]
theorem swp_two {l : List Tm} (h : StrictT l) : swpT (swpT l) = l := by
  refine strictT_ext (gth_strict _) h fun t => ?_
  rw [swp_mem (show StrictT (swpT l) from gth_strict _), swp_mem h]
  rfl
theorem strict_nodup {l : List Tm} (h : StrictT l) : l.Nodup := by
  refine List.Pairwise.imp (fun {a b} hab e => ?_) h
  subst e
  exact befP_irr hab hab
theorem nodup_leT : ∀ {m l : List Tm}, m.Nodup → (∀ x, x ∈ m → x ∈ l) → m.length ≤ l.length
  | [], _, _, _ => by simp
  | a :: m, l, hn, hs => by
    have h1 := nodup_leT (m := m) (l := l.erase a) (List.nodup_cons.1 hn).2 fun x hx => by
      have hne : x ≠ a := fun e => (List.nodup_cons.1 hn).1 (e ▸ hx)
      exact (List.mem_erase_of_ne hne).2 (hs x (List.mem_cons_of_mem _ hx))
    rw [List.length_erase_of_mem (hs a (by simp))] at h1
    have : 0 < l.length := List.length_pos_of_mem (hs a (by simp))
    simp only [List.length_cons]
    omega
theorem gth_len (l : List Tm) : (gth l).length ≤ l.length := nodup_leT (strict_nodup (gth_strict l)) fun x hx => ((gth_mem l x).1 hx).1
theorem gth_pos {l : List Tm} (h : 0 < l.length) : 0 < (gth l).length := by
  obtain ⟨y, hy, _⟩ := lst_ex (List.getElem_mem h)
  exact List.length_pos_of_mem ((gth_mem l y).2 hy)
end Go.Proofs.YtbafgmicpopnoaaGreatDoor

/-
  When n vertices and links are a graph: the reference's chGood and the program's isGraph answer the same Bool.
-/
namespace Go.Proofs.YtbafgmicpopnoaaGreatDoor
open Go.RowKit

def lkOk (n : Int) (x : Lk) : Bool := inB x.b 1 (n-1) && inB x.a 0 (x.b-1) && inB x.n 1 5
def lkLt (x y : Lk) : Bool := decide (x.a < y.a ∨ (x.a = y.a ∧ x.b < y.b))
def goodAt (n : Int) (ls : List Lk) (i : Nat) : Bool := lkOk n (ls.getD i Lk.z) && (i == 0 || lkLt (ls.getD (i-1) Lk.z) (ls.getD i Lk.z))
def goodL (n : Int) (ls : List Lk) : Bool := inB n 1 8 && (List.range ls.length).all (goodAt n ls)

theorem goodL_n {n : Int} {ls : List Lk} (h : inB n 1 8 = false) : goodL n ls = false := by simp [goodL, h]
theorem goodL_false {n : Int} {ls : List Lk} {k : Nat} (hk : k < ls.length) (h : goodAt n ls k = false) : goodL n ls = false := by
  simp only [goodL, Bool.and_eq_false_iff, List.all_eq_false]
  exact Or.inr ⟨k, by simpa using hk, by simp [h]⟩
theorem goodL_true {n : Int} {ls : List Lk} (hn : inB n 1 8 = true) (h : ∀ j, j < ls.length → goodAt n ls j = true) : goodL n ls = true := by
  simp only [goodL, Bool.and_eq_true, List.all_eq_true]
  exact ⟨hn, fun j hj => h j (by simpa using hj)⟩

/-- What one link's tests come to. -/
theorem goodAt_bad {n : Int} {ls : List Lk} {k : Nat} {x : Lk} (hx : ls.getD k Lk.z = x) (h : lkOk n x = false) : goodAt n ls k = false := by unfold goodAt; rw [hx, h]; rfl
theorem goodAt_head {n : Int} {ls : List Lk} {k : Nat} {x : Lk} (hx : ls.getD k Lk.z = x) (h : lkOk n x = true) (hk : k = 0) : goodAt n ls k = true := by unfold goodAt; rw [hx, h, hk]; rfl
theorem goodAt_next {n : Int} {ls : List Lk} {k : Nat} {x p : Lk} (hx : ls.getD k Lk.z = x) (hp : ls.getD (k-1) Lk.z = p) (h : lkOk n x = true) (hk : k ≠ 0) : goodAt n ls k = lkLt p x := by unfold goodAt; rw [hx, hp, h]; simp [hk]

set_option maxHeartbeats 400000 in
theorem l1In_any (n lo hi : Int) (w : World) :
    Calls Tryz.prog 62 #[.int .i64 n, .int .i64 lo, .int .i64 hi] w fun e w' => e = .returned (.bool (inB n lo hi)) ∧ w = w' := by
  go_enter Tryz.func62, Tryz.ntmps62
  go_wp2
  all_goals go_ret
  · exact ⟨ret_bool (by simp [inB, *]), rfl⟩
  · exact ⟨ret_bool (by simp [inB]; omega), rfl⟩

set_option maxHeartbeats 400000 in
theorem within_any (n lo hi : Int) (w : World) :
    Calls Tryz.prog 52 #[.int .i64 n, .int .i64 lo, .int .i64 hi] w fun e w' => e = .returned (.bool (inB n lo hi)) ∧ w = w' := by
  go_enter Tryz.func52, Tryz.ntmps52
  go_wp2
  all_goals go_ret
  · exact ⟨ret_bool (by simp [inB, *]), rfl⟩
  · exact ⟨ret_bool (by simp [inB]; omega), rfl⟩

end Go.Proofs.YtbafgmicpopnoaaGreatDoor

/-
  Numbers with infinity: the program's functions and the reference's. Printed by gen_num.py.
-/
namespace Go.Proofs.YtbafgmicpopnoaaGreatDoor
open Go.RowKit

def numB (n : Int) : Bool := inB n (-1000000) 1000000 || n == 1000000000
theorem numB_t {n : Int} (h : numB n = true) : (-1000000 ≤ n ∧ n ≤ 1000000) ∨ n = 1000000000 := by
  unfold numB at h
  rcases Bool.or_eq_true_iff.1 h with h | h
  · exact Or.inl (inB_t.1 h)
  · exact Or.inr (by simpa using h)
theorem numB_bd {n : Int} (h : numB n = true) : -1000000 ≤ n ∧ n ≤ 1000000000 := by have := numB_t h; omega
def prodZ (a b : Int) : Int := if a = 1000000000 ∨ b = 1000000000 then 1000000000 else a + b
theorem prodZ_bd {a b : Int} {A B : Int} (hA : 0 ≤ A ∧ A ≤ 4000000000000) (hB : 0 ≤ B ∧ B ≤ 4000000000000) (ha : -A ≤ a ∧ a ≤ A) (hb : -B ≤ b ∧ b ≤ B) : -(A + B + 1000000000) ≤ prodZ a b ∧ prodZ a b ≤ A + B + 1000000000 := by
  unfold prodZ; split <;> omega
def toldZ (n : Int) : Int := if numB n = true then n else 0
def pairV (n : Int) (b : Bool) : Value := .tuple #[.int .i64 n, .bool b]
def leastZ (a b : Int) : Int := if a < b then a else b
theorem leastZ_min (a b : Int) : leastZ a b = min a b := by unfold leastZ; split <;> omega

set_option maxHeartbeats 800000 in
theorem isFinite_c (n : Int) (w : World) :
    Calls Tryz.prog 53 #[.int .i64 n] w fun e w' => e = .returned (.bool (inB n (-1000000) 1000000)) ∧ w = w' := by
  go_enter Tryz.func53, Tryz.ntmps53
  go_wp2
  all_goals go_ret
  · exact ⟨ret_bool (by simp [inB, *]), rfl⟩
  · exact ⟨ret_bool (by simp [inB]; omega), rfl⟩

set_option maxHeartbeats 800000 in
theorem isNumber_c (n : Int) (w : World) :
    Calls Tryz.prog 42 #[.int .i64 n] w fun e w' => e = .returned (.bool (numB n)) ∧ w = w' := by
  have c := fun w => isFinite_c n w
  unfold numB
  generalize inB n (-1000000) 1000000 = u at c ⊢
  have C := Lib.hid c; clear c
  cases u
  case true =>
    go_enter Tryz.func42, Tryz.ntmps42
    go_wp2_with fail
    refine (C.out _).mono ?_
    rintro e w' ⟨rfl, rfl⟩
    go_wp2_with fail
    go_ret
    exact ⟨rfl, rfl⟩
  case false =>
    go_enter Tryz.func42, Tryz.ntmps42
    go_wp2_with fail
    refine (C.out _).mono ?_
    rintro e w' ⟨rfl, rfl⟩
    go_wp2_with fail
    go_ret
    exact ⟨ret_bool (by simp), rfl⟩

set_option maxHeartbeats 800000 in
theorem nuGood_c (n : Int) (w : World) :
    Calls Tryz.prog 88 #[.int .i64 n] w fun e w' => e = .returned (.bool (numB n)) ∧ w = w' := by
  have c := fun w => l1In_any n (-1000000) 1000000 w
  unfold numB
  generalize inB n (-1000000) 1000000 = u at c ⊢
  have C := Lib.hid c; clear c
  by_cases h : n = 1000000000
  · subst h
    go_enter Tryz.func88, Tryz.ntmps88
    go_wp2_with fail
    go_ret
    exact ⟨ret_bool (by simp), rfl⟩
  · have h1 : (n == 1000000000) = false := beq_eq_false_iff_ne.2 h
    go_enter Tryz.func88, Tryz.ntmps88
    go_wp2_with fail
    refine (C.out _).mono ?_
    rintro e w' ⟨rfl, rfl⟩
    go_wp2_with fail
    go_ret
    exact ⟨ret_bool (by simp [h1]), rfl⟩

set_option maxHeartbeats 800000 in
theorem told_c (n : Int) (w : World) :
    Calls Tryz.prog 36 #[.int .i64 n] w fun e w' => e = .returned (pairV (toldZ n) (numB n)) ∧ w = w' := by
  have c := fun w => isNumber_c n w
  unfold toldZ pairV
  generalize numB n = u at c ⊢
  have C := Lib.hid c; clear c
  cases u
  case true =>
    go_enter Tryz.func36, Tryz.ntmps36
    go_wp2_with fail
    refine (C.out _).mono ?_
    rintro e w' ⟨rfl, rfl⟩
    go_wp2_with fail
    go_ret2
    exact ⟨rfl, rfl⟩
  case false =>
    go_enter Tryz.func36, Tryz.ntmps36
    go_wp2_with fail
    refine (C.out _).mono ?_
    rintro e w' ⟨rfl, rfl⟩
    go_wp2_with fail
    go_ret2
    exact ⟨rfl, rfl⟩

set_option maxHeartbeats 800000 in
theorem l1Least_n (a b : Int) (w : World) :
    Calls Tryz.prog 64 #[.int .i64 a, .int .i64 b] w fun e w' => e = .returned (.int .i64 (leastZ a b)) ∧ w = w' := by
  unfold leastZ
  by_cases h : a < b
  · rw [if_pos h]
    go_enter Tryz.func64, Tryz.ntmps64
    go_wp2_with fail
    go_ret
    exact ⟨rfl, rfl⟩
  · rw [if_neg h]
    go_enter Tryz.func64, Tryz.ntmps64
    go_wp2_with fail
    go_ret
    exact ⟨rfl, rfl⟩

def finB (n : Int) : Bool := inB n (-1000000) 1000000

set_option maxHeartbeats 800000 in
theorem areFinite_c (ad : Option Addr) (cap : Nat) (l : List Int) (w : World) (hr : RdI w ad l) (hl : l.length ≤ 1048576) :
    Calls Tryz.prog 35 #[.slice ad l.length cap] w fun e w' => e = .returned (.bool (l.all finB)) ∧ w = w' := by
  have HR := Lib.hid hr; clear hr
  obtain ⟨A, hA⟩ : ∃ A, l.all finB = A := ⟨_, rfl⟩
  rw [hA]
  have HA := Lib.hid hA; clear hA
  go_enter Tryz.func35, Tryz.ntmps35
  go_wp2_with fail
  go_loopw [7] (fun i wr => ∃ k : Nat, k ≤ l.length ∧ i = .int .i64 k ∧ (l.take k).all finB = true ∧ w = wr) (fun i _ => l.length - (intOf i).toNat)
  case atStart => exact ⟨0, Nat.zero_le _, rfl, by simp, rfl⟩
  case round =>
    obtain ⟨k, hk, rfl, hall, rfl⟩ := hrel
    have HALL := Lib.hid hall; clear hall
    by_cases hlt : k < l.length
    case neg =>
      obtain rfl : k = l.length := by omega
      obtain rfl : A = true := by rw [← HA.out]; have := HALL.out; rwa [List.take_length] at this
      go_wp2_with fail
      go_ret
      exact ⟨rfl, rfl⟩
    case pos =>
      obtain ⟨b, off, rfl, hb, c0⟩ := HR.out k hlt
      obtain ⟨p, hp⟩ : ∃ x, l.getD k 0 = x := ⟨_, rfl⟩
      rw [hp] at c0
      have cb := fun w => isFinite_c p w
      have hst := Lib.hid (show (l.take (k + 1)).all finB = ((l.take k).all finB && finB p) by rw [List.take_succ_eq_append_getElem hlt, List.all_append, ← hp, List.getD_eq_getElem?_getD, List.getElem?_eq_getElem hlt]; simp)
      have hmem := Lib.hid (show finB p = false → A = false from fun h => by
        rw [← HA.out]
        cases hc : l.all finB
        · rfl
        · have := List.all_eq_true.1 hc p (by rw [← hp, List.getD_eq_getElem?_getD, List.getElem?_eq_getElem hlt, Option.getD_some]; exact List.getElem_mem _)
          rw [h] at this; exact absurd this (by simp))
      change ∀ w, Calls _ _ _ w (fun e w' => e = .returned (.bool (finB p)) ∧ w = w') at cb
      generalize finB p = u at cb hst hmem
      have CB := Lib.hid cb; clear cb hp
      cases u
      case false =>
        obtain rfl := hmem.out rfl
        go_wp2_with fail
        refine (CB.out _).mono ?_
        rintro e w1 ⟨rfl, rfl⟩
        go_wp2_with fail
        go_ret
        exact ⟨rfl, rfl⟩
      case true =>
        go_wp2_with fail
        refine (CB.out _).mono ?_
        rintro e w1 ⟨rfl, rfl⟩
        go_wp2_with fail
        go_roundw
        case rel => exact ⟨k + 1, by omega, by go_num, by rw [hst.out, HALL.out]; rfl, trivial⟩
        case measure => simp [intOf]; omega

end Go.Proofs.YtbafgmicpopnoaaGreatDoor

/-
  Tropical sums, products, quotients and powers of numbers: program and reference. Printed by gen_trop.py.
-/
namespace Go.Proofs.YtbafgmicpopnoaaGreatDoor
open Go.RowKit

def okAB (a b : Int) : Bool := numB a && numB b
def sumR (a b : Int) : Int × Bool := if okAB a b = true then (leastZ a b, true) else (0, false)
def prodR (a b : Int) : Int × Bool := if okAB a b = true then (toldZ (prodZ a b), numB (prodZ a b)) else (0, false)
def quotR (a b : Int) : Int × Bool := if okAB a b = true ∧ b ≠ 1000000000 then (toldZ (prodZ a (-b)), numB (prodZ a (-b))) else (0, false)
def powZ (a k : Int) : Int := if k = 0 then 0 else if a = 1000000000 then 1000000000 else k * a
def powR (a k : Int) : Int × Bool := if numB a = true ∧ inB k 0 20 = true then (toldZ (powZ a k), numB (powZ a k)) else (0, false)
def pairR (r : Int × Bool) : Value := pairV r.1 r.2
theorem okAB_t {a b : Int} (h : okAB a b = true) : numB a = true ∧ numB b = true := Bool.and_eq_true_iff.1 h
theorem powZ_bd {a k : Int} (ha : numB a = true) (hk : 0 ≤ k ∧ k ≤ 20) : -20000000 ≤ powZ a k ∧ powZ a k ≤ 1000000000 := by
  unfold powZ
  split
  · omega
  · split
    · omega
    · rename_i h1 h2
      have h3 := numB_t ha
      rcases h3 with h3 | h3
      · have h4 : -(20 * 1000000) ≤ k * a ∧ k * a ≤ 20 * 1000000 := by
          have h5 : (k * a).natAbs ≤ 20 * 1000000 := by
            rw [Int.natAbs_mul]
            exact Nat.mul_le_mul (by omega) (by omega)
          omega
        omega
      · exact absurd h3 h2
theorem powZ_step {a : Int} {k : Nat} (ha : numB a = true) (hk : k ≤ 19) : prodZ (powZ a k) a = powZ a ((k : Int) + 1) := by
  have h3 := numB_t ha
  by_cases hi : a = 1000000000
  · unfold prodZ powZ
    rw [if_pos (Or.inr hi), if_neg (by omega), if_pos hi]
  · have hb := powZ_bd ha (k := k) ⟨by omega, by omega⟩
    have e1 : powZ a k = k * a := by
      unfold powZ
      by_cases h0 : (k : Int) = 0
      · rw [if_pos h0, h0]; omega
      · rw [if_neg h0, if_neg hi]
    have hb2 : (powZ a k).natAbs ≤ 20000000 := by
      rw [e1, Int.natAbs_mul]
      have : ((k : Int)).natAbs * a.natAbs ≤ 20 * 1000000 := Nat.mul_le_mul (by omega) (by omega)
      omega
    have e2 : powZ a ((k : Int) + 1) = (k + 1) * a := by
      unfold powZ
      rw [if_neg (by omega), if_neg hi]
    unfold prodZ
    rw [if_neg (by rintro (h | h) <;> omega), e2, e1]
    rw [Int.add_mul]; omega
end Go.Proofs.YtbafgmicpopnoaaGreatDoor

/-
  The cursor that draws choices from bytes.
-/
namespace Go.Proofs.YtbafgmicpopnoaaGreatDoor
open Go.RowKit

/-- Bytes that can be read. -/
def RdB (w : World) (ad : Option Addr) (n : Nat) : Prop := ∀ j, j < n → ∃ b off, ∃ x : Int, ad = some ⟨b, off, none⟩ ∧ b < w.heap.size ∧ w.cell? ⟨b, off + j, none⟩ = some (.int .u8 x) ∧ 0 ≤ x ∧ x ≤ 255
theorem RdB.below {w w' : World} {ad : Option Addr} {n : Nat} (h : RdB w ad n) (hb : Below w.heap.size w w') : RdB w' ad n := fun j hj => by
  obtain ⟨b, off, x, e, hl, hc, hx⟩ := h j hj
  exact ⟨b, off, x, e, Nat.lt_of_lt_of_le hl hb.size, bcell hb hl hc, hx⟩
theorem RdB.chg {w w' : World} {ad : Option Addr} {n b : Nat} (h : RdB w ad n) (hb : Chg b w w') (hne : 0 < n → ∀ o, ad ≠ some ⟨b, o, none⟩) : RdB w' ad n := fun j hj => by
  obtain ⟨b', off, x, e, hl, hc, hx⟩ := h j hj
  exact ⟨b', off, x, e, Nat.lt_of_lt_of_le hl hb.size, hb.cell (fun q => hne (by omega) off (by rw [e]; congr 1; simp at q; rw [q])) hc, hx⟩

/-- A cursor after at most n bytes. -/
structure CurX (w : World) (c n : Nat) (ad : Option Addr) (len cap : Nat) (k : Nat) (sd : Int) : Prop where
  own : Own w c 51 [.slice ad len cap, .int .i64 (k : Int), .int .u64 sd]
  rd : RdB w ad len
  below : 0 < len → ∀ b o, ad = some ⟨b, o, none⟩ → b < c
  len : len ≤ 9223372036854775807
  at_ : k ≤ n
  sd0 : 0 ≤ sd
  sd1 : sd ≤ 18446744073709551615
def Cur (w : World) (c n : Nat) : Prop := ∃ ad len cap k sd, CurX w c n ad len cap k sd
theorem Cur.below {w w' : World} {c n : Nat} (h : Cur w c n) (hb : Below w.heap.size w w') : Cur w' c n := by
  obtain ⟨ad, len, cap, k, sd, h⟩ := h
  exact ⟨ad, len, cap, k, sd, h.own.belowAll hb, h.rd.below hb, h.below, h.len, h.at_, h.sd0, h.sd1⟩
theorem Cur.mono {w : World} {c n m : Nat} (h : Cur w c n) (hm : n ≤ m) : Cur w c m := by
  obtain ⟨ad, len, cap, k, sd, h⟩ := h
  exact ⟨ad, len, cap, k, sd, h.own, h.rd, h.below, h.len, Nat.le_trans h.at_ hm, h.sd0, h.sd1⟩
theorem Cur.under {w w' : World} {B c n : Nat} (h : Cur w c n) (hb : Below B w w') (hc : c < B) : Cur w' c n := by
  obtain ⟨ad, len, cap, k, sd, h⟩ := h
  refine ⟨ad, len, cap, k, sd, h.own.below hb hc, fun j hj => ?_, h.below, h.len, h.at_, h.sd0, h.sd1⟩
  obtain ⟨b, off, x, e, hl, hcell, hx⟩ := h.rd j hj
  have hbc := h.below (by omega) _ _ e
  have hb2 := bcell hb (p := ⟨b, off + j, none⟩) (Nat.lt_trans hbc hc) hcell
  exact ⟨b, off, x, e, World.block_lt_of_cell? w' ⟨b, off + j, none⟩ hb2, hb2, hx⟩
theorem Cur.lt {w : World} {c n : Nat} (h : Cur w c n) : c < w.heap.size := by
  obtain ⟨ad, len, cap, k, sd, h⟩ := h
  exact h.own.lt

theorem Cur.step {w : World} {c n : Nat} {ad : Option Addr} {len cap k : Nat} {sd sd' : Int} (h : CurX w c n ad len cap k sd) (a b : Nat) (h0 : 0 ≤ sd') (h1 : sd' ≤ 18446744073709551615) :
    Cur ((((w.drewN a).setCell ⟨c, 1, none⟩ (.int .i64 ((k : Int) + 1))).setCell ⟨c, 2, none⟩ (.int .u64 sd')).drewN b) c (n + 1) ∧ Chg c w ((((w.drewN a).setCell ⟨c, 1, none⟩ (.int .i64 ((k : Int) + 1))).setCell ⟨c, 2, none⟩ (.int .u64 sd')).drewN b) := by
  have hc : Chg c w ((((w.drewN a).setCell ⟨c, 1, none⟩ (.int .i64 ((k : Int) + 1))).setCell ⟨c, 2, none⟩ (.int .u64 sd')).drewN b) := ((Chg.drewN c w _).trans (Chg.set c 1 _ _)).trans ((Chg.set c 2 _ _).trans (Chg.drewN c _ _))
  refine ⟨⟨ad, len, cap, k + 1, sd', ?_, h.rd.chg hc (fun h0 o e => Nat.lt_irrefl _ (h.below h0 _ _ e)), h.below, h.len, by have := h.at_; omega, h0, h1⟩, hc⟩
  have := (((h.own.drewN a).set 1 (.int .i64 ((k : Int) + 1))).set 2 (.int .u64 sd')).drewN b
  simpa using this
theorem u64w (n : Int) : IntKind.u64.wrap n = n % 18446744073709551616 := by simp [IntKind.wrap, IntKind.bits, IntKind.signed]
theorem u64_wrap_bd (x : Int) : 0 ≤ IntKind.u64.wrap x ∧ IntKind.u64.wrap x ≤ 18446744073709551615 := by
  rw [u64w]; omega
theorem and255 (x : Int) : 0 ≤ wrap64 (bits BinOp.and IntKind.u64 x 255) ∧ wrap64 (bits BinOp.and IntKind.u64 x 255) ≤ 255 := by
  have h : (BitVec.ofInt 64 x &&& BitVec.ofInt 64 255).toNat ≤ 255 := by rw [BitVec.toNat_and]; exact Nat.le_trans Nat.and_le_right (by decide)
  have h2 : 0 ≤ bits BinOp.and IntKind.u64 x 255 ∧ bits BinOp.and IntKind.u64 x 255 ≤ 255 := by
    show 0 ≤ IntKind.u64.wrap (((BitVec.ofInt 64 x &&& BitVec.ofInt 64 255).toNat : Nat) : Int) ∧ IntKind.u64.wrap (((BitVec.ofInt 64 x &&& BitVec.ofInt 64 255).toNat : Nat) : Int) ≤ 255
    rw [u64w]; omega
  unfold wrap64
  omega

/-- Behind what writes to c come new blocks and writes to newer blocks. -/
theorem Chg.under {u w w' : World} {B c : Nat} (h : Chg c u w) (hb : Below B w w') (hB : u.heap.size ≤ B) (hs : w.heap.size ≤ w'.heap.size) : Chg c u w' :=
  ⟨hb.os.trans h.os, hb.tape.trans h.tape, hb.output.trans h.output, Nat.le_trans h.size hs, fun k hk hne => (hb.block k (by omega)).trans (h.block k hk hne)⟩
theorem row_chg {w w' : World} {B c size n : Nat} {E : TypeId} {v : Value} {xs : List Value} (h : w.ownsRow B E size v n xs) (hc : Chg c w w') (hB : c < B) : w'.ownsRow B E size v n xs := by
  refine h.kept (row := some c) ⟨hc.os, hc.tape, hc.output, hc.size, fun k hk hne => hc.block k hk (fun e => hne (by rw [e]))⟩ ?_
  rcases h.2 with ⟨e, _⟩ | ⟨g, cap, cur, rfl, hg, _⟩
  · left; rw [e]; rfl
  · right; simp [Value.ownBlock]; omega
theorem row_below {w w' : World} {B size n : Nat} {E : TypeId} {v : Value} {xs : List Value} (h : w.ownsRow B E size v n xs) (hb : Below w.heap.size w w') : w'.ownsRow B E size v n xs := by
  refine ⟨h.1, ?_⟩
  rcases h.2 with hn | ⟨g, cap, cur, rfl, hB, hgg, rest⟩
  · exact .inl hn
  · refine .inr ⟨g, cap, cur, rfl, hB, ?_, rest⟩
    rw [hb.block g (Array.getElem?_eq_some_iff.1 hgg).1]
    exact hgg

/-- What a call of the cursor's gives. -/
def SomeI (P : Int → Prop) (c n : Nat) (w : World) (e : Ending) (w' : World) : Prop := ∃ x : Int, e = .returned (.int .i64 x) ∧ P x ∧ Cur w' c n ∧ Chg c w w'

set_option maxHeartbeats 800000 in
theorem next_c (c n : Nat) (w : World) (h : Cur w c n) (hn : n ≤ 4611686018427387903) :
    Calls Tryz.prog 72 #[.pointer (some ⟨c, 0, none⟩)] w (SomeI (fun x => 0 ≤ x ∧ x ≤ 255) c (n + 1) w) := by
  obtain ⟨ad, len, cap, k, sd, h⟩ := h
  have c0 := h.own.cell? (i := 0) rfl
  have c1 := h.own.cell? (i := 1) rfl
  have c2 := h.own.cell? (i := 2) rfl
  have f0 := h.own.frozen 0
  have f1 := h.own.frozen 1
  have f2 := h.own.frozen 2
  have hk := h.at_
  have hlen := h.len
  have s0 := h.sd0
  have s1 := h.sd1
  by_cases hlt : k < len
  · obtain ⟨b, off, x, e, hb, cb, hx⟩ := h.rd k hlt
    subst e
    have H := Lib.hid h; clear h
    have x1 : (0 : Int) ≤ (k : Int) := by omega
    have x2 : (k : Int) < (len : Int) := by omega
    go_enter Tryz.func72, Tryz.ntmps72
    go_wp2_with fail
    go_quiet (fail)
    go_wp2_with fail
    go_quiet (fail)
    go_wp2_with fail
    go_quiet (fail)
    go_wp2_with fail
    go_ret
    exact ⟨x, rfl, hx, Cur.step H.out _ _ (u64_wrap_bd _).1 (u64_wrap_bd _).2⟩
  · have H := Lib.hid h; clear h
    go_enter Tryz.func72, Tryz.ntmps72
    go_wp2_with fail
    go_quiet (fail)
    go_wp2_with fail
    go_quiet (fail)
    go_wp2_with fail
    go_ret
    exact ⟨_, rfl, and255 _, Cur.step H.out _ _ (u64_wrap_bd _).1 (u64_wrap_bd _).2⟩

/-- What a call gives that returns a bool. -/
def SomeB (c n : Nat) (w : World) (e : Ending) (w' : World) : Prop := ∃ b : Bool, e = .returned (.bool b) ∧ Cur w' c n ∧ Chg c w w'

set_option maxHeartbeats 800000 in
theorem pick_c (m : Int) (c n : Nat) (w : World) (h : Cur w c n) (hn : n ≤ 4611686018427387901) :
    Calls Tryz.prog 46 #[.pointer (some ⟨c, 0, none⟩), .int .i64 m] w (SomeI (fun x => 0 ≤ x ∧ (x < m ∨ x = 0)) c (n + 2) w) := by
  have H := Lib.hid h; clear h
  by_cases h1 : m ≤ 1
  · go_enter Tryz.func46, Tryz.ntmps46
    go_wp2_with fail
    go_ret
    exact ⟨0, rfl, ⟨by omega, Or.inr rfl⟩, H.out.mono (by omega), Chg.refl _ _⟩
  · have hm0 : 0 ≤ m := by omega
    have hm1 : 1 ≤ m := by omega
    have hmz : (m == 0) = false := by simpa using (by omega : m ≠ 0)
    have hmp : ∀ x : Int, 0 ≤ x % m ∧ (x % m < m ∨ x % m = 0) := fun x => ⟨Int.emod_nonneg _ (by omega), Or.inl (Int.emod_lt_of_pos _ (by omega))⟩
    have HM := Lib.hid hmp; clear hmp
    by_cases h2 : m ≤ 200
    · go_enter Tryz.func46, Tryz.ntmps46
      go_wp2_with fail
      refine (next_c c n w H.out (by omega)).mono ?_
      rintro e w1 ⟨x, rfl, ⟨hx0, hx1⟩, hcu, hch⟩
      have HC := Lib.hid hcu; clear hcu
      go_wp2_with fail
      go_ret
      exact ⟨_, rfl, HM.out _, HC.out.mono (by omega), hch⟩
    · go_enter Tryz.func46, Tryz.ntmps46
      go_wp2_with fail
      refine (next_c c n w H.out (by omega)).mono ?_
      rintro e w1 ⟨x, rfl, ⟨hx0, hx1⟩, hcu, hch⟩
      have HC := Lib.hid hcu; clear hcu
      go_wp2_with fail
      refine (next_c c (n + 1) w1 HC.out (by omega)).mono ?_
      rintro e w2 ⟨y, rfl, ⟨hy0, hy1⟩, hcu2, hch2⟩
      have HC2 := Lib.hid hcu2; clear hcu2
      go_wp2_with fail
      go_ret
      exact ⟨_, rfl, HM.out _, HC2.out, hch.trans hch2⟩

set_option maxHeartbeats 800000 in
theorem one_c (m : Int) (c n : Nat) (w : World) (h : Cur w c n) (hn : n ≤ 4611686018427387901) :
    Calls Tryz.prog 71 #[.pointer (some ⟨c, 0, none⟩), .int .i64 m] w (SomeB c (n + 2) w) := by
  have H := Lib.hid h; clear h
  go_enter Tryz.func71, Tryz.ntmps71
  go_wp2_with fail
  refine (pick_c m c n w H.out hn).mono ?_
  rintro e w1 ⟨x, rfl, ⟨hx0, hx1⟩, hcu, hch⟩
  have HC := Lib.hid hcu; clear hcu
  go_wp2_with fail
  go_ret
  exact ⟨_, rfl, HC.out, hch⟩

set_option maxHeartbeats 800000 in
theorem among_c (g cap : Nat) (xs : List Int) (c n : Nat) (w : World) (h : Cur w c n) (hn : n ≤ 4611686018427387901) (h0 : 0 < xs.length) (hl : xs.length ≤ 1048576) (hg : g ≠ c) (hr : Own w g 3 (ints xs)) :
    Calls Tryz.prog 65 #[.pointer (some ⟨c, 0, none⟩), .slice (some ⟨g, 0, none⟩) xs.length cap] w (SomeI (fun x => x ∈ xs) c (n + 2) w) := by
  have H := Lib.hid h; clear h
  have HR := Lib.hid hr; clear hr
  go_enter Tryz.func65, Tryz.ntmps65
  go_wp2_with fail
  refine (pick_c xs.length c n w H.out hn).mono ?_
  rintro e w1 ⟨x, rfl, ⟨hx0, hx1⟩, hcu, hch⟩
  have HC := Lib.hid hcu; clear hcu
  obtain ⟨k, rfl⟩ : ∃ k : Nat, x = k := ⟨x.toNat, by omega⟩
  have hk : k < xs.length := by omega
  have ck := (HR.out.chg hch hg).cell? (i := k) (ints_get hk)
  have hmem : xs.getD k 0 ∈ xs := by rw [List.getD_eq_getElem?_getD, List.getElem?_eq_getElem hk]; exact List.getElem_mem hk
  generalize xs.getD k 0 = y at ck hmem
  have HM := Lib.hid hmem; clear hmem
  go_wp2_with fail
  go_ret
  exact ⟨_, rfl, HM.out, HC.out, hch⟩

end Go.Proofs.YtbafgmicpopnoaaGreatDoor

/-
  Small numbers and places that the cursor draws. By an AI agent.
-/
namespace Go.Proofs.YtbafgmicpopnoaaGreatDoor
open Go.RowKit

set_option maxHeartbeats 400000 in
theorem small_c (c n : Nat) (w : World) (h : Cur w c n) (hn : n ≤ 4611686018427380000) :
    Calls Tryz.prog 66 #[.pointer (some ⟨c, 0, none⟩)] w (SomeI (fun x => -4 ≤ x ∧ x ≤ 8) c (n + 2) w) := by
  have H := Lib.hid h; clear h
  go_enter Tryz.func66, Tryz.ntmps66
  go_wp2_with fail
  refine (pick_c 13 c n w H.out (by omega)).mono ?_
  rintro e w1 ⟨x, rfl, hx, hcu, hch⟩
  have e1 : IntKind.i64.wrap (x - 4) = x - 4 := i64_small (by omega) (by omega)
  have hx' := Lib.hid (show -4 ≤ x - 4 ∧ x - 4 ≤ 8 by omega)
  clear hx
  have HU := Lib.hid hcu; clear hcu
  go_wp2_with fail
  go_ret
  exact ⟨_, rfl, hx'.out, HU.out, hch⟩

set_option maxHeartbeats 3200000 in
set_option maxRecDepth 100000 in
theorem place_c (c n : Nat) (w : World) (h : Cur w c n) (hn : n ≤ 4611686018427370000) :
    Calls Tryz.prog 34 #[.pointer (some ⟨c, 0, none⟩)] w (SomeI (fun _ => True) c (n + 8) w) := by
  have hcl := h.lt
  have H := Lib.hid h; clear h
  go_enter Tryz.func34, Tryz.ntmps34
  have HF1 := Lib.hid (Chg.refl c w)
  go_wp2_with fail
  refine (small_c c n w H.out (by omega)).mono ?_
  rintro e w3 ⟨x2, rfl, -, hcu, hch⟩
  have HU4 := Lib.hid hcu; clear hcu
  have HF5 := Lib.hid (HF1.out.trans hch)
  clear hch
  have hz6 := HF5.out.size
  go_wp2_with fail
  refine (small_c c (n + 2) w3 HU4.out (by omega)).mono ?_
  rintro e w8 ⟨x7, rfl, -, hcu, hch⟩
  have HU9 := Lib.hid hcu; clear hcu
  have HF10 := Lib.hid (HF5.out.trans hch)
  clear hch
  have hz11 := HF10.out.size
  go_wp2_with fail
  have HU15 := Lib.hid (HU9.out.below ((Below.refl _ _).alloc (Nat.le_refl _) (.cells #[.int .i64 100000, .int .i64 (-100000), .int .i64 1000000, .int .i64 (-1000000), .int .i64 1000000000, .int .i64 (-9223372036854775808)] 3)))
  have hl16 := HU9.out.lt
  have HF17 := Lib.hid (HF10.out.trans (Chg.alloc c w8 (.cells #[.int .i64 100000, .int .i64 (-100000), .int .i64 1000000, .int .i64 (-1000000), .int .i64 1000000000, .int .i64 (-9223372036854775808)] 3)))
  refine (among_c w8.heap.size 6 [100000, -100000, 1000000, -1000000, 1000000000, -9223372036854775808] c (n + 4) (w8.alloc (.cells #[.int .i64 100000, .int .i64 (-100000), .int .i64 1000000, .int .i64 (-1000000), .int .i64 1000000000, .int .i64 (-9223372036854775808)] 3)) HU15.out (by omega) (by simp) (by simp) (by omega) (Own.newA w8 _ 3 rfl)).mono ?_
  rintro e w13 ⟨x12, rfl, hx, hcu, hch⟩
  clear hx
  have HU18 := Lib.hid hcu; clear hcu
  have HF19 := Lib.hid (HF17.out.trans hch)
  clear hch
  have hz20 := HF19.out.size
  go_wp2_with fail
  have HU24 := Lib.hid (HU18.out.below ((Below.refl _ _).alloc (Nat.le_refl _) (.cells #[.int .i64 0, .int .i64 1, .int .i64 (-1), .int .i64 2, .int .i64 x2, .int .i64 x7, .int .i64 x12] 3)))
  have hl25 := HU18.out.lt
  have HF26 := Lib.hid (HF19.out.trans (Chg.alloc c w13 (.cells #[.int .i64 0, .int .i64 1, .int .i64 (-1), .int .i64 2, .int .i64 x2, .int .i64 x7, .int .i64 x12] 3)))
  refine (among_c w13.heap.size 7 [0, 1, -1, 2, x2, x7, x12] c (n + 6) (w13.alloc (.cells #[.int .i64 0, .int .i64 1, .int .i64 (-1), .int .i64 2, .int .i64 x2, .int .i64 x7, .int .i64 x12] 3)) HU24.out (by omega) (by simp) (by simp) (by omega) (Own.newA w13 _ 3 rfl)).mono ?_
  rintro e w22 ⟨x21, rfl, hx, hcu, hch⟩
  clear hx
  have HU27 := Lib.hid hcu; clear hcu
  have HF28 := Lib.hid (HF26.out.trans hch)
  clear hch
  have hz29 := HF28.out.size
  go_wp2_with fail
  go_ret
  exact ⟨_, rfl, trivial, HU27.out.mono (by omega), HF28.out⟩

end Go.Proofs.YtbafgmicpopnoaaGreatDoor

/-
  Whether the bytes of a law are too many.
-/
namespace Go.Proofs.YtbafgmicpopnoaaGreatDoor
open Go.RowKit

def bigB (a b : Nat) : Bool := decide (1048576 < (a : Int)) || decide (1048576 - (a : Int) < (b : Int))
set_option maxHeartbeats 800000 in
theorem big_c (ad : Option Addr) (a cap : Nat) (ad' : Option Addr) (b cap' : Nat) (w : World) (ha : a ≤ 9223372036854775807) :
    Calls Tryz.prog 4 #[.slice ad a cap, .slice ad' b cap'] w fun e w' => e = .returned (.bool (bigB a b)) ∧ w = w' := by
  by_cases h1 : 1048576 < (a : Int)
  · have hd : bigB a b = true := by unfold bigB; simp [h1]
    have HD := Lib.hid hd; clear hd
    go_enter Tryz.func4, Tryz.ntmps4
    go_wp2_with fail
    go_ret
    exact ⟨ret_bool (by rw [HD.out]), rfl⟩
  · have h3 : bigB a b = decide (1048576 - (a : Int) < (b : Int)) := by unfold bigB; rw [decide_eq_false h1]; rfl
    have HD := Lib.hid h3; clear h3
    go_enter Tryz.func4, Tryz.ntmps4
    go_wp2_with fail
    go_ret
    exact ⟨ret_bool (by rw [HD.out]), rfl⟩

end Go.Proofs.YtbafgmicpopnoaaGreatDoor
