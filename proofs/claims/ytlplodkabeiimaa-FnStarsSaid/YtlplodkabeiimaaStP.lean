/-
  Stars, plain: rays in order, rays put into a star one by one, a sorted list merged: the same star. By an AI agent.
-/
import Derived.Test.YtlplodkabeiimaaFrG
namespace Go.Proofs.Ytlplodkabeiimaa

structure Ry where
  x : Int
  y : Int
  w : Int
def Ry.z : Ry := ⟨0, 0, 0⟩
instance : Inhabited Ry := ⟨Ry.z⟩
/-- The steps of a ray come before those of another one. -/
def bef (a b : Ry) : Prop := a.x < b.x ∨ (a.x = b.x ∧ a.y < b.y)
instance (a b : Ry) : Decidable (bef a b) := by unfold bef; infer_instance
def sameD (a b : Ry) : Prop := a.x = b.x ∧ a.y = b.y
instance (a b : Ry) : Decidable (sameD a b) := by unfold sameD; infer_instance
theorem bef_trans {a b c : Ry} (h1 : bef a b) (h2 : bef b c) : bef a c := by unfold bef at *; omega
theorem bef_irr {a b : Ry} (h1 : bef a b) : ¬ bef b a := by unfold bef at *; omega
theorem bef_three (a b : Ry) : bef a b ∨ sameD a b ∨ bef b a := by unfold bef sameD; omega
/-- Rays with one more, or with a greater weight. -/
def putR (r : Ry) : List Ry → List Ry
  | [] => [r]
  | a :: t => if bef a r then a :: putR r t else if bef r a then r :: a :: t else ⟨r.x, r.y, r.w + a.w⟩ :: t
def StrictR (l : List Ry) : Prop := l.Pairwise bef
/-- The weights in a direction, together; whether there is such a ray. -/
def wtR (dx dy : Int) : List Ry → Int
  | [] => 0
  | a :: t => (if a.x = dx ∧ a.y = dy then a.w else 0) + wtR dx dy t
def HasD (dx dy : Int) (l : List Ry) : Prop := ∃ a ∈ l, a.x = dx ∧ a.y = dy
theorem hasD_cons {dx dy : Int} {a : Ry} {t : List Ry} : HasD dx dy (a :: t) ↔ (a.x = dx ∧ a.y = dy) ∨ HasD dx dy t := by
  unfold HasD
  simp
theorem wtR_append (dx dy : Int) : ∀ a b : List Ry, wtR dx dy (a ++ b) = wtR dx dy a + wtR dx dy b
  | [], b => by simp [wtR]
  | x :: a, b => by
    rw [List.cons_append, wtR, wtR, wtR_append dx dy a b]
    omega
theorem hasD_append {dx dy : Int} {a b : List Ry} : HasD dx dy (a ++ b) ↔ HasD dx dy a ∨ HasD dx dy b := by
  unfold HasD
  simp only [List.mem_append]
  constructor
  · rintro ⟨c, h | h, e⟩
    · exact Or.inl ⟨c, h, e⟩
    · exact Or.inr ⟨c, h, e⟩
  · rintro (⟨c, h, e⟩ | ⟨c, h, e⟩)
    · exact ⟨c, Or.inl h, e⟩
    · exact ⟨c, Or.inr h, e⟩
theorem wtR_perm {dx dy : Int} {a b : List Ry} (h : a.Perm b) : wtR dx dy a = wtR dx dy b := by
  induction h with
  | nil => rfl
  | cons x _ ih => rw [wtR, wtR, ih]
  | swap x y l => rw [wtR, wtR, wtR, wtR]; omega
  | trans _ _ ih1 ih2 => rw [ih1, ih2]
theorem hasD_perm {dx dy : Int} {a b : List Ry} (h : a.Perm b) : HasD dx dy a ↔ HasD dx dy b := by
  unfold HasD
  constructor
  · rintro ⟨c, hc, e⟩; exact ⟨c, h.mem_iff.1 hc, e⟩
  · rintro ⟨c, hc, e⟩; exact ⟨c, h.mem_iff.2 hc, e⟩
theorem wtR_none {dx dy : Int} : ∀ {l : List Ry}, ¬ HasD dx dy l → wtR dx dy l = 0
  | [], _ => rfl
  | a :: t, h => by
    rw [hasD_cons] at h
    rw [wtR, if_neg (fun e => h (Or.inl e)), wtR_none (fun e => h (Or.inr e))]
    omega
theorem putR_wt (dx dy : Int) (r : Ry) : ∀ l : List Ry, wtR dx dy (putR r l) = wtR dx dy l + (if r.x = dx ∧ r.y = dy then r.w else 0)
  | [] => by simp [putR, wtR]
  | a :: t => by
    rw [putR]
    split
    · rw [wtR, wtR, putR_wt dx dy r t]; omega
    · split
      · rw [wtR]; omega
      · rename_i h1 h2
        have h3 : sameD a r := by rcases bef_three a r with h | h | h; exact absurd h h1; exact h; exact absurd h h2
        unfold sameD at h3
        rw [wtR, wtR]
        simp only
        by_cases hd : r.x = dx ∧ r.y = dy
        · rw [if_pos hd, if_pos (by omega)]; omega
        · rw [if_neg hd, if_neg (by omega)]; omega
theorem putR_has (dx dy : Int) (r : Ry) : ∀ l : List Ry, HasD dx dy (putR r l) ↔ HasD dx dy l ∨ (r.x = dx ∧ r.y = dy)
  | [] => by unfold putR; rw [hasD_cons]; unfold HasD; simp
  | a :: t => by
    rw [putR]
    split
    · rw [hasD_cons, hasD_cons, putR_has dx dy r t, or_assoc]
    · split
      · rw [hasD_cons]; exact or_comm
      · rename_i h1 h2
        have h3 : sameD a r := by rcases bef_three a r with h | h | h; exact absurd h h1; exact h; exact absurd h h2
        unfold sameD at h3
        rw [hasD_cons, hasD_cons]
        simp only
        constructor
        · rintro (h | h)
          · exact Or.inr h
          · exact Or.inl (Or.inr h)
        · rintro ((h | h) | h)
          · exact Or.inl (by omega)
          · exact Or.inr h
          · exact Or.inl h
theorem putR_mem {r c : Ry} : ∀ {l : List Ry}, c ∈ putR r l → (c.x = r.x ∧ c.y = r.y) ∨ c ∈ l
  | [], h => by simp [putR] at h; subst h; exact Or.inl ⟨rfl, rfl⟩
  | a :: t, h => by
    rw [putR] at h
    split at h
    · rcases List.mem_cons.1 h with h | h
      · exact Or.inr (by simp [h])
      · rcases putR_mem h with h | h
        · exact Or.inl h
        · exact Or.inr (List.mem_cons_of_mem _ h)
    · split at h
      · rcases List.mem_cons.1 h with h | h
        · subst h; exact Or.inl ⟨rfl, rfl⟩
        · exact Or.inr h
      · rcases List.mem_cons.1 h with h | h
        · subst h; exact Or.inl ⟨rfl, rfl⟩
        · exact Or.inr (List.mem_cons_of_mem _ h)
theorem putR_strict (r : Ry) : ∀ {l : List Ry}, StrictR l → StrictR (putR r l)
  | [], _ => by simp [putR, StrictR]
  | a :: t, h => by
    obtain ⟨h1, h2⟩ := List.pairwise_cons.1 h
    rw [putR]
    split
    · rename_i hb
      refine List.pairwise_cons.2 ⟨fun c hc => ?_, putR_strict r h2⟩
      rcases putR_mem hc with hc | hc
      · unfold bef at *; omega
      · exact h1 c hc
    · split
      · rename_i h3 h4
        refine List.pairwise_cons.2 ⟨fun c hc => ?_, h⟩
        rcases List.mem_cons.1 hc with rfl | hc
        · exact h4
        · exact bef_trans h4 (h1 c hc)
      · rename_i h3 h4
        have h5 : sameD a r := by rcases bef_three a r with h | h | h; exact absurd h h3; exact h; exact absurd h h4
        refine List.pairwise_cons.2 ⟨fun c hc => ?_, h2⟩
        have := h1 c hc
        unfold bef sameD at *
        simp only
        omega
/-- Strict lists with the same weights in the same directions are one. -/
theorem strict_ext : ∀ {a b : List Ry}, StrictR a → StrictR b → (∀ dx dy, HasD dx dy a ↔ HasD dx dy b) → (∀ dx dy, wtR dx dy a = wtR dx dy b) → a = b
  | [], [], _, _, _, _ => rfl
  | [], y :: t, _, _, h, _ => by
    obtain ⟨c, hc, _⟩ := (h y.x y.y).2 (hasD_cons.2 (Or.inl ⟨rfl, rfl⟩))
    simp at hc
  | y :: t, [], _, _, h, _ => by
    obtain ⟨c, hc, _⟩ := (h y.x y.y).1 (hasD_cons.2 (Or.inl ⟨rfl, rfl⟩))
    simp at hc
  | p :: s, q :: t, ha, hb, h, hw => by
    obtain ⟨a1, a2⟩ := List.pairwise_cons.1 ha
    obtain ⟨b1, b2⟩ := List.pairwise_cons.1 hb
    have hd : p.x = q.x ∧ p.y = q.y := by
      have h1 := hasD_cons.1 ((h p.x p.y).1 (hasD_cons.2 (Or.inl ⟨rfl, rfl⟩)))
      have h2 := hasD_cons.1 ((h q.x q.y).2 (hasD_cons.2 (Or.inl ⟨rfl, rfl⟩)))
      rcases h1 with h1 | ⟨c, hc, e⟩
      · omega
      · rcases h2 with h2 | ⟨d, hd, e2⟩
        · omega
        · have i1 := b1 c hc
          have i2 := a1 d hd
          unfold bef at i1 i2
          omega
    have ns : ∀ dx dy, p.x = dx ∧ p.y = dy → ¬ HasD dx dy s := fun dx dy e ⟨c, hc, e2⟩ => by
      have := a1 c hc
      unfold bef at this
      omega
    have nt : ∀ dx dy, q.x = dx ∧ q.y = dy → ¬ HasD dx dy t := fun dx dy e ⟨c, hc, e2⟩ => by
      have := b1 c hc
      unfold bef at this
      omega
    have hpw : p.w = q.w := by
      have := hw p.x p.y
      rw [wtR, wtR, if_pos ⟨rfl, rfl⟩, if_pos (by omega), wtR_none (ns _ _ ⟨rfl, rfl⟩), wtR_none (nt _ _ (by omega))] at this
      omega
    have hpq : p = q := by cases p; cases q; simp only at hd hpw; simp [hd, hpw]
    subst hpq
    rw [strict_ext a2 b2 (fun dx dy => ?_) (fun dx dy => ?_)]
    · have := h dx dy
      rw [hasD_cons, hasD_cons] at this
      constructor
      · intro hs
        rcases this.1 (Or.inr hs) with h3 | h3
        · exact absurd hs (ns _ _ h3)
        · exact h3
      · intro hs
        rcases this.2 (Or.inr hs) with h3 | h3
        · exact absurd hs (nt _ _ h3)
        · exact h3
    · have := hw dx dy
      rw [wtR, wtR] at this
      omega
/-! ### a sorted list, merged -/
/-- One ray more behind those that are merged (the last one first). -/
def mgR (acc : List Ry) (r : Ry) : List Ry := match acc with
  | [] => [r]
  | a :: t => if sameD a r then ⟨a.x, a.y, a.w + r.w⟩ :: t else r :: a :: t
def mergeR (l : List Ry) : List Ry := (l.foldl mgR []).reverse
def SortedR (l : List Ry) : Prop := l.Pairwise fun a b => ¬ bef b a
theorem mgR_wt (dx dy : Int) (acc : List Ry) (r : Ry) : wtR dx dy (mgR acc r) = wtR dx dy acc + (if r.x = dx ∧ r.y = dy then r.w else 0) := by
  unfold mgR
  cases acc with
  | nil => simp [wtR]
  | cons a t =>
    simp only
    split
    · rename_i h
      unfold sameD at h
      rw [wtR, wtR]
      simp only
      by_cases hd : r.x = dx ∧ r.y = dy
      · rw [if_pos hd, if_pos (by omega), if_pos (by omega)]; omega
      · rw [if_neg hd, if_neg (by omega)]; omega
    · rw [wtR]; omega
theorem mgR_has (dx dy : Int) (acc : List Ry) (r : Ry) : HasD dx dy (mgR acc r) ↔ HasD dx dy acc ∨ (r.x = dx ∧ r.y = dy) := by
  unfold mgR
  cases acc with
  | nil => rw [hasD_cons]; unfold HasD; simp
  | cons a t =>
    simp only
    split
    · rename_i h
      unfold sameD at h
      rw [hasD_cons, hasD_cons]
      simp only
      constructor
      · rintro (h3 | h3)
        · exact Or.inl (Or.inl h3)
        · exact Or.inl (Or.inr h3)
      · rintro ((h3 | h3) | h3)
        · exact Or.inl h3
        · exact Or.inr h3
        · exact Or.inl (by omega)
    · rw [hasD_cons]; exact or_comm
theorem merge_all : ∀ (l acc : List Ry), acc.Pairwise (fun a b => bef b a) → SortedR l → (∀ a ∈ acc.head?, ∀ r ∈ l, ¬ bef r a) →
    (l.foldl mgR acc).Pairwise (fun a b => bef b a) ∧ (∀ dx dy, wtR dx dy (l.foldl mgR acc) = wtR dx dy acc + wtR dx dy l) ∧ ∀ dx dy, HasD dx dy (l.foldl mgR acc) ↔ HasD dx dy acc ∨ HasD dx dy l
  | [], acc, h, _, _ => ⟨h, fun _ _ => by simp [wtR], fun _ _ => by unfold HasD; simp⟩
  | r :: l, acc, h, hs, ha => by
    obtain ⟨s1, s2⟩ := List.pairwise_cons.1 hs
    have hm : (mgR acc r).Pairwise (fun a b => bef b a) := by
      unfold mgR
      cases acc with
      | nil => simp
      | cons a t =>
        obtain ⟨h1, h2⟩ := List.pairwise_cons.1 h
        simp only
        split
        · exact List.pairwise_cons.2 ⟨fun c hc => by have := h1 c hc; unfold bef at *; simp only; omega, h2⟩
        · rename_i hn
          have h3 : bef a r := by
            rcases bef_three a r with h | h | h
            · exact h
            · exact absurd h hn
            · exact absurd h (ha a (by simp) r (by simp))
          refine List.pairwise_cons.2 ⟨fun c hc => ?_, h⟩
          rcases List.mem_cons.1 hc with rfl | hc
          · exact h3
          · exact bef_trans (h1 c hc) h3
    have hh : ∀ a ∈ (mgR acc r).head?, ∀ q ∈ l, ¬ bef q a := fun a hae q hq => by
      have h3 := s1 q hq
      unfold mgR at hae
      cases acc with
      | nil => simp at hae; subst hae; exact h3
      | cons b t =>
        simp only at hae
        split at hae
        · rename_i hsd
          simp at hae
          subst hae
          unfold bef sameD at *
          simp only
          omega
        · simp at hae; subst hae; exact h3
    obtain ⟨i1, i2, i3⟩ := merge_all l (mgR acc r) hm s2 hh
    refine ⟨i1, fun dx dy => ?_, fun dx dy => ?_⟩
    · rw [List.foldl_cons, i2, mgR_wt, wtR]; omega
    · rw [List.foldl_cons, i3, mgR_has, hasD_cons, or_assoc]
theorem wtR_reverse (dx dy : Int) (l : List Ry) : wtR dx dy l.reverse = wtR dx dy l := wtR_perm (List.reverse_perm l)
theorem put_all : ∀ (b a : List Ry), StrictR a → StrictR (b.foldl (fun l r => putR r l) a) ∧ (∀ dx dy, wtR dx dy (b.foldl (fun l r => putR r l) a) = wtR dx dy a + wtR dx dy b) ∧ ∀ dx dy, HasD dx dy (b.foldl (fun l r => putR r l) a) ↔ HasD dx dy a ∨ HasD dx dy b
  | [], a, h => ⟨h, fun _ _ => by simp [wtR], fun _ _ => by unfold HasD; simp⟩
  | r :: b, a, h => by
    obtain ⟨i1, i2, i3⟩ := put_all b (putR r a) (putR_strict r h)
    refine ⟨i1, fun dx dy => ?_, fun dx dy => ?_⟩
    · rw [List.foldl_cons, i2, putR_wt, wtR]; omega
    · rw [List.foldl_cons, i3, putR_has, hasD_cons, or_assoc]
/-- The program's sum of stars is the reference's. -/
theorem merge_put {a b s : List Ry} (ha : StrictR a) (hs : SortedR s) (hp : s.Perm (a ++ b)) : mergeR s = b.foldl (fun l r => putR r l) a := by
  obtain ⟨i1, i2, i3⟩ := merge_all s [] List.Pairwise.nil hs (fun a h => by simp at h)
  obtain ⟨j1, j2, j3⟩ := put_all b a ha
  refine strict_ext (List.pairwise_reverse.2 i1) j1 (fun dx dy => ?_) (fun dx dy => ?_)
  · unfold mergeR
    rw [hasD_perm (List.reverse_perm _), i3, j3, hasD_perm hp, hasD_append]
    constructor
    · rintro (⟨c, hc, _⟩ | h)
      · simp at hc
      · exact h
    · exact Or.inr
  · unfold mergeR
    rw [wtR_reverse, i2, j2, wtR_perm hp, wtR_append]
    simp [wtR]

end Go.Proofs.Ytlplodkabeiimaa
