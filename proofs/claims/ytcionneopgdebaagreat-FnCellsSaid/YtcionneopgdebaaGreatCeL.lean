/-
  Lists of numbers in lexicographic order, plain: sorted lists, each one once; the two ways to sort agree. By an AI agent.
-/
import Derived.Test.YtcionneopgdebaaGreatLaws
import Derived.Sort.AssemblyPlain
namespace Go.Proofs.YtcionneopgdebaaGreat
namespace LstSort
open Go.Sort (SWO)

/-- one list comes before another. -/
def ltL : List Int → List Int → Bool
  | [], [] => false
  | [], _ :: _ => true
  | _ :: _, [] => false
  | a :: s, b :: t => if a = b then ltL s t else decide (a < b)
theorem ltL_irrefl : ∀ a : List Int, ltL a a = false
  | [] => rfl
  | a :: s => by unfold ltL; rw [if_pos rfl]; exact ltL_irrefl s
theorem ltL_eq : ∀ {a b : List Int}, ltL a b = false → ltL b a = false → a = b
  | [], [], _, _ => rfl
  | [], _ :: _, h, _ => by cases h
  | _ :: _, [], _, h => by cases h
  | a :: s, b :: t, h1, h2 => by
    unfold ltL at h1 h2
    by_cases e : a = b
    · rw [if_pos e] at h1
      rw [if_pos e.symm] at h2
      rw [e, ltL_eq h1 h2]
    · rw [if_neg e] at h1
      rw [if_neg (Ne.symm e)] at h2
      have h1 := of_decide_eq_false h1
      have h2 := of_decide_eq_false h2
      omega
theorem ltL_trans : ∀ {a b c : List Int}, ltL a b = true → ltL b c = true → ltL a c = true
  | [], [], _, h, _ => by cases h
  | [], _ :: _, [], _, h => by cases h
  | [], _ :: _, _ :: _, _, _ => rfl
  | _ :: _, [], _, h, _ => by cases h
  | _ :: _, _ :: _, [], _, h => by cases h
  | a :: s, b :: t, c :: u, h1, h2 => by
    unfold ltL at h1 h2 ⊢
    by_cases e1 : a = b
    · rw [if_pos e1] at h1
      by_cases e2 : b = c
      · rw [if_pos e2] at h2
        rw [if_pos (e1.trans e2)]
        exact ltL_trans h1 h2
      · rw [if_neg e2] at h2
        rw [if_neg (by omega), e1]
        exact h2
    · rw [if_neg e1] at h1
      have h1 := of_decide_eq_true h1
      by_cases e2 : b = c
      · rw [if_neg (by omega)]
        exact decide_eq_true (by omega)
      · rw [if_neg e2] at h2
        have h2 := of_decide_eq_true h2
        rw [if_neg (by omega)]
        exact decide_eq_true (by omega)
theorem swo_ltL : SWO ltL where
  irrefl := ltL_irrefl
  trans _ _ _ h1 h2 := ltL_trans h1 h2
  ntrans x y z h1 h2 := by
    cases h : ltL x z
    · rfl
    · exfalso
      cases e : ltL y x
      · have := ltL_eq h1 e
        subst this
        rw [h2] at h
        cases h
      · have := ltL_trans e h
        rw [this] at h2
        cases h2

/-- The sorted list. -/
def srt (l : List (List Int)) : List (List Int) := l.mergeSort fun x y => !ltL y x

def Strict (l : List (List Int)) : Prop := l.Pairwise fun a b => ltL a b = true
theorem lt_irrefl (a : (List Int)) : ltL a a = false := swo_ltL.irrefl a
theorem lt_asymm {a b : (List Int)} (h : ltL a b = true) : ltL b a = false := by
  cases hc : ltL b a
  · rfl
  · have := swo_ltL.trans a b a h hc
    rw [lt_irrefl] at this
    exact this.symm
theorem strict_ext : ∀ {l1 l2 : List (List Int)}, Strict l1 → Strict l2 → (∀ x, x ∈ l1 ↔ x ∈ l2) → l1 = l2
  | [], [], _, _, _ => rfl
  | [], b :: l2, _, _, h => by have := (h b).2 (by simp); simp at this
  | a :: l1, [], _, _, h => by have := (h a).1 (by simp); simp at this
  | a :: l1, b :: l2, h1, h2, h => by
    obtain ⟨ha, h1'⟩ := List.pairwise_cons.1 h1
    obtain ⟨hb, h2'⟩ := List.pairwise_cons.1 h2
    have hab : a = b := by
      rcases List.mem_cons.1 ((h a).1 (by simp)) with e | e
      · exact e
      · rcases List.mem_cons.1 ((h b).2 (by simp)) with e' | e'
        · exact e'.symm
        · have := lt_asymm (ha b e')
          rw [hb a e] at this
          exact absurd this (by simp)
    subst hab
    rw [strict_ext h1' h2' fun x => ?_]
    constructor
    · intro hx
      rcases List.mem_cons.1 ((h x).1 (List.mem_cons_of_mem _ hx)) with e | e
      · subst e; have := ha _ hx; rw [lt_irrefl] at this; exact absurd this (by simp)
      · exact e
    · intro hx
      rcases List.mem_cons.1 ((h x).2 (List.mem_cons_of_mem _ hx)) with e | e
      · subst e; have := hb _ hx; rw [lt_irrefl] at this; exact absurd this (by simp)
      · exact e

/-- A list put in its place, once. -/
def insL (p : (List Int)) : List (List Int) → List (List Int)
  | [] => [p]
  | q :: l => if ltL q p = true then q :: insL p l else if q = p then q :: l else p :: q :: l
theorem insL_mem {p x : (List Int)} : ∀ {l : List (List Int)}, x ∈ insL p l ↔ x = p ∨ x ∈ l
  | [] => by simp [insL]
  | q :: l => by
    unfold insL
    split
    · rw [List.mem_cons, insL_mem, List.mem_cons]
      constructor
      · rintro (h | h | h)
        · exact Or.inr (Or.inl h)
        · exact Or.inl h
        · exact Or.inr (Or.inr h)
      · rintro (h | h | h)
        · exact Or.inr (Or.inl h)
        · exact Or.inl h
        · exact Or.inr (Or.inr h)
    · split
      · rename_i h; subst h
        simp
      · simp
theorem insL_strict {p : (List Int)} : ∀ {l : List (List Int)}, Strict l → Strict (insL p l)
  | [], _ => List.pairwise_singleton _ _
  | q :: l, h => by
    obtain ⟨hq, hl⟩ := List.pairwise_cons.1 h
    unfold insL
    split
    · rename_i hqp
      refine List.pairwise_cons.2 ⟨fun x hx => ?_, insL_strict hl⟩
      rcases insL_mem.1 hx with e | e
      · subst e; exact hqp
      · exact hq x e
    · split
      · exact h
      · rename_i h1 h2
        have hpq : ltL p q = true := by
          cases hc : ltL p q
          · exact absurd (ltL_eq (by simpa using h1) hc) h2
          · rfl
        refine List.pairwise_cons.2 ⟨fun x hx => ?_, h⟩
        rcases List.mem_cons.1 hx with e | e
        · subst e; exact hpq
        · exact swo_ltL.trans p q x hpq (hq x e)
/-- Where the place is. -/
theorem insL_at {p : (List Int)} : ∀ {l : List (List Int)} {k : Nat}, k ≤ l.length → (∀ i, i < k → ltL (l.getD i []) p = true) → (k < l.length → ltL (l.getD k []) p = false) →
    insL p l = if k < l.length ∧ l.getD k [] = p then l else l.take k ++ p :: l.drop k
  | [], k, hk, _, _ => by
    have : k = 0 := by simpa using hk
    subst this
    simp [insL]
  | q :: l, 0, _, _, h => by
    have h0 : ltL q p = false := by simpa using h (by simp)
    unfold insL
    rw [if_neg (by rw [h0]; simp)]
    simp
  | q :: l, k + 1, hk, hlt, h => by
    have h0 : ltL q p = true := by simpa using hlt 0 (by omega)
    unfold insL
    rw [if_pos h0, insL_at (l := l) (k := k) (by simpa using hk) (fun i hi => by simpa using hlt (i + 1) (by omega)) (fun hkl => by simpa using h (by simpa using hkl))]
    simp only [List.length_cons, Nat.add_lt_add_iff_right, List.getD_cons_succ, List.take_succ_cons, List.drop_succ_cons]
    split
    · rfl
    · rfl
def putF (l : List (List Int)) : List (List Int) := l.foldl (fun o p => insL p o) []
theorem putF_snoc (l : List (List Int)) (p : (List Int)) : putF (l ++ [p]) = insL p (putF l) := by simp [putF]
theorem fold_ins (l : List (List Int)) : ∀ (o : List (List Int)), Strict o → Strict (l.foldl (fun o p => insL p o) o) ∧ ∀ x, x ∈ l.foldl (fun o p => insL p o) o ↔ x ∈ o ∨ x ∈ l := by
  induction l with
  | nil => intro o h; exact ⟨h, fun x => by simp⟩
  | cons p l ih =>
    intro o h
    obtain ⟨h1, h2⟩ := ih (insL p o) (insL_strict h)
    refine ⟨h1, fun x => ?_⟩
    rw [List.foldl_cons, h2, insL_mem, List.mem_cons]
    constructor
    · rintro ((h | h) | h)
      · exact Or.inr (Or.inl h)
      · exact Or.inl h
      · exact Or.inr (Or.inr h)
    · rintro (h | h | h)
      · exact Or.inl (Or.inr h)
      · exact Or.inl (Or.inl h)
      · exact Or.inr h
theorem putF_strict (l : List (List Int)) : Strict (putF l) := (fold_ins l [] List.Pairwise.nil).1
theorem putF_mem (l : List (List Int)) (x : (List Int)) : x ∈ putF l ↔ x ∈ l := by
  have := (fold_ins l [] List.Pairwise.nil).2 x
  simpa [putF] using this

/-- Each of equal neighbours once. -/
def compactF : List (List Int) → List (List Int)
  | a :: b :: l => if a = b then compactF (b :: l) else a :: compactF (b :: l)
  | l => l
theorem compactF_mem {x : (List Int)} : ∀ {l : List (List Int)}, x ∈ compactF l ↔ x ∈ l
  | [] => Iff.rfl
  | [a] => Iff.rfl
  | a :: b :: l => by
    unfold compactF
    split
    · rename_i h; subst h
      rw [compactF_mem]; simp
    · rw [List.mem_cons, compactF_mem, List.mem_cons (a := x) (b := a)]
theorem compactF_strict : ∀ {l : List (List Int)}, (l.Pairwise fun a b => ltL b a = false) → Strict (compactF l)
  | [], _ => List.Pairwise.nil
  | [a], _ => List.pairwise_singleton _ _
  | a :: b :: l, h => by
    obtain ⟨ha, hl⟩ := List.pairwise_cons.1 h
    unfold compactF
    split
    · exact compactF_strict hl
    · rename_i hne
      refine List.pairwise_cons.2 ⟨fun x hx => ?_, compactF_strict hl⟩
      have hx' := compactF_mem.1 hx
      have hab : ltL a b = true := by
        cases hc : ltL a b
        · exact absurd (ltL_eq hc (ha b (by simp))) hne
        · rfl
      rcases List.mem_cons.1 hx' with e | e
      · subst e; exact hab
      · cases hc : ltL a x
        · have hbx := (List.pairwise_cons.1 hl).1 x e
          have := swo_ltL.ntrans a x b hc hbx
          rw [hab] at this
          exact absurd this (by simp)
        · rfl
theorem srt_pairwise (l : List (List Int)) : (srt l).Pairwise fun a b => ltL b a = false := by
  have h := List.pairwise_mergeSort (le := fun x y => !ltL y x) (fun a b c h1 h2 => by
    simp only [Bool.not_eq_true'] at h1 h2 ⊢
    exact swo_ltL.ntrans c b a h2 h1) (fun a b => by
    simp only [Bool.or_eq_true, Bool.not_eq_true']
    cases hc : ltL b a
    · exact Or.inl rfl
    · exact Or.inr (lt_asymm hc)) l
  exact h.imp fun h => by simpa using h
theorem srt_mem {l : List (List Int)} {x : (List Int)} : x ∈ srt l ↔ x ∈ l := (List.mergeSort_perm l _).mem_iff
/-- THE TWO WAYS TO SORT AGREE. -/
theorem sorted_same (l : List (List Int)) : compactF (srt l) = putF l :=
  strict_ext (compactF_strict (srt_pairwise l)) (putF_strict l) fun x => by rw [compactF_mem, srt_mem, putF_mem]
theorem srt_length (l : List (List Int)) : (srt l).length = l.length := List.length_mergeSort l
end LstSort
end Go.Proofs.YtcionneopgdebaaGreat
