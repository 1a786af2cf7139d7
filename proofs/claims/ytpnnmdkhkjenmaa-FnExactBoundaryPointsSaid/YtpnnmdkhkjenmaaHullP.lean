/-
  Points, plain: the strictly sorted list of some points, their hull by the monotone chain, the boundary's points. By an AI agent.
-/
import Derived.Test.YtpnnmdkhkjenmaaSortB
namespace Go.Proofs.Ytpnnmdkhkjenmaa
open Go.Sort (SWO)

/-- The sorted list. -/
def srt (l : List Pt) : List Pt := l.mergeSort fun x y => !ltPt y x

def Strict (l : List Pt) : Prop := l.Pairwise fun a b => ltPt a b = true
theorem lt_irrefl (a : Pt) : ltPt a a = false := swo_ltPt.irrefl a
theorem lt_asymm {a b : Pt} (h : ltPt a b = true) : ltPt b a = false := by
  simp [ltPt] at h ⊢
  omega
theorem strict_ext : ∀ {l1 l2 : List Pt}, Strict l1 → Strict l2 → (∀ x, x ∈ l1 ↔ x ∈ l2) → l1 = l2
  | [], [], _, _, _ => rfl
  | [], b :: l2, _, _, h => by have := (h b).2 (by simp); simp at this
  | a :: l1, [], _, _, h => by have := (h a).1 (by simp); simp at this
  | a :: l1, b :: l2, h1, h2, h => by
    obtain ⟨ha, h1'⟩ := List.pairwise_cons.1 h1
    obtain ⟨hb, h2'⟩ := List.pairwise_cons.1 h2
    have hab : a = b := by
      rcases List.mem_cons.1 ((h a).1 (by simp)) with e | e
      · exact e
      · rcases List.mem_cons.1 ((h b).2 (by simp)) with e' | e'
        · exact e'.symm
        · have := lt_asymm (ha b e')
          rw [hb a e] at this
          exact absurd this (by simp)
    subst hab
    rw [strict_ext h1' h2' fun x => ?_]
    constructor
    · intro hx
      rcases List.mem_cons.1 ((h x).1 (List.mem_cons_of_mem _ hx)) with e | e
      · subst e; have := ha _ hx; rw [lt_irrefl] at this; exact absurd this (by simp)
      · exact e
    · intro hx
      rcases List.mem_cons.1 ((h x).2 (List.mem_cons_of_mem _ hx)) with e | e
      · subst e; have := hb _ hx; rw [lt_irrefl] at this; exact absurd this (by simp)
      · exact e

/-- A point put in its place, once. -/
def insP (p : Pt) : List Pt → List Pt
  | [] => [p]
  | q :: l => if ltPt q p = true then q :: insP p l else if q = p then q :: l else p :: q :: l
theorem insP_mem {p x : Pt} : ∀ {l : List Pt}, x ∈ insP p l ↔ x = p ∨ x ∈ l
  | [] => by simp [insP]
  | q :: l => by
    unfold insP
    split
    · rw [List.mem_cons, insP_mem, List.mem_cons]
      constructor
      · rintro (h | h | h)
        · exact Or.inr (Or.inl h)
        · exact Or.inl h
        · exact Or.inr (Or.inr h)
      · rintro (h | h | h)
        · exact Or.inr (Or.inl h)
        · exact Or.inl h
        · exact Or.inr (Or.inr h)
    · split
      · rename_i h; subst h
        simp
      · simp
theorem insP_strict {p : Pt} : ∀ {l : List Pt}, Strict l → Strict (insP p l)
  | [], _ => List.pairwise_singleton _ _
  | q :: l, h => by
    obtain ⟨hq, hl⟩ := List.pairwise_cons.1 h
    unfold insP
    split
    · rename_i hqp
      refine List.pairwise_cons.2 ⟨fun x hx => ?_, insP_strict hl⟩
      rcases insP_mem.1 hx with e | e
      · subst e; exact hqp
      · exact hq x e
    · split
      · exact h
      · rename_i h1 h2
        have hpq : ltPt p q = true := by
          cases hc : ltPt p q
          · exact absurd (ltPt_eq (by simpa using h1) hc) h2
          · rfl
        refine List.pairwise_cons.2 ⟨fun x hx => ?_, h⟩
        rcases List.mem_cons.1 hx with e | e
        · subst e; exact hpq
        · exact swo_ltPt.trans p q x hpq (hq x e)
/-- Where the place is. -/
theorem insP_at {p : Pt} : ∀ {l : List Pt} {k : Nat}, k ≤ l.length → (∀ i, i < k → ltPt (l.getD i default) p = true) → (k < l.length → ltPt (l.getD k default) p = false) →
    insP p l = if k < l.length ∧ l.getD k default = p then l else l.take k ++ p :: l.drop k
  | [], k, hk, _, _ => by
    have : k = 0 := by simpa using hk
    subst this
    simp [insP]
  | q :: l, 0, _, _, h => by
    have h0 : ltPt q p = false := by simpa using h (by simp)
    unfold insP
    rw [if_neg (by rw [h0]; simp)]
    simp
  | q :: l, k + 1, hk, hlt, h => by
    have h0 : ltPt q p = true := by simpa using hlt 0 (by omega)
    unfold insP
    rw [if_pos h0, insP_at (l := l) (k := k) (by simpa using hk) (fun i hi => by simpa using hlt (i + 1) (by omega)) (fun hkl => by simpa using h (by simpa using hkl))]
    simp only [List.length_cons, Nat.add_lt_add_iff_right, List.getD_cons_succ, List.take_succ_cons, List.drop_succ_cons]
    split
    · rfl
    · rfl
def pySortF (l : List Pt) : List Pt := l.foldl (fun o p => insP p o) []
theorem pySortF_snoc (l : List Pt) (p : Pt) : pySortF (l ++ [p]) = insP p (pySortF l) := by simp [pySortF]
theorem fold_ins (l : List Pt) : ∀ (o : List Pt), Strict o → Strict (l.foldl (fun o p => insP p o) o) ∧ ∀ x, x ∈ l.foldl (fun o p => insP p o) o ↔ x ∈ o ∨ x ∈ l := by
  induction l with
  | nil => intro o h; exact ⟨h, fun x => by simp⟩
  | cons p l ih =>
    intro o h
    obtain ⟨h1, h2⟩ := ih (insP p o) (insP_strict h)
    refine ⟨h1, fun x => ?_⟩
    rw [List.foldl_cons, h2, insP_mem, List.mem_cons]
    constructor
    · rintro ((h | h) | h)
      · exact Or.inr (Or.inl h)
      · exact Or.inl h
      · exact Or.inr (Or.inr h)
    · rintro (h | h | h)
      · exact Or.inl (Or.inr h)
      · exact Or.inl (Or.inl h)
      · exact Or.inr h
theorem pySortF_strict (l : List Pt) : Strict (pySortF l) := (fold_ins l [] List.Pairwise.nil).1
theorem pySortF_mem (l : List Pt) (x : Pt) : x ∈ pySortF l ↔ x ∈ l := by
  have := (fold_ins l [] List.Pairwise.nil).2 x
  simpa [pySortF] using this

/-- Each of equal neighbours once. -/
def compactF : List Pt → List Pt
  | a :: b :: l => if a = b then compactF (b :: l) else a :: compactF (b :: l)
  | l => l
theorem compactF_mem {x : Pt} : ∀ {l : List Pt}, x ∈ compactF l ↔ x ∈ l
  | [] => Iff.rfl
  | [a] => Iff.rfl
  | a :: b :: l => by
    unfold compactF
    split
    · rename_i h; subst h
      rw [compactF_mem]; simp
    · rw [List.mem_cons, compactF_mem, List.mem_cons (a := x) (b := a)]
theorem compactF_strict : ∀ {l : List Pt}, (l.Pairwise fun a b => ltPt b a = false) → Strict (compactF l)
  | [], _ => List.Pairwise.nil
  | [a], _ => List.pairwise_singleton _ _
  | a :: b :: l, h => by
    obtain ⟨ha, hl⟩ := List.pairwise_cons.1 h
    unfold compactF
    split
    · exact compactF_strict hl
    · rename_i hne
      refine List.pairwise_cons.2 ⟨fun x hx => ?_, compactF_strict hl⟩
      have hx' := compactF_mem.1 hx
      have hab : ltPt a b = true := by
        cases hc : ltPt a b
        · exact absurd (ltPt_eq hc (ha b (by simp))) hne
        · rfl
      rcases List.mem_cons.1 hx' with e | e
      · subst e; exact hab
      · cases hc : ltPt a x
        · have hbx := (List.pairwise_cons.1 hl).1 x e
          have := swo_ltPt.ntrans a x b hc hbx
          rw [hab] at this
          exact absurd this (by simp)
        · rfl
theorem srt_pairwise (l : List Pt) : (srt l).Pairwise fun a b => ltPt b a = false := by
  have h := List.pairwise_mergeSort (le := fun x y => !ltPt y x) (fun a b c h1 h2 => by
    simp only [Bool.not_eq_true'] at h1 h2 ⊢
    exact swo_ltPt.ntrans c b a h2 h1) (fun a b => by
    simp only [Bool.or_eq_true, Bool.not_eq_true']
    cases hc : ltPt b a
    · exact Or.inl rfl
    · exact Or.inr (lt_asymm hc)) l
  exact h.imp fun h => by simpa using h
theorem srt_mem {l : List Pt} {x : Pt} : x ∈ srt l ↔ x ∈ l := (List.mergeSort_perm l _).mem_iff
/-- THE TWO WAYS TO SORT AGREE. -/
theorem sorted_same (l : List Pt) : compactF (srt l) = pySortF l :=
  strict_ext (compactF_strict (srt_pairwise l)) (pySortF_strict l) fun x => by rw [compactF_mem, srt_mem, pySortF_mem]
theorem srt_length (l : List Pt) : (srt l).length = l.length := List.length_mergeSort l

/-! ### The hull -/
def turnZ (a b p : Pt) : Int := (b.x - a.x) * (p.y - a.y) - (b.y - a.y) * (p.x - a.x)
def popB (out : List Pt) (p : Pt) : Bool := decide (1 < out.length) && decide (turnZ (out.getD (out.length - 2) default) (out.getD (out.length - 1) default) p ≤ 0)
/-- What is left of a chain ahead of p. -/
def popF (out : List Pt) (p : Pt) : List Pt := if _h : popB out p = true then popF out.dropLast p else out
termination_by out.length
decreasing_by
  have h1 : 1 < out.length := by have := _h; unfold popB at this; simp at this; omega
  simp; omega
theorem popF_go {out : List Pt} {p : Pt} (h : popB out p = true) : popF out p = popF out.dropLast p := by rw [popF, dif_pos h]
theorem popF_stop {out : List Pt} {p : Pt} (h : popB out p = false) : popF out p = out := by rw [popF, dif_neg (by rw [h]; simp)]
def halfF (l : List Pt) : List Pt := l.foldl (fun o p => popF o p ++ [p]) []
theorem halfF_snoc (l : List Pt) (p : Pt) : halfF (l ++ [p]) = popF (halfF l) p ++ [p] := by simp [halfF]
def hullF (s : List Pt) : List Pt := if s.length < 2 then s else (halfF s).dropLast ++ (halfF s.reverse).dropLast

end Go.Proofs.Ytpnnmdkhkjenmaa
