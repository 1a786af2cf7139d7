/-
  Circuits, plain: those that the program visits in their order, the best of them, and the reference's search by length: they tell the same. By an AI agent.
-/
import Derived.Test.YtjkfighooijblaaGreatWyG
namespace Go.Proofs.YtjkfighooijblaaGreat

theorem vx_snoc_lt {l : List Int} {t : Nat} (k : Int) (h : t < l.length) : vx (l ++ [k]) t = vx l t := by
  unfold vx
  rw [List.getD_eq_getElem?_getD, List.getElem?_append_left h, ← List.getD_eq_getElem?_getD]
theorem vx_snoc_eq (l : List Int) (k : Nat) : vx (l ++ [(k : Int)]) l.length = k := by
  unfold vx
  simp [List.getD_eq_getElem?_getD]
theorem coF_snoc {m : Nat → Nat → Int} {l : List Int} (k : Int) : ∀ {t : Nat}, t < l.length → coF m (l ++ [k]) t = coF m l t
  | 0, _ => rfl
  | t + 1, h => by
    unfold coF
    rw [coF_snoc k (t := t) (by omega), vx_snoc_lt k (by omega), vx_snoc_lt k h]
theorem stB_snoc {m : Nat → Nat → Int} {l : List Int} (k : Int) : ∀ {t : Nat}, t < l.length → stB m (l ++ [k]) t = stB m l t
  | 0, _ => rfl
  | t + 1, h => by
    unfold stB
    rw [stB_snoc k (t := t) (by omega), vx_snoc_lt k (by omega), vx_snoc_lt k h]

def laV (l : List Int) : Nat := vx l (l.length - 1)
/-- A way without a vertex twice. -/
structure Pth (n : Nat) (m : Nat → Nat → Int) (l : List Int) : Prop where
  pos : 1 ≤ l.length
  vt : vtB n l = true
  st : stB m l (l.length - 1) = true
  nd : ∀ i j, i < j → j < l.length → vx l i ≠ vx l j
theorem Pth.len {n : Nat} {m : Nat → Nat → Int} {l : List Int} (h : Pth n m l) : l.length ≤ n := by
  rcases Nat.lt_or_ge n l.length with hl | hl
  · obtain ⟨a, b, h1, h2, h3⟩ := pigeon n (vx l) (fun t ht => (vt_at h.vt (by omega)).2)
    exact absurd h3 (h.nd a b h1 (by omega))
  · exact hl
theorem Pth.la {n : Nat} {m : Nat → Nat → Int} {l : List Int} (h : Pth n m l) : laV l < n := (vt_at h.vt (t := l.length - 1) (by have := h.pos; omega)).2
theorem Pth.hd {n : Nat} {m : Nat → Nat → Int} {l : List Int} (h : Pth n m l) : vx l 0 < n := (vt_at h.vt (t := 0) (by have := h.pos; omega)).2
theorem Pth.one {n : Nat} (m : Nat → Nat → Int) {i : Nat} (h : i < n) : Pth n m [(i : Int)] :=
  ⟨by simp, allB_t.2 fun t ht => by
    obtain rfl : t = 0 := by simpa using ht
    simp; omega, rfl, fun a b h1 h2 => by simp at h2; omega⟩
theorem not_mem_vx {n : Nat} {l : List Int} (hv : vtB n l = true) {k : Nat} : (k : Int) ∉ l ↔ ∀ t, t < l.length → vx l t ≠ k := by
  constructor
  · intro h t ht e
    refine h ?_
    have h1 := (vt_at hv ht).1
    rw [← e, ← h1, List.getD_eq_getElem?_getD, List.getElem?_eq_getElem ht]
    exact List.getElem_mem ht
  · intro h hm
    obtain ⟨t, ht, e⟩ := List.getElem_of_mem hm
    have h1 := (vt_at hv ht).1
    rw [List.getD_eq_getElem?_getD, List.getElem?_eq_getElem ht] at h1
    simp only [Option.getD_some] at h1
    exact h t ht (by omega)
theorem Pth.ext {n : Nat} {m : Nat → Nat → Int} {l : List Int} (h : Pth n m l) {k : Nat} (hk : k < n) (h1 : m (laV l) k ≠ 1000000000) (h2 : (k : Int) ∉ l) : Pth n m (l ++ [(k : Int)]) := by
  have hp := h.pos
  refine ⟨by simp, allB_t.2 fun t ht => ?_, ?_, fun i j hij hj => ?_⟩
  · rw [List.length_append, List.length_singleton] at ht
    by_cases e : t = l.length
    · subst e
      simp [List.getD_eq_getElem?_getD]
      omega
    · have := allB_t.1 h.vt t (by omega)
      rwa [List.getD_eq_getElem?_getD, List.getElem?_append_left (by omega), ← List.getD_eq_getElem?_getD]
  · obtain ⟨q, hq⟩ : ∃ q, l.length = q + 1 := ⟨l.length - 1, by omega⟩
    have hst := h.st
    unfold laV at h1
    rw [List.length_append, List.length_singleton, Nat.add_sub_cancel, hq]
    rw [hq, Nat.add_sub_cancel] at hst h1
    unfold stB
    rw [stB_snoc _ (by omega), hst, vx_snoc_lt _ (by omega), ← hq, vx_snoc_eq]
    simp [h1]
  · rw [List.length_append, List.length_singleton] at hj
    rw [vx_snoc_lt _ (show i < l.length by omega)]
    by_cases e : j = l.length
    · subst e
      rw [vx_snoc_eq]
      exact (not_mem_vx h.vt).1 h2 i hij
    · rw [vx_snoc_lt _ (by omega)]
      exact h.nd i j hij (by omega)

/-! ### the program's order -/
def cyC (m : Nat → Nat → Int) (l : List Int) : Int := prodZ (coF m l (l.length - 1)) (m (laV l) (vx l 0))
def negC (m : Nat → Nat → Int) (l : List Int) : Bool := decide (cyC m l < 0)
def ownC (m : Nat → Nat → Int) (l : List Int) : List (List Int) := if m (laV l) (vx l 0) = 1000000000 then [] else [l]
def exB (m : Nat → Nat → Int) (l : List Int) (k : Nat) : Bool := !decide (m (laV l) k = 1000000000) && !l.contains (k : Int)
def cirF (n : Nat) (m : Nat → Nat → Int) : Nat → List Int → List (List Int)
  | 0, l => ownC m l
  | f + 1, l => ownC m l ++ (List.range (n - (vx l 0 + 1))).flatMap fun i => if exB m l (vx l 0 + 1 + i) = true then cirF n m f (l ++ [((vx l 0 + 1 + i : Nat) : Int)]) else []
def cirT (n : Nat) (m : Nat → Nat → Int) (f : Nat) (l : List Int) (j : Nat) : List (List Int) := (List.range j).flatMap fun i => if exB m l (vx l 0 + 1 + i) = true then cirF n m f (l ++ [((vx l 0 + 1 + i : Nat) : Int)]) else []
theorem cirF_succ (n : Nat) (m : Nat → Nat → Int) (f : Nat) (l : List Int) : cirF n m (f + 1) l = ownC m l ++ cirT n m f l (n - (vx l 0 + 1)) := rfl
theorem cirT_succ (n : Nat) (m : Nat → Nat → Int) (f : Nat) (l : List Int) (j : Nat) : cirT n m f l (j + 1) = cirT n m f l j ++ (if exB m l (vx l 0 + 1 + j) = true then cirF n m f (l ++ [((vx l 0 + 1 + j : Nat) : Int)]) else []) := by
  unfold cirT
  rw [List.range_succ, List.flatMap_append]
  simp
theorem exB_t {m : Nat → Nat → Int} {l : List Int} {k : Nat} : exB m l k = true ↔ m (laV l) k ≠ 1000000000 ∧ (k : Int) ∉ l := by
  unfold exB
  simp
def pkC (m : Nat → Nat → Int) (b c : List Int) : List Int := if (negC m c && (decide (b.length = 0) || decide (c.length < b.length))) = true then c else b
def allC (n : Nat) (m : Nat → Nat → Int) (j : Nat) : List (List Int) := (List.range j).flatMap fun i => cirF n m (n - 1) [((i : Nat) : Int)]
theorem allC_succ (n : Nat) (m : Nat → Nat → Int) (j : Nat) : allC n m (j + 1) = allC n m j ++ cirF n m (n - 1) [((j : Nat) : Int)] := by
  unfold allC
  rw [List.range_succ, List.flatMap_append]
  simp
def bstC (n : Nat) (m : Nat → Nat → Int) : List Int := (allC n m n).foldl (pkC m) []

theorem cirF_good {n : Nat} {m : Nat → Nat → Int} : ∀ (f : Nat) {l c : List Int}, Pth n m l → c ∈ cirF n m f l → Pth n m c ∧ m (laV c) (vx c 0) ≠ 1000000000 ∧ l.length ≤ c.length
  | 0, l, c, h, hc => by
    unfold cirF ownC at hc
    split at hc
    · cases hc
    · rename_i hne
      obtain rfl : c = l := by simpa using hc
      exact ⟨h, hne, Nat.le_refl _⟩
  | f + 1, l, c, h, hc => by
    unfold cirF at hc
    rcases List.mem_append.1 hc with hc | hc
    · unfold ownC at hc
      split at hc
      · cases hc
      · rename_i hne
        obtain rfl : c = l := by simpa using hc
        exact ⟨h, hne, Nat.le_refl _⟩
    · obtain ⟨i, hi, hc⟩ := List.mem_flatMap.1 hc
      rw [List.mem_range] at hi
      split at hc
      · rename_i hex
        have he := exB_t.1 hex
        obtain ⟨g1, g2, g3⟩ := cirF_good f (h.ext (by omega) he.1 he.2) hc
        rw [List.length_append, List.length_singleton] at g3
        exact ⟨g1, g2, by omega⟩
      · cases hc
theorem cirT_long {n : Nat} {m : Nat → Nat → Int} {f : Nat} {l c : List Int} {j : Nat} (h : Pth n m l) (hj : vx l 0 + 1 + j ≤ n) (hc : c ∈ cirT n m f l j) : l.length < c.length := by
  unfold cirT at hc
  obtain ⟨i, hi, hc⟩ := List.mem_flatMap.1 hc
  rw [List.mem_range] at hi
  split at hc
  · rename_i hex
    have he := exB_t.1 hex
    obtain ⟨_, _, g3⟩ := cirF_good f (h.ext (by omega) he.1 he.2) hc
    rw [List.length_append, List.length_singleton] at g3
    omega
  · cases hc
theorem allC_good {n : Nat} {m : Nat → Nat → Int} {j : Nat} (hj : j ≤ n) {c : List Int} (hc : c ∈ allC n m j) : Pth n m c ∧ m (laV c) (vx c 0) ≠ 1000000000 := by
  unfold allC at hc
  obtain ⟨i, hi, hc⟩ := List.mem_flatMap.1 hc
  rw [List.mem_range] at hi
  obtain ⟨h1, h2, _⟩ := cirF_good _ (Pth.one m (by omega)) hc
  exact ⟨h1, h2⟩

/-! ### the reference's search -/
def wcF (n : Nat) (m : Nat → Nat → Int) (N : Nat) : Nat → List Int → Option (List Int)
  | 0, l => if l.length = N then (if negC m l = true then some l else none) else none
  | f + 1, l => if l.length = N then (if negC m l = true then some l else none) else (List.range (n - (vx l 0 + 1))).findSome? fun i => if exB m l (vx l 0 + 1 + i) = true then wcF n m N f (l ++ [((vx l 0 + 1 + i : Nat) : Int)]) else none
theorem own_find {m : Nat → Nat → Int} {N : Nat} {l : List Int} : (ownC m l).find? (fun c => decide (c.length = N) && negC m c) = if l.length = N then (if negC m l = true then some l else none) else none := by
  unfold ownC
  split
  · rename_i h
    have : negC m l = false := by
      unfold negC cyC
      rw [prodZ_inf (Or.inr h)]
      rfl
    rw [this]
    simp
  · by_cases e : l.length = N
    · rw [if_pos e]
      by_cases e2 : negC m l = true
      · simp [e, e2]
      · simp [e, e2]
    · rw [if_neg e]
      simp [e]
theorem wc_find {n : Nat} {m : Nat → Nat → Int} {N : Nat} : ∀ (f : Nat) {l : List Int}, Pth n m l → wcF n m N f l = (cirF n m f l).find? (fun c => decide (c.length = N) && negC m c)
  | 0, l, h => by
    unfold wcF cirF
    rw [own_find]
  | f + 1, l, h => by
    rw [cirF_succ, List.find?_append, own_find]
    unfold wcF
    by_cases e : l.length = N
    · rw [if_pos e, if_pos e]
      have : (cirT n m f l (n - (vx l 0 + 1))).find? (fun c => decide (c.length = N) && negC m c) = none := by
        rw [List.find?_eq_none]
        intro c hc
        have := cirT_long h (by have := h.hd; omega) hc
        simp; omega
      rw [this]
      simp
    · rw [if_neg e, if_neg e]
      unfold cirT
      rw [List.find?_flatMap]
      simp only [Option.none_or]
      have hd := h.hd
      have : ∀ (L : List Nat), (∀ i ∈ L, vx l 0 + 1 + i < n) → (L.findSome? fun i => if exB m l (vx l 0 + 1 + i) = true then wcF n m N f (l ++ [((vx l 0 + 1 + i : Nat) : Int)]) else none) = L.findSome? fun x => (if exB m l (vx l 0 + 1 + x) = true then cirF n m f (l ++ [((vx l 0 + 1 + x : Nat) : Int)]) else []).find? fun c => decide (c.length = N) && negC m c := by
        intro L hL
        induction L with
        | nil => rfl
        | cons a L ih =>
          rw [List.findSome?_cons, List.findSome?_cons, ih (fun i hi => hL i (List.mem_cons_of_mem _ hi))]
          have : (if exB m l (vx l 0 + 1 + a) = true then wcF n m N f (l ++ [((vx l 0 + 1 + a : Nat) : Int)]) else none) = (if exB m l (vx l 0 + 1 + a) = true then cirF n m f (l ++ [((vx l 0 + 1 + a : Nat) : Int)]) else []).find? fun c => decide (c.length = N) && negC m c := by
            split
            · rename_i hex
              have he := exB_t.1 hex
              exact wc_find f (h.ext (hL a (List.mem_cons_self ..)) he.1 he.2)
            · rfl
          rw [this]
      exact this _ (fun i hi => by rw [List.mem_range] at hi; omega)
def refI (n : Nat) (m : Nat → Nat → Int) (N i : Nat) : Option (List Int) := wcF n m N (n - 1) [((i : Nat) : Int)]
theorem ref_all {n : Nat} {m : Nat → Nat → Int} (N : Nat) : ∀ j, j ≤ n → (List.range j).findSome? (refI n m N) = (allC n m j).find? (fun c => decide (c.length = N) && negC m c)
  | 0, _ => rfl
  | j + 1, h => by
    rw [allC_succ, List.range_succ, List.findSome?_append, List.find?_append, ref_all N j (by omega)]
    simp only [List.findSome?_cons, List.findSome?_nil]
    unfold refI
    rw [wc_find (n - 1) (Pth.one m (by omega))]
    cases (List.find? (fun c => decide (c.length = N) && negC m c) (cirF n m (n - 1) [((j : Nat) : Int)])) <;> rfl

/-! ### the best -/
def BstP (m : Nat → Nat → Int) (R : List (List Int)) (b : List Int) : Prop :=
  (b = [] ∧ ∀ c ∈ R, negC m c = false) ∨ (b ≠ [] ∧ R.find? (fun c => decide (c.length = b.length) && negC m c) = some b ∧ ∀ c ∈ R, negC m c = true → b.length ≤ c.length)
theorem bst_step {m : Nat → Nat → Int} {R : List (List Int)} {b c : List Int} (h : BstP m R b) (hc : c ≠ []) : BstP m (R ++ [c]) (pkC m b c) := by
  unfold pkC
  have hc0 : 0 < c.length := List.length_pos_iff.2 hc
  by_cases hn : negC m c = true
  · rcases h with ⟨rfl, h1⟩ | ⟨h1, h2, h3⟩
    · rw [hn]
      simp only [List.length_nil, decide_true, Bool.true_or, Bool.and_self, if_true]
      refine Or.inr ⟨hc, ?_, ?_⟩
      · rw [List.find?_append]
        have : R.find? (fun x => decide (x.length = c.length) && negC m x) = none := by
          rw [List.find?_eq_none]
          intro x hx
          simp [h1 x hx]
        rw [this]
        simp [hn]
      · intro x hx hx2
        rcases List.mem_append.1 hx with hx | hx
        · rw [h1 x hx] at hx2; cases hx2
        · obtain rfl : x = c := by simpa using hx
          exact Nat.le_refl _
    · have hb0 : 0 < b.length := List.length_pos_iff.2 h1
      rw [hn]
      have e0 : decide (b.length = 0) = false := decide_eq_false (by omega)
      rw [e0, Bool.false_or, Bool.true_and]
      by_cases hl : c.length < b.length
      · rw [if_pos (decide_eq_true hl)]
        refine Or.inr ⟨hc, ?_, ?_⟩
        · rw [List.find?_append]
          have : R.find? (fun x => decide (x.length = c.length) && negC m x) = none := by
            rw [List.find?_eq_none]
            intro x hx
            by_cases hx2 : negC m x = true
            · have := h3 x hx hx2
              simp; omega
            · simp [hx2]
          rw [this]
          simp [hn]
        · intro x hx hx2
          rcases List.mem_append.1 hx with hx | hx
          · have := h3 x hx hx2
            omega
          · obtain rfl : x = c := by simpa using hx
            exact Nat.le_refl _
      · rw [if_neg (by simpa using hl)]
        refine Or.inr ⟨h1, by rw [List.find?_append, h2]; rfl, ?_⟩
        intro x hx hx2
        rcases List.mem_append.1 hx with hx | hx
        · exact h3 x hx hx2
        · obtain rfl : x = c := by simpa using hx
          omega
  · have hn' := Bool.eq_false_iff.2 hn
    rw [hn', Bool.false_and, if_neg (by simp)]
    rcases h with ⟨rfl, h1⟩ | ⟨h1, h2, h3⟩
    · refine Or.inl ⟨rfl, fun x hx => ?_⟩
      rcases List.mem_append.1 hx with hx | hx
      · exact h1 x hx
      · obtain rfl : x = c := by simpa using hx
        exact hn'
    · refine Or.inr ⟨h1, by rw [List.find?_append, h2]; rfl, fun x hx hx2 => ?_⟩
      rcases List.mem_append.1 hx with hx | hx
      · exact h3 x hx hx2
      · obtain rfl : x = c := by simpa using hx
        rw [hn'] at hx2; cases hx2
theorem bst_fold {m : Nat → Nat → Int} : ∀ (R Q : List (List Int)) (b : List Int), BstP m Q b → (∀ c ∈ R, c ≠ []) → BstP m (Q ++ R) (R.foldl (pkC m) b)
  | [], Q, b, h, _ => by rw [List.append_nil]; exact h
  | c :: R, Q, b, h, hc => by
    rw [show Q ++ c :: R = (Q ++ [c]) ++ R by simp, List.foldl_cons]
    exact bst_fold R _ _ (bst_step h (hc c (List.mem_cons_self ..))) (fun x hx => hc x (List.mem_cons_of_mem _ hx))
theorem bst_spec (n : Nat) (m : Nat → Nat → Int) : BstP m (allC n m n) (bstC n m) := by
  have := bst_fold (m := m) (allC n m n) [] [] (Or.inl ⟨rfl, by simp⟩) (fun c hc => by
    have := (allC_good (Nat.le_refl _) hc).1.pos
    intro e
    rw [e] at this
    simp at this)
  rwa [List.nil_append] at this
theorem bst_in {n : Nat} {m : Nat → Nat → Int} (h : bstC n m ≠ []) : Pth n m (bstC n m) ∧ m (laV (bstC n m)) (vx (bstC n m) 0) ≠ 1000000000 ∧ negC m (bstC n m) = true := by
  rcases bst_spec n m with ⟨h1, _⟩ | ⟨_, h2, _⟩
  · exact absurd h1 h
  · have h3 := List.mem_of_find?_eq_some h2
    have h4 := List.find?_some h2
    obtain ⟨g1, g2⟩ := allC_good (Nat.le_refl _) h3
    exact ⟨g1, g2, by simpa using h4⟩
/-- The search by length meets the best. -/
theorem ref_less {n : Nat} {m : Nat → Nat → Int} {N : Nat} (h : bstC n m = [] ∨ N < (bstC n m).length) {i : Nat} (hi : i < n) : refI n m N i = none := by
  have h0 : (List.range n).findSome? (refI n m N) = none := by
    rw [ref_all N n (Nat.le_refl _), List.find?_eq_none]
    intro c hc
    rcases bst_spec n m with ⟨_, h2⟩ | ⟨h1, _, h3⟩
    · simp [h2 c hc]
    · by_cases e : negC m c = true
      · have := h3 c hc e
        rcases h with h | h
        · exact absurd h h1
        · simp; omega
      · simp [e]
  exact List.findSome?_eq_none_iff.1 h0 i (List.mem_range.2 hi)
theorem ref_at {n : Nat} {m : Nat → Nat → Int} (h : bstC n m ≠ []) : (List.range n).findSome? (refI n m (bstC n m).length) = some (bstC n m) := by
  rcases bst_spec n m with ⟨h1, _⟩ | ⟨_, h2, _⟩
  · exact absurd h1 h
  · rw [ref_all _ n (Nat.le_refl _)]
    exact h2
theorem ref_first {n : Nat} {m : Nat → Nat → Int} (h : bstC n m ≠ []) : ∃ i, i < n ∧ refI n m (bstC n m).length i = some (bstC n m) ∧ ∀ k, k < i → refI n m (bstC n m).length k = none := by
  have h1 := ref_at h
  generalize bstC n m = b at h1
  generalize refI n m b.length = F at h1
  clear h
  have : ∀ j, (List.range j).findSome? F = some b → ∃ i, i < j ∧ F i = some b ∧ ∀ k, k < i → F k = none := by
    intro j
    induction j with
    | zero => intro h; simp at h
    | succ j ih =>
      intro h
      rw [List.range_succ, List.findSome?_append] at h
      cases hr : (List.range j).findSome? F with
      | some x =>
        rw [hr] at h
        simp only [Option.some_or, Option.some.injEq] at h
        subst h
        obtain ⟨i, h1, h2, h3⟩ := ih hr
        exact ⟨i, by omega, h2, h3⟩
      | none =>
        rw [hr] at h
        simp only [Option.none_or, List.findSome?_cons, List.findSome?_nil] at h
        refine ⟨j, by omega, ?_, fun k hk => List.findSome?_eq_none_iff.1 hr k (List.mem_range.2 hk)⟩
        cases hF : F j with
        | none => rw [hF] at h; cases h
        | some y => rw [hF] at h; exact h
  exact this n h1

/-! ### a circuit is a closed walk -/
theorem pth_walk {n : Nat} {m : Nat → Nat → Int} {l : List Int} (hv : vtB n l = true) (hm : ∀ a b, a < n → b < n → numB (m a b) = true) (hl : l.length ≤ 900) : ∀ t, t < l.length → stB m l t = true → Wk n m (vx l 0) (vx l t) (coF m l t) t
  | 0, h, _ => Wk.nil (vt_at hv h).2
  | t + 1, h, hs => by
    have hs2 := hs
    unfold stB at hs2
    simp only [Bool.and_eq_true, Bool.not_eq_true', decide_eq_false_iff_not] at hs2
    have ih := pth_walk hv hm hl t (by omega) hs2.1
    have hb := co_bd hm hv hl t (by omega)
    have hc : coF m l t ≠ 1000000000 := by
      rcases hb with ⟨h1, _⟩ | ⟨_, h1, h2⟩
      · rw [hs2.1] at h1; cases h1
      · omega
    unfold coF
    rw [prodZ_fin hc hs2.2]
    exact Wk.snoc ih (vt_at hv h).2 hs2.2
theorem bst_closed {n : Nat} {m : Nat → Nat → Int} (hm : ∀ a b, a < n → b < n → numB (m a b) = true) (hn6 : n ≤ 6) (h : bstC n m ≠ []) : ∃ x c s, Wk n m x x c s ∧ c < 0 := by
  obtain ⟨hp, h1, h2⟩ := bst_in h
  generalize bstC n m = l at hp h1 h2
  have hl := hp.len
  have hpos := hp.pos
  have hw := pth_walk hp.vt hm (by omega) (l.length - 1) (by omega) hp.st
  have h3 := of_decide_eq_true h2
  have hb := co_bd hm hp.vt (by omega) (l.length - 1) (by omega)
  have hc : coF m l (l.length - 1) ≠ 1000000000 := by
    rcases hb with ⟨h1, _⟩ | ⟨_, h1, h2⟩
    · rw [hp.st] at h1; cases h1
    · omega
  unfold cyC at h3
  rw [prodZ_fin hc h1] at h3
  exact ⟨vx l 0, _, _, Wk.snoc hw hp.hd h1, h3⟩
end Go.Proofs.YtjkfighooijblaaGreat
