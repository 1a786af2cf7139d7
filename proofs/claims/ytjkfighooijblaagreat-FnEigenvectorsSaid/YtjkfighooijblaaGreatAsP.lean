/-
  Some texts of this proof in one: AsP AsQ AsR. Each part tells what it proves. By an AI agent.
-/
import Derived.Test.YtjkfighooijblaaGreatWyG

/-
  Assignments, plain: permutations in their order, their costs, the first best one; the program's way and the reference's tell the same. By an AI agent.
-/
namespace Go.Proofs.YtjkfighooijblaaGreat

theorem vxA_lt {l : List Int} {t : Nat} (k : Int) (h : t < l.length) : vx (l ++ [k]) t = vx l t := by
  unfold vx
  rw [List.getD_eq_getElem?_getD, List.getElem?_append_left h, ← List.getD_eq_getElem?_getD]
theorem vxA_eq (l : List Int) (k : Nat) : vx (l ++ [(k : Int)]) l.length = k := by
  unfold vx
  simp [List.getD_eq_getElem?_getD]
/-- Numbers below n, none twice. -/
structure Ndp (n : Nat) (l : List Int) : Prop where
  vt : vtB n l = true
  nd : ∀ i j, i < j → j < l.length → vx l i ≠ vx l j
theorem Ndp.nil (n : Nat) : Ndp n [] := ⟨rfl, fun i j _ h => by simp at h⟩
theorem Ndp.len {n : Nat} {l : List Int} (h : Ndp n l) : l.length ≤ n := by
  rcases Nat.lt_or_ge n l.length with hl | hl
  · obtain ⟨a, b, h1, h2, h3⟩ := pigeon n (vx l) (fun t ht => (vt_at h.vt (by omega)).2)
    exact absurd h3 (h.nd a b h1 (by omega))
  · exact hl
theorem mem_vxA {n : Nat} {l : List Int} (hv : vtB n l = true) {k : Nat} : (k : Int) ∈ l ↔ ∃ t, t < l.length ∧ vx l t = k := by
  constructor
  · intro hm
    obtain ⟨t, ht, e⟩ := List.getElem_of_mem hm
    have h1 := (vt_at hv ht).1
    rw [List.getD_eq_getElem?_getD, List.getElem?_eq_getElem ht] at h1
    simp only [Option.getD_some] at h1
    exact ⟨t, ht, by omega⟩
  · rintro ⟨t, ht, e⟩
    have h1 := (vt_at hv ht).1
    rw [← e, ← h1, List.getD_eq_getElem?_getD, List.getElem?_eq_getElem ht]
    exact List.getElem_mem ht
theorem Ndp.ext {n : Nat} {l : List Int} (h : Ndp n l) {k : Nat} (hk : k < n) (h2 : (k : Int) ∉ l) : Ndp n (l ++ [(k : Int)]) := by
  refine ⟨allB_t.2 fun t ht => ?_, fun i j hij hj => ?_⟩
  · rw [List.length_append, List.length_singleton] at ht
    by_cases e : t = l.length
    · subst e
      simp [List.getD_eq_getElem?_getD]
      omega
    · have := allB_t.1 h.vt t (by omega)
      rwa [List.getD_eq_getElem?_getD, List.getElem?_append_left (by omega), ← List.getD_eq_getElem?_getD]
  · rw [List.length_append, List.length_singleton] at hj
    rw [vxA_lt _ (show i < l.length by omega)]
    by_cases e : j = l.length
    · subst e
      rw [vxA_eq]
      exact fun h3 => h2 ((mem_vxA h.vt).2 ⟨i, hij, h3⟩)
    · rw [vxA_lt _ (by omega)]
      exact h.nd i j hij (by omega)

/-! ### permutations in their order -/
def prm (n : Nat) : Nat → List Int → List (List Int)
  | 0, l => if l.length = n then [l] else []
  | f + 1, l => if l.length = n then [l] else (List.range n).flatMap fun k : Nat => if l.contains (k : Int) = true then [] else prm n f (l ++ [(k : Int)])
def prmT (n f : Nat) (l : List Int) (j : Nat) : List (List Int) := (List.range j).flatMap fun k : Nat => if l.contains (k : Int) = true then [] else prm n f (l ++ [(k : Int)])
theorem prmT_succ (n f : Nat) (l : List Int) (j : Nat) : prmT n f l (j + 1) = prmT n f l j ++ (if l.contains (j : Int) = true then [] else prm n f (l ++ [(j : Int)])) := by
  unfold prmT
  rw [List.range_succ, List.flatMap_append]
  simp
theorem prm_full {n f : Nat} {l : List Int} (h : l.length = n) : prm n f l = [l] := by
  cases f <;> (unfold prm; rw [if_pos h])
theorem prm_step {n f : Nat} {l : List Int} (h : l.length ≠ n) (hf : n ≤ l.length + f) (hl : l.length ≤ n) : prm n f l = prmT n (f - 1) l n := by
  cases f with
  | zero => omega
  | succ f => unfold prm; rw [if_neg h]; rfl
/-- what is in them: begins with the list, of length n, none twice. -/
theorem prm_mem {n : Nat} : ∀ (f : Nat) {l c : List Int}, Ndp n l → n ≤ l.length + f → (c ∈ prm n f l ↔ Ndp n c ∧ c.length = n ∧ ∃ r, c = l ++ r)
  | f, l, c, h, hf => by
    by_cases hl : l.length = n
    · rw [prm_full hl]
      constructor
      · intro hc
        obtain rfl : c = l := by simpa using hc
        exact ⟨h, hl, [], by simp⟩
      · rintro ⟨h1, h2, r, rfl⟩
        rw [List.length_append] at h2
        have : r = [] := List.length_eq_zero_iff.1 (by omega)
        rw [this]
        simp
    · cases f with
      | zero => have := h.len; omega
      | succ f =>
        rw [prm_step hl hf h.len]
        unfold prmT
        rw [List.mem_flatMap]
        constructor
        · rintro ⟨k, hk, hc⟩
          rw [List.mem_range] at hk
          split at hc
          · cases hc
          · rename_i hnc
            have hnm : (k : Int) ∉ l := by simpa using hnc
            have hx := h.ext hk hnm
            obtain ⟨g1, g2, r, rfl⟩ := (prm_mem f hx (by rw [List.length_append, List.length_singleton]; omega)).1 hc
            exact ⟨g1, g2, (k : Int) :: r, by simp⟩
        · rintro ⟨g1, g2, r, rfl⟩
          cases r with
          | nil => rw [List.append_nil] at g2; exact absurd g2 hl
          | cons x r =>
            have hv := vt_at g1.vt (t := l.length) (by simp)
            have hx0 : (l ++ x :: r).getD l.length 0 = x := by simp [List.getD_eq_getElem?_getD]
            rw [hx0] at hv
            generalize vx (l ++ x :: r) l.length = k at hv
            obtain ⟨rfl, hk⟩ := hv
            have hnm : (k : Int) ∉ l := by
              intro hm
              obtain ⟨t, ht, e⟩ := (mem_vxA h.vt).1 hm
              refine g1.nd t l.length ht (by simp) ?_
              have e1 : vx (l ++ (k : Int) :: r) t = vx l t := by
                unfold vx
                rw [List.getD_eq_getElem?_getD, List.getElem?_append_left ht, ← List.getD_eq_getElem?_getD]
              have e2 : vx (l ++ (k : Int) :: r) l.length = k := by
                unfold vx
                simp [List.getD_eq_getElem?_getD]
              rw [e1, e2, e]
            refine ⟨k, List.mem_range.2 hk, ?_⟩
            rw [if_neg (by simpa using hnm)]
            exact (prm_mem f (h.ext hk hnm) (by rw [List.length_append, List.length_singleton]; omega)).2 ⟨g1, g2, r, by simp⟩
def prmA (n : Nat) : List (List Int) := prm n n []
theorem prmA_mem {n : Nat} {c : List Int} : c ∈ prmA n ↔ Ndp n c ∧ c.length = n := by
  unfold prmA
  rw [prm_mem n (Ndp.nil n) (by simp)]
  exact ⟨fun h => ⟨h.1, h.2.1⟩, fun h => ⟨h.1, h.2, c, rfl⟩⟩

/-! ### costs -/
def csF (m : Nat → Nat → Int) (l : List Int) : Nat → Int
  | 0 => 0
  | t + 1 => prodZ (csF m l t) (m t (vx l t))
def fnB (m : Nat → Nat → Int) (l : List Int) : Nat → Bool
  | 0 => true
  | t + 1 => fnB m l t && !decide (m t (vx l t) = 1000000000)
def smN (f : Nat → Int) : Nat → Int
  | 0 => 0
  | t + 1 => smN f t + f t
theorem fnB_t {m : Nat → Nat → Int} {l : List Int} : ∀ {t : Nat}, fnB m l t = true ↔ ∀ s, s < t → m s (vx l s) ≠ 1000000000
  | 0 => ⟨fun _ s hs => absurd hs (Nat.not_lt_zero _), fun _ => rfl⟩
  | t + 1 => by
    unfold fnB
    rw [Bool.and_eq_true, fnB_t, Bool.not_eq_true', decide_eq_false_iff_not]
    constructor
    · rintro ⟨h1, h2⟩ s hs
      by_cases e : s = t
      · subst e; exact h2
      · exact h1 s (by omega)
    · exact fun h => ⟨fun s hs => h s (by omega), h t (by omega)⟩
theorem cs_bd {n : Nat} {m : Nat → Nat → Int} {l : List Int} (hm : ∀ a b, a < n → b < n → numB (m a b) = true) (hv : vtB n l = true) (hl : l.length ≤ n) (hn : n ≤ 900) : ∀ t, t ≤ l.length → (fnB m l t = false ∧ csF m l t = 1000000000) ∨ (fnB m l t = true ∧ csF m l t = smN (fun i => m i (vx l i)) t ∧ -(1000000 * (t : Int)) ≤ csF m l t ∧ csF m l t ≤ 1000000 * (t : Int))
  | 0, _ => Or.inr ⟨rfl, rfl, by simp [csF]⟩
  | t + 1, ht => by
    have ih := cs_bd hm hv hl hn t (by omega)
    have h1 := (vt_at hv (t := t) (by omega)).2
    have h3 := numB_t (hm _ _ (show t < n by omega) h1)
    unfold fnB csF smN
    by_cases e : m t (vx l t) = 1000000000
    · left
      rw [e]
      exact ⟨by simp, prodZ_inf (Or.inr rfl)⟩
    · rcases ih with ⟨i1, i2⟩ | ⟨i1, i4, i2, i3⟩
      · left
        rw [i1, i2]
        exact ⟨by simp, prodZ_inf (Or.inl rfl)⟩
      · by_cases e2 : csF m l t = 1000000000
        · omega
        · right
          rw [i1, prodZ_fin e2 e, ← i4]
          exact ⟨by simp [e], rfl, by omega, by omega⟩
def costP (m : Nat → Nat → Int) (l : List Int) : Int := csF m l l.length
def finP (m : Nat → Nat → Int) (l : List Int) : Bool := fnB m l l.length
theorem csF_snoc {m : Nat → Nat → Int} {l : List Int} (k : Int) : ∀ {t : Nat}, t ≤ l.length → csF m (l ++ [k]) t = csF m l t
  | 0, _ => rfl
  | t + 1, h => by unfold csF; rw [csF_snoc k (t := t) (by omega), vxA_lt k (by omega)]
theorem fnB_app {m : Nat → Nat → Int} {l : List Int} (r : List Int) : ∀ {t : Nat}, t ≤ l.length → fnB m (l ++ r) t = fnB m l t
  | 0, _ => rfl
  | t + 1, h => by
    have e : vx (l ++ r) t = vx l t := by
      unfold vx
      rw [List.getD_eq_getElem?_getD, List.getElem?_append_left (by omega), ← List.getD_eq_getElem?_getD]
    unfold fnB
    rw [fnB_app r (t := t) (by omega), e]
theorem fnB_mono {m : Nat → Nat → Int} {l : List Int} {s t : Nat} (h : s ≤ t) (ht : fnB m l t = true) : fnB m l s = true := fnB_t.2 fun q hq => fnB_t.1 ht q (by omega)

/-! ### the reference: what is possible -/
def asl (n : Nat) (m : Nat → Nat → Int) : Nat → List Int → List (List Int)
  | 0, l => if l.length = n then [l] else []
  | f + 1, l => if l.length = n then [l] else (List.range n).flatMap fun k : Nat => if (!decide (m l.length k = 1000000000) && !l.contains (k : Int)) = true then asl n m f (l ++ [(k : Int)]) else []
def aslT (n : Nat) (m : Nat → Nat → Int) (f : Nat) (l : List Int) (j : Nat) : List (List Int) := (List.range j).flatMap fun k : Nat => if (!decide (m l.length k = 1000000000) && !l.contains (k : Int)) = true then asl n m f (l ++ [(k : Int)]) else []
theorem aslT_succ (n : Nat) (m : Nat → Nat → Int) (f : Nat) (l : List Int) (j : Nat) : aslT n m f l (j + 1) = aslT n m f l j ++ (if (!decide (m l.length j = 1000000000) && !l.contains (j : Int)) = true then asl n m f (l ++ [(j : Int)]) else []) := by
  unfold aslT
  rw [List.range_succ, List.flatMap_append]
  simp
theorem asl_full {n : Nat} {m : Nat → Nat → Int} {f : Nat} {l : List Int} (h : l.length = n) : asl n m f l = [l] := by
  cases f <;> (unfold asl; rw [if_pos h])
theorem asl_step {n : Nat} {m : Nat → Nat → Int} {f : Nat} {l : List Int} (h : l.length ≠ n) (hf : n ≤ l.length + f) (hl : l.length ≤ n) : asl n m f l = aslT n m (f - 1) l n := by
  cases f with
  | zero => omega
  | succ f => unfold asl; rw [if_neg h]; rfl
theorem filter_flatMapA {α β : Type} (p : β → Bool) (g h : α → List β) : ∀ (L : List α), (∀ x ∈ L, h x = (g x).filter p) → L.flatMap h = (L.flatMap g).filter p
  | [], _ => rfl
  | x :: L, hx => by
    rw [List.flatMap_cons, List.flatMap_cons, List.filter_append, hx x (List.mem_cons_self ..), filter_flatMapA p g h L (fun y hy => hx y (List.mem_cons_of_mem _ hy))]
theorem asl_filter {n : Nat} {m : Nat → Nat → Int} : ∀ (f : Nat) {l : List Int}, Ndp n l → n ≤ l.length + f → fnB m l l.length = true → asl n m f l = (prm n f l).filter (finP m)
  | f, l, h, hf, hfin => by
    by_cases hl : l.length = n
    · rw [asl_full hl, prm_full hl]
      have : finP m l = true := hfin
      simp [this]
    · cases f with
      | zero => have := h.len; omega
      | succ f =>
        rw [asl_step hl hf h.len, prm_step hl hf h.len]
        unfold aslT prmT
        refine filter_flatMapA _ _ _ _ (fun k hk => ?_)
        rw [List.mem_range] at hk
        by_cases hc : (k : Int) ∈ l
        · have : l.contains (k : Int) = true := by simpa using hc
          rw [this]
          simp
        · have hc' : l.contains (k : Int) = false := by simpa using hc
          rw [hc']
          simp only [Bool.not_false, Bool.and_true, Bool.false_eq_true, if_false]
          have hx := h.ext hk hc
          by_cases e : m l.length k = 1000000000
          · rw [e]
            simp only [decide_true, Bool.not_true, Bool.false_eq_true, if_false]
            symm
            rw [List.filter_eq_nil_iff]
            intro c hcm
            obtain ⟨g1, g2, r, rfl⟩ := (prm_mem (f + 1 - 1) hx (by rw [List.length_append, List.length_singleton]; omega)).1 hcm
            intro hfc
            have h1 := fnB_mono (s := l.length + 1) (by simp) (show fnB m _ (l ++ [(k : Int)] ++ r).length = true from hfc)
            rw [fnB_app r (by simp)] at h1
            unfold fnB at h1
            rw [vxA_eq, e] at h1
            simp at h1
          · rw [decide_eq_false e]
            simp only [Bool.not_false, if_true]
            refine asl_filter (f + 1 - 1) hx (by rw [List.length_append, List.length_singleton]; omega) ?_
            rw [List.length_append, List.length_singleton]
            unfold fnB
            rw [fnB_app _ (Nat.le_refl _), hfin, vxA_eq, decide_eq_false e]
            rfl
def aslA (n : Nat) (m : Nat → Nat → Int) : List (List Int) := asl n m n []
theorem aslA_eq (n : Nat) (m : Nat → Nat → Int) : aslA n m = (prmA n).filter (finP m) := asl_filter n (Ndp.nil n) (by simp) rfl

/-! ### the best -/
def pkA (m : Nat → Nat → Int) (s : Int × List Int) (c : List Int) : Int × List Int := if decide (costP m c < s.1) = true then (costP m c, c) else s
def bstA (n : Nat) (m : Nat → Nat → Int) : Int × List Int := (prmA n).foldl (pkA m) (1000000000, [])
def abR (m : Nat → Nat → Int) (s : List (List Int) × Int) (c : List Int) : List (List Int) × Int :=
  let t := if (decide (s.1.length = 0) || decide (costP m c < s.2)) = true then ([], costP m c) else s
  if decide (costP m c = t.2) = true then (t.1 ++ [c], t.2) else t
def asR (n : Nat) (m : Nat → Nat → Int) : List (List Int) × Int := (aslA n m).foldl (abR m) ([], 0)
def RelA (s : Int × List Int) (r : List (List Int) × Int) : Prop := (s = (1000000000, []) ∧ r.1 = []) ∨ (s.2 ≠ [] ∧ s.1 < 1000000000 ∧ r.2 = s.1 ∧ r.1.head? = some s.2)
theorem relA_step {m : Nat → Nat → Int} {s : Int × List Int} {r : List (List Int) × Int} {c : List Int} (h : RelA s r) (hc : c ≠ []) (hf : costP m c < 1000000000) : RelA (pkA m s c) (abR m r c) := by
  unfold pkA abR
  rcases h with ⟨rfl, h1⟩ | ⟨h1, h2, h3, h4⟩
  · rw [if_pos (by simpa using hf)]
    obtain ⟨r1, r2⟩ := r
    simp only at h1
    subst h1
    simp only [List.length_nil, decide_true, Bool.true_or, if_true, List.nil_append]
    exact Or.inr ⟨hc, hf, rfl, rfl⟩
  · obtain ⟨r1, r2⟩ := r
    obtain ⟨s1, s2⟩ := s
    simp only at h1 h2 h3 h4 ⊢
    subst h3
    have hl : r1.length ≠ 0 := by
      intro e
      rw [List.length_eq_zero_iff.1 e] at h4
      cases h4
    rw [decide_eq_false hl, Bool.false_or]
    by_cases hlt : costP m c < r2
    · rw [decide_eq_true hlt]
      simp only [if_true, decide_true, List.nil_append]
      exact Or.inr ⟨hc, hf, rfl, rfl⟩
    · rw [decide_eq_false hlt]
      simp only [Bool.false_eq_true, if_false]
      by_cases e : costP m c = r2
      · rw [decide_eq_true e]
        simp only [if_true]
        refine Or.inr ⟨h1, h2, rfl, ?_⟩
        rw [List.head?_append]
        simp only at h4 ⊢
        rw [h4]
        rfl
      · rw [decide_eq_false e]
        simp only [Bool.false_eq_true, if_false]
        exact Or.inr ⟨h1, h2, rfl, h4⟩
theorem relA_fold {m : Nat → Nat → Int} : ∀ (R : List (List Int)) (s : Int × List Int) (r : List (List Int) × Int), RelA s r → (∀ c ∈ R, c ≠ [] ∧ ((finP m c = false ∧ costP m c = 1000000000) ∨ (finP m c = true ∧ costP m c < 1000000000))) → RelA (R.foldl (pkA m) s) ((R.filter (finP m)).foldl (abR m) r)
  | [], s, r, h, _ => h
  | c :: R, s, r, h, hR => by
    obtain ⟨h1, h2⟩ := hR c (List.mem_cons_self ..)
    rw [List.foldl_cons]
    rcases h2 with ⟨h2, h3⟩ | ⟨h2, h3⟩
    · rw [List.filter_cons, if_neg (by rw [h2]; simp)]
      have : pkA m s c = s := by
        unfold pkA
        rw [h3, if_neg]
        rcases h with ⟨rfl, _⟩ | ⟨_, h5, _⟩
        · simp
        · simp; omega
      rw [this]
      exact relA_fold R s r h (fun x hx => hR x (List.mem_cons_of_mem _ hx))
    · rw [List.filter_cons, if_pos h2, List.foldl_cons]
      exact relA_fold R _ _ (relA_step h h1 h3) (fun x hx => hR x (List.mem_cons_of_mem _ hx))
theorem prm_cost {n : Nat} {m : Nat → Nat → Int} (hm : ∀ a b, a < n → b < n → numB (m a b) = true) (hn : 1 ≤ n ∧ n ≤ 6) {c : List Int} (hc : Ndp n c) (hl : c.length = n) : c ≠ [] ∧ ((finP m c = false ∧ costP m c = 1000000000) ∨ (finP m c = true ∧ costP m c < 1000000000 ∧ costP m c = smN (fun i => m i (vx c i)) n ∧ -6000000 ≤ costP m c ∧ costP m c ≤ 6000000)) := by
  refine ⟨fun e => by rw [e] at hl; simp at hl; omega, ?_⟩
  have h1 := cs_bd hm hc.vt (by omega) (by omega) c.length (Nat.le_refl _)
  unfold finP costP
  rcases h1 with ⟨h1, h2⟩ | ⟨h1, h4, h2, h3⟩
  · exact Or.inl ⟨h1, h2⟩
  · rw [hl] at h2 h3 h4
    rw [hl]
    rw [hl] at h1
    exact Or.inr ⟨h1, by omega, h4, by omega, by omega⟩
theorem best_rel {n : Nat} {m : Nat → Nat → Int} (hm : ∀ a b, a < n → b < n → numB (m a b) = true) (hn : 1 ≤ n ∧ n ≤ 6) : RelA (bstA n m) (asR n m) := by
  unfold bstA asR
  rw [aslA_eq]
  refine relA_fold _ _ _ (Or.inl ⟨rfl, rfl⟩) (fun c hc => ?_)
  obtain ⟨h1, h2⟩ := prmA_mem.1 hc
  obtain ⟨g1, g2⟩ := prm_cost hm hn h1 h2
  exact ⟨g1, g2.imp id (fun h => ⟨h.1, h.2.1⟩)⟩
/-- the best is one, and none costs less. -/
theorem pkA_fold {m : Nat → Nat → Int} : ∀ (R : List (List Int)) (s : Int × List Int), (R.foldl (pkA m) s).1 ≤ s.1 ∧ (∀ c ∈ R, (R.foldl (pkA m) s).1 ≤ costP m c) ∧ (R.foldl (pkA m) s = s ∨ ((R.foldl (pkA m) s).2 ∈ R ∧ (R.foldl (pkA m) s).1 = costP m (R.foldl (pkA m) s).2 ∧ (R.foldl (pkA m) s).1 < s.1))
  | [], s => ⟨Int.le_refl _, fun c hc => (by cases hc), Or.inl rfl⟩
  | c :: R, s => by
    obtain ⟨h1, h2, h3⟩ := pkA_fold R (pkA m s c)
    rw [List.foldl_cons]
    have hp : (pkA m s c).1 ≤ s.1 ∧ (pkA m s c).1 ≤ costP m c ∧ (pkA m s c = s ∨ (pkA m s c = (costP m c, c) ∧ costP m c < s.1)) := by
      unfold pkA
      by_cases e : costP m c < s.1
      · rw [if_pos (decide_eq_true e)]
        exact ⟨by simp; omega, Int.le_refl _, Or.inr ⟨rfl, e⟩⟩
      · rw [if_neg (by simpa using e)]
        exact ⟨Int.le_refl _, by omega, Or.inl rfl⟩
    generalize hq : List.foldl (pkA m) (pkA m s c) R = q at h1 h2 h3 ⊢
    refine ⟨by omega, fun x hx => ?_, ?_⟩
    · rcases List.mem_cons.1 hx with rfl | hx
      · omega
      · exact h2 x hx
    · rcases h3 with h3 | ⟨h3, h4, h5⟩
      · rcases hp.2.2 with h6 | ⟨h6, h7⟩
        · exact Or.inl (by rw [h3, h6])
        · refine Or.inr ?_
          rw [h3, h6]
          exact ⟨List.mem_cons_self .., rfl, h7⟩
      · exact Or.inr ⟨List.mem_cons_of_mem _ h3, h4, by omega⟩
theorem best_spec {n : Nat} {m : Nat → Nat → Int} (hm : ∀ a b, a < n → b < n → numB (m a b) = true) (hn : 1 ≤ n ∧ n ≤ 6) : (bstA n m = (1000000000, []) ∧ ∀ c, Ndp n c → c.length = n → finP m c = false) ∨ (Ndp n (bstA n m).2 ∧ (bstA n m).2.length = n ∧ finP m (bstA n m).2 = true ∧ (bstA n m).1 = costP m (bstA n m).2 ∧ ∀ c, Ndp n c → c.length = n → finP m c = true → (bstA n m).1 ≤ costP m c) := by
  obtain ⟨h1, h2, h3⟩ := pkA_fold (m := m) (prmA n) (1000000000, [])
  rw [show (prmA n).foldl (pkA m) (1000000000, []) = bstA n m from rfl] at h1 h2 h3
  rcases h3 with h3 | ⟨h3, h4, h5⟩
  · refine Or.inl ⟨h3, fun c hc hl => ?_⟩
    have g1 := h2 c (prmA_mem.2 ⟨hc, hl⟩)
    rw [h3] at g1
    rcases (prm_cost hm hn hc hl).2 with g2 | ⟨_, g2, _⟩
    · exact g2.1
    · simp at g1; omega
  · obtain ⟨g1, g2⟩ := prmA_mem.1 h3
    refine Or.inr ⟨g1, g2, ?_, h4, fun c hc hl _ => h2 c (prmA_mem.2 ⟨hc, hl⟩)⟩
    rcases (prm_cost hm hn g1 g2).2 with ⟨_, g3⟩ | ⟨g3, _⟩
    · rw [← h4] at g3
      simp at h5
      omega
    · exact g3
end Go.Proofs.YtjkfighooijblaaGreat

/-
  Assignments, plain: sums over permutations; a best assignment leaves no negative circuit of exchanges. By an AI agent.
-/
namespace Go.Proofs.YtjkfighooijblaaGreat

/-! ### sums -/
theorem smN_congr {f g : Nat → Int} : ∀ {n : Nat}, (∀ i, i < n → f i = g i) → smN f n = smN g n
  | 0, _ => rfl
  | n + 1, h => by unfold smN; rw [smN_congr (fun i hi => h i (by omega)), h n (by omega)]
theorem smN_add (f g : Nat → Int) : ∀ n, smN (fun i => f i + g i) n = smN f n + smN g n
  | 0 => rfl
  | n + 1 => by unfold smN; rw [smN_add f g n]; omega
theorem smN_sub (f g : Nat → Int) : ∀ n, smN (fun i => f i - g i) n = smN f n - smN g n
  | 0 => rfl
  | n + 1 => by unfold smN; rw [smN_sub f g n]; omega
theorem smN_le {f g : Nat → Int} : ∀ {n : Nat}, (∀ i, i < n → f i ≤ g i) → smN f n ≤ smN g n
  | 0, _ => Int.le_refl _
  | n + 1, h => by
    have := smN_le (n := n) (fun i hi => h i (by omega))
    have := h n (by omega)
    unfold smN
    omega
theorem smN_lt {f g : Nat → Int} {x : Nat} : ∀ {n : Nat}, (∀ i, i < n → f i ≤ g i) → x < n → f x < g x → smN f n < smN g n
  | n + 1, h, hx, hl => by
    unfold smN
    by_cases e : x = n
    · subst e
      have := smN_le (n := x) (fun i hi => h i (by omega))
      omega
    · have := smN_lt (n := n) (fun i hi => h i (by omega)) (by omega) hl
      have := h n (by omega)
      omega
theorem smN_zero {f : Nat → Int} : ∀ {n : Nat}, (∀ i, i < n → f i = 0) → smN f n = 0
  | 0, _ => rfl
  | n + 1, h => by unfold smN; rw [smN_zero (fun i hi => h i (by omega)), h n (by omega)]; rfl
theorem smN_point (f : Nat → Int) {x : Nat} : ∀ {n : Nat}, x < n → smN (fun y => if y = x then f y else 0) n = f x
  | n + 1, h => by
    unfold smN
    by_cases e : n = x
    · subst e
      rw [smN_zero (fun i hi => if_neg (by omega)), if_pos rfl, Int.zero_add]
    · rw [smN_point f (show x < n by omega), if_neg e, Int.add_zero]
def hitB (w : Nat → Nat) : Nat → Nat → Bool
  | 0, _ => false
  | t + 1, x => hitB w t x || decide (w t = x)
theorem hitB_t {w : Nat → Nat} {x : Nat} : ∀ {k : Nat}, hitB w k x = true ↔ ∃ t, t < k ∧ w t = x
  | 0 => by simp [hitB]
  | k + 1 => by
    unfold hitB
    rw [Bool.or_eq_true, hitB_t, decide_eq_true_eq]
    constructor
    · rintro (⟨t, h1, h2⟩ | h)
      · exact ⟨t, by omega, h2⟩
      · exact ⟨k, by omega, h⟩
    · rintro ⟨t, h1, h2⟩
      by_cases e : t = k
      · subst e; exact Or.inr h2
      · exact Or.inl ⟨t, by omega, h2⟩
theorem hitB_succ (w : Nat → Nat) (t x : Nat) : hitB w (t + 1) x = (hitB w t x || decide (w t = x)) := rfl
theorem smN_hits {n : Nat} (w : Nat → Nat) (h : Nat → Int) : ∀ {k : Nat}, (∀ t, t < k → w t < n) → (∀ i j, i < j → j < k → w i ≠ w j) → smN (fun x => if hitB w k x = true then h x else 0) n = smN (fun t => h (w t)) k
  | 0, _, _ => smN_zero (fun i _ => rfl)
  | k + 1, h1, h2 => by
    have ih := smN_hits (n := n) w h (k := k) (fun t ht => h1 t (by omega)) (fun i j hij hj => h2 i j hij (by omega))
    have hp := smN_point (n := n) h (h1 k (by omega))
    have : smN (fun x => if hitB w (k + 1) x = true then h x else 0) n = smN (fun x => (if hitB w k x = true then h x else 0) + (if x = w k then h x else 0)) n := smN_congr fun x _ => by
      by_cases e : x = w k
      · have hn : hitB w k x = false := by
          rw [Bool.eq_false_iff]
          intro hh
          obtain ⟨t, g1, g2⟩ := hitB_t.1 hh
          exact h2 t k g1 (by omega) (by rw [g2, e])
        rw [hitB_succ, hn, e]
        simp
      · have hd : decide (w k = x) = false := decide_eq_false (fun h => e h.symm)
        rw [hitB_succ, hd, Bool.or_false, if_neg e, Int.add_zero]
    rw [this, smN_add, ih, hp]
    rfl
theorem hit_all {n : Nat} (a : Nat → Nat) (h1 : ∀ t, t < n → a t < n) (h2 : ∀ i j, i < j → j < n → a i ≠ a j) {x : Nat} (hx : x < n) : hitB a n x = true := by
  cases hh : hitB a n x with
  | true => rfl
  | false =>
    have g1 := smN_hits (n := n) a (fun _ => 1) h1 h2
    have g2 := smN_lt (n := n) (f := fun x => if hitB a n x = true then (1 : Int) else 0) (g := fun _ => 1) (fun i _ => by split <;> omega) hx (by simp [hh])
    rw [g1] at g2
    omega
theorem smN_perm {n : Nat} (a : Nat → Nat) (h : Nat → Int) (h1 : ∀ t, t < n → a t < n) (h2 : ∀ i j, i < j → j < n → a i ≠ a j) : smN (fun t => h (a t)) n = smN h n := by
  rw [← smN_hits (n := n) a h h1 h2]
  exact smN_congr fun x hx => by rw [hit_all a h1 h2 hx, if_pos rfl]
theorem smN_tele (b : Nat → Int) : ∀ s, smN (fun t => b (t + 1)) s = smN b s + b s - b 0
  | 0 => by simp [smN]
  | s + 1 => by unfold smN; rw [smN_tele b s]; omega

/-! ### exchanges -/
def stA (m : Nat → Nat → Int) (A : List Int) : Nat → Nat → Int := fun i j => prodZ (m j (vx A i)) (-(m i (vx A i)))
section
variable {n : Nat} {m : Nat → Nat → Int} {A : List Int}
theorem Ndp.at {l : List Int} (h : Ndp n l) (hl : l.length = n) : (∀ t, t < n → vx l t < n) ∧ ∀ i j, i < j → j < n → vx l i ≠ vx l j := ⟨fun t ht => (vt_at h.vt (by omega)).2, fun i j h1 h2 => h.nd i j h1 (by omega)⟩
/-- a list by its numbers. -/
theorem vx_tab {g : Nat → Nat} {t : Nat} (h : t < n) : vx (tab n fun x => ((g x : Nat) : Int)) t = g t := by
  unfold vx
  rw [tab_getD h]
  rfl
theorem ndp_tab {g : Nat → Nat} (h1 : ∀ t, t < n → g t < n) (h2 : ∀ i j, i < j → j < n → g i ≠ g j) : Ndp n (tab n fun x => ((g x : Nat) : Int)) :=
  ⟨allB_t.2 fun t ht => by
    rw [tab_length] at ht
    rw [tab_getD ht]
    have := h1 t ht
    omega, fun i j hij hj => by
    rw [tab_length] at hj
    rw [vx_tab (by omega), vx_tab hj]
    exact h2 i j hij hj⟩
theorem stA_ne {i j : Nat} (h : stA m A i j ≠ 1000000000) : m j (vx A i) ≠ 1000000000 ∧ stA m A i j = m j (vx A i) - m i (vx A i) := by
  unfold stA at h ⊢
  obtain ⟨h1, h2, h3⟩ := prodZ_ne h
  exact ⟨h1, by rw [h3]; omega⟩
theorem no_neg (hm : ∀ a b, a < n → b < n → numB (m a b) = true) (hn : 1 ≤ n ∧ n ≤ 6) (hA : Ndp n A) (hl : A.length = n) (hf : finP m A = true) (opt : ∀ c, Ndp n c → c.length = n → finP m c = true → costP m A ≤ costP m c) :
    ∀ (s : Nat) {x : Nat} {c : Int}, Wk n (stA m A) x x c s → 0 ≤ c := by
  intro s
  induction s using Nat.strongRecOn with
  | ind s ih =>
    intro x c h
    obtain ⟨v, P, h1, h2, h3, h4, h5, h6⟩ := h.split
    by_cases hrep : ∃ a b, a < b ∧ b ≤ s ∧ v a = v b ∧ b - a < s
    · obtain ⟨a, b, g1, g2, g3, g4⟩ := hrep
      have w1 := h6 0 a (Nat.zero_le _) (by omega)
      have w2 := h6 a b (by omega) (by omega)
      have w3 := h6 b s g2 (Nat.le_refl _)
      rw [← g3] at w2 w3
      have q2 := ih _ g4 w2
      have w5 := w1.append w3
      rw [h1, h2] at w5
      have q5 := ih _ (by omega) w5
      rw [h3, h4] at q5
      omega
    · by_cases hs0 : s = 0
      · subst hs0
        rw [h3] at h4
        omega
      · have hdis : ∀ a b, a < b → b < s → v a ≠ v b := fun a b g1 g2 e => hrep ⟨a, b, g1, by omega, e, by omega⟩
        have hvs : v s = v 0 := by rw [h1, h2]
        obtain ⟨a1, a2⟩ := hA.at hl
        have hfin := fun i (hi : i < n) => fnB_t.1 hf i (by omega)
        have hnum := fun i (hi : i < n) => numB_t (hm i (vx A i) hi (a1 i hi))
        have hstep : ∀ t, t < s → m (v (t + 1)) (vx A (v t)) ≠ 1000000000 ∧ P (t + 1) - P t = m (v (t + 1)) (vx A (v t)) - m (v t) (vx A (v t)) := fun t ht => by
          have w := h6 t (t + 1) (by omega) (by omega)
          obtain ⟨_, _, e1, e2⟩ := (w.cast rfl (show t + 1 - t = 1 by omega)).inv1
          have hvt := h5 t (by omega)
          have := hnum (v t) hvt
          have := stA_ne e1
          exact ⟨this.1, by rw [e2]; exact this.2⟩
        -- the exchanged assignment
        let w : Nat → Nat := fun t => v (t + 1)
        have hwn : ∀ t, t < s → w t < n := fun t ht => h5 (t + 1) (by omega)
        have hwd : ∀ i j, i < j → j < s → w i ≠ w j := fun i j g1 g2 e => by
          by_cases e2 : j + 1 = s
          · have e3 : v (i + 1) = v 0 := by
              have : v (i + 1) = v (j + 1) := e
              rw [this, e2, hvs]
            exact hdis 0 (i + 1) (by omega) (by omega) e3.symm
          · exact hdis (i + 1) (j + 1) (by omega) (by omega) e
        let g : Nat → Nat := fun y => if fstN (fun t => decide (w t = y)) s 0 < s then vx A (v (fstN (fun t => decide (w t = y)) s 0)) else vx A y
        have hg1 : ∀ t, t < s → g (w t) = vx A (v t) := fun t ht => by
          have e : fstN (fun q => decide (w q = w t)) s 0 = t := fst_eq ht (by simp) (fun i hi => by simpa using hwd i t hi ht)
          simp only [g, e, if_pos ht]
        have hg2 : ∀ y, hitB w s y = false → g y = vx A y := fun y hy => by
          have : ¬ fstN (fun q => decide (w q = y)) s 0 < s := fun hlt => by
            have hsp : ∀ (p : Nat → Bool) (f k : Nat), fstN p f k < k + f → p (fstN p f k) = true := by
              intro p f
              induction f with
              | zero => intro k hk; unfold fstN at hk; omega
              | succ f ihf =>
                intro k hk
                unfold fstN at hk ⊢
                split
                · rename_i hp; exact hp
                · rename_i hp
                  rw [if_neg hp] at hk
                  exact ihf (k + 1) (by omega)
            have := hsp (fun q => decide (w q = y)) s 0 (by omega)
            have h9 : hitB w s y = true := hitB_t.2 ⟨_, hlt, by simpa using this⟩
            rw [hy] at h9; cases h9
          simp only [g, if_neg this]
        have hgn : ∀ y, y < n → g y < n := fun y hy => by
          cases hh : hitB w s y with
          | false => rw [hg2 y hh]; exact a1 y hy
          | true =>
            obtain ⟨t, g1, rfl⟩ := hitB_t.1 hh
            rw [hg1 t g1]
            exact a1 _ (h5 t (by omega))
        have ainj : ∀ i j, i < n → j < n → vx A i = vx A j → i = j := fun i j hi hj e => by
          rcases Nat.lt_trichotomy i j with q | q | q
          · exact absurd e (a2 i j q hj)
          · exact q
          · exact absurd e.symm (a2 j i q hi)
        have vhit : ∀ t, t < s → hitB w s (v t) = true := fun t ht => by
          cases t with
          | zero => exact hitB_t.2 ⟨s - 1, by omega, by show v (s - 1 + 1) = v 0; rw [show s - 1 + 1 = s by omega, hvs]⟩
          | succ t => exact hitB_t.2 ⟨t, by omega, rfl⟩
        have hgi : ∀ i j, i < n → j < n → g i = g j → i = j := fun i j hi hj e => by
          cases hhi : hitB w s i with
          | false =>
            cases hhj : hitB w s j with
            | false => rw [hg2 i hhi, hg2 j hhj] at e; exact ainj i j hi hj e
            | true =>
              obtain ⟨t, g1, rfl⟩ := hitB_t.1 hhj
              rw [hg2 i hhi, hg1 t g1] at e
              have := ainj i (v t) hi (h5 t (by omega)) e
              rw [this, vhit t g1] at hhi
              cases hhi
          | true =>
            obtain ⟨q, g0, rfl⟩ := hitB_t.1 hhi
            cases hhj : hitB w s j with
            | false =>
              rw [hg1 q g0, hg2 j hhj] at e
              have := ainj (v q) j (h5 q (by omega)) hj e
              rw [← this, vhit q g0] at hhj
              cases hhj
            | true =>
              obtain ⟨t, g1, rfl⟩ := hitB_t.1 hhj
              rw [hg1 q g0, hg1 t g1] at e
              have e2 := ainj (v q) (v t) (h5 q (by omega)) (h5 t (by omega)) e
              have : q = t := by
                rcases Nat.lt_trichotomy q t with z | z | z
                · exact absurd e2 (hdis q t z g1)
                · exact z
                · exact absurd e2.symm (hdis t q z g0)
              rw [this]
        have hG := ndp_tab hgn (fun i j h1 h2 e => absurd (hgi i j (by omega) h2 e) (by omega))
        have hGl := tab_length n (fun x => ((g x : Nat) : Int))
        have hGv : ∀ i, i < n → vx (tab n fun x => ((g x : Nat) : Int)) i = g i := fun i hi => vx_tab hi
        have hGf : finP m (tab n fun x => ((g x : Nat) : Int)) = true := fnB_t.2 fun i hi => by
          rw [hGl] at hi
          rw [hGv i hi]
          cases hh : hitB w s i with
          | false => rw [hg2 i hh]; exact hfin i hi
          | true =>
            obtain ⟨t, g1, rfl⟩ := hitB_t.1 hh
            rw [hg1 t g1]
            exact (hstep t g1).1
        have hopt := opt _ hG hGl hGf
        obtain ⟨_, c1⟩ := prm_cost hm hn hA hl
        obtain ⟨_, c2⟩ := prm_cost hm hn hG hGl
        rcases c1 with ⟨c1, _⟩ | ⟨_, _, c1, _⟩
        · rw [hf] at c1; cases c1
        rcases c2 with ⟨c2, _⟩ | ⟨_, _, c2, _⟩
        · rw [hGf] at c2; cases c2
        rw [c1, c2] at hopt
        have e1 : smN (fun i => m i (vx (tab n fun x => ((g x : Nat) : Int)) i)) n - smN (fun i => m i (vx A i)) n = smN (fun t => m (v (t + 1)) (vx A (v t)) - m (v (t + 1)) (vx A (v (t + 1)))) s := by
          rw [← smN_sub, show (fun t => m (v (t + 1)) (vx A (v t)) - m (v (t + 1)) (vx A (v (t + 1)))) = (fun t => (fun y => m y (vx A (v t)) - m y (vx A y)) (w t)) from rfl]
          have e2 : smN (fun t => (fun y => m y (vx A (v t)) - m y (vx A y)) (w t)) s = smN (fun t => (fun y => m y (g y) - m y (vx A y)) (w t)) s := smN_congr fun t ht => by
            simp only [hg1 t ht]
          rw [e2, ← smN_hits (n := n) w (fun y => m y (g y) - m y (vx A y)) hwn hwd]
          exact smN_congr fun y hy => by
            rw [hGv y hy]
            cases hh : hitB w s y with
            | true => rw [if_pos rfl]
            | false => rw [if_neg (by simp), hg2 y hh]; omega
        have e3 : c = smN (fun t => P (t + 1) - P t) s := by
          rw [smN_sub, smN_tele, h3, h4]
          omega
        have e4 : smN (fun t => P (t + 1) - P t) s = smN (fun t => m (v (t + 1)) (vx A (v t)) - m (v t) (vx A (v t))) s := smN_congr fun t ht => (hstep t ht).2
        have e34 := e3.trans e4
        rw [smN_sub] at e1 e34
        have e5 := smN_tele (fun t => m (v t) (vx A (v t))) s
        simp only [hvs] at e5
        omega
end
end Go.Proofs.YtjkfighooijblaaGreat

/-
  Prices, plain: the least lengths of exchanges, in place (the program) and by matrices (the reference), are the same; they are prices and prove the best. By an AI agent.
-/
namespace Go.Proofs.YtjkfighooijblaaGreat

def bd2 (n : Nat) (F : Nat → Nat → Int) : Prop := ∀ a b, a < n → b < n → F a b = 1000000000 ∨ (-2000000 ≤ F a b ∧ F a b ≤ 2000000)
section
variable {n : Nat} {F : Nat → Nat → Int}
theorem Wk.bd2 (hF : bd2 n F) {i k s : Nat} {c : Int} (h : Wk n F i k c s) : -(2000000 * (s : Int)) ≤ c ∧ c ≤ 2000000 * (s : Int) := by
  induction h with
  | nil _ => simp
  | snoc h hk hne ih =>
    have := hF _ _ h.last hk
    rw [Int.natCast_add, Int.mul_add]
    omega
theorem bf_bd2 (hF : bd2 n F) {s i k : Nat} (hi : i < n) (hk : k < n) : bf n F s i k = 1000000000 ∨ (-(2000000 * (s : Int)) ≤ bf n F s i k ∧ bf n F s i k ≤ 2000000 * (s : Int)) := by
  by_cases h : bf n F s i k = 1000000000
  · exact Or.inl h
  · obtain ⟨t, h1, h2⟩ := bf_sound s hi hk h
    have := h2.bd2 hF
    exact Or.inr (by omega)
theorem bf_le2 (hF : bd2 n F) {i k s : Nat} {c : Int} (h : Wk n F i k c s) (hs : s < 400) : bf n F s i k ≠ 1000000000 ∧ bf n F s i k ≤ c := by
  induction h with
  | nil _ => unfold bf; rw [if_pos rfl]; omega
  | snoc hw hk hne ih =>
    rename_i j k s c
    obtain ⟨h1, h2⟩ := ih (by omega)
    have h3 := mnF_le (bf n F s i k) (fun j => prodZ (bf n F s i j) (F j k)) hw.last
    rw [prodZ_fin h1 hne] at h3
    have h4 := bf_bd2 hF (s := s) hw.first hw.last
    have h5 := hF _ _ hw.last hk
    rw [bf]
    omega
/-- the least cost of walks to j. -/
def LeastW (n : Nat) (F : Nat → Nat → Int) (j : Nat) (U : Int) : Prop := (∃ i s, Wk n F i j U s) ∧ ∀ i c s, Wk n F i j c s → U ≤ c
theorem LeastW.uniq {j : Nat} {U V : Int} (h : LeastW n F j U) (g : LeastW n F j V) : U = V := by
  obtain ⟨⟨i, s, h1⟩, h2⟩ := h
  obtain ⟨⟨a, t, g1⟩, g2⟩ := g
  have := h2 _ _ _ g1
  have := g2 _ _ _ h1
  omega
theorem LeastW.bd (hF : bd2 n F) (hn : n ≤ 6) (hc : ∀ x c s, Wk n F x x c s → 0 ≤ c) {j : Nat} {U : Int} (hj : j < n) (h : LeastW n F j U) : -12000000 ≤ U ∧ U ≤ 0 := by
  obtain ⟨⟨i, s, h1⟩, h2⟩ := h
  obtain ⟨c', s', g1, g2, g3⟩ := Wk.short hc _ h1
  have g4 := g1.bd2 hF
  have g5 := h2 _ _ _ (Wk.nil hj)
  omega
/-! the reference's -/
def uR (n : Nat) (F : Nat → Nat → Int) (j : Nat) : Int := mnF 0 (fun i => bf n F n i j) n
theorem uR_least (hF : bd2 n F) (hn : n ≤ 6) (hc : ∀ x c s, Wk n F x x c s → 0 ≤ c) {j : Nat} (hj : j < n) : LeastW n F j (uR n F j) := by
  unfold uR
  refine ⟨?_, fun i c s h => ?_⟩
  · have h0 := mnF_start 0 (fun i => bf n F n i j) n
    rcases mnF_at 0 (fun i => bf n F n i j) n with e | ⟨i, hi, e⟩
    · rw [e]; exact ⟨j, 0, Wk.nil hj⟩
    · rw [e] at h0 ⊢
      obtain ⟨t, _, h1⟩ := bf_sound n hi hj (show bf n F n i j ≠ 1000000000 by omega)
      exact ⟨i, t, h1⟩
  · obtain ⟨c', s', g1, g2, g3⟩ := Wk.short hc _ h
    have g4 := (bf_le2 hF g1 (by omega)).2
    have g5 := bf_mono (n := n) (m := F) (show s' ≤ n by omega) i j
    have g6 : mnF 0 (fun i => bf n F n i j) n ≤ bf n F n i j := mnF_le 0 (fun i => bf n F n i j) h.first
    omega
/-! the program's, in place -/
def relx (F : Nat → Nat → Int) (G : Nat → Int) (i j : Nat) : Nat → Int := fun b => if b = j then leastZ (G j) (prodZ (G i) (F i j)) else G b
def rxJ (F : Nat → Nat → Int) (i : Nat) (G : Nat → Int) : Nat → Nat → Int
  | 0 => G
  | j + 1 => relx F (rxJ F i G j) i j
def rxI (n : Nat) (F : Nat → Nat → Int) (G : Nat → Int) : Nat → Nat → Int
  | 0 => G
  | i + 1 => rxJ F i (rxI n F G i) n
def rxR (n : Nat) (F : Nat → Nat → Int) : Nat → Nat → Int
  | 0 => fun _ => 0
  | r + 1 => rxI n F (rxR n F r) n
theorem relx_le (F : Nat → Nat → Int) (G : Nat → Int) (i j b : Nat) : relx F G i j b ≤ G b := by
  unfold relx leastZ
  split
  · rename_i h; subst h; split <;> omega
  · exact Int.le_refl _
theorem rxJ_le (F : Nat → Nat → Int) (i : Nat) (G : Nat → Int) (b : Nat) {s t : Nat} (h : s ≤ t) : rxJ F i G t b ≤ rxJ F i G s b := by
  induction t with
  | zero => rw [show s = 0 by omega]; exact Int.le_refl _
  | succ t ih =>
    by_cases e : s = t + 1
    · rw [e]; exact Int.le_refl _
    · exact Int.le_trans (relx_le _ _ _ _ _) (ih (by omega))
theorem rxI_le (F : Nat → Nat → Int) (G : Nat → Int) (b : Nat) {s t : Nat} (h : s ≤ t) : rxI n F G t b ≤ rxI n F G s b := by
  induction t with
  | zero => rw [show s = 0 by omega]; exact Int.le_refl _
  | succ t ih =>
    by_cases e : s = t + 1
    · rw [e]; exact Int.le_refl _
    · exact Int.le_trans (rxJ_le F t _ b (Nat.zero_le n)) (ih (by omega))
/-- each is the cost of a walk, and at most 0. -/
def SndG (n : Nat) (F : Nat → Nat → Int) (G : Nat → Int) : Prop := ∀ j, j < n → G j ≤ 0 ∧ ∃ i s, Wk n F i j (G j) s
theorem relx_snd {G : Nat → Int} {i j : Nat} (hi : i < n) (hj : j < n) (h : SndG n F G) : SndG n F (relx F G i j) := by
  intro b hb
  refine ⟨Int.le_trans (relx_le _ _ _ _ _) (h b hb).1, ?_⟩
  unfold relx
  split
  · rename_i e
    subst e
    unfold leastZ
    split
    · exact (h b hb).2
    · rename_i hlt
      have h0 := (h b hb).1
      have hne : prodZ (G i) (F i b) ≠ 1000000000 := by omega
      obtain ⟨h1, h2, h3⟩ := prodZ_ne hne
      obtain ⟨a, s, hw⟩ := (h i hi).2
      rw [h3]
      exact ⟨a, s + 1, Wk.snoc hw hb h2⟩
  · exact (h b hb).2
theorem rxJ_snd {G : Nat → Int} {i : Nat} (hi : i < n) (h : SndG n F G) : ∀ {j}, j ≤ n → SndG n F (rxJ F i G j)
  | 0, _ => h
  | j + 1, hj => relx_snd hi (by omega) (rxJ_snd hi h (by omega))
theorem rxI_snd {G : Nat → Int} (h : SndG n F G) : ∀ {i}, i ≤ n → SndG n F (rxI n F G i)
  | 0, _ => h
  | i + 1, hi => rxJ_snd (by omega) (rxI_snd h (by omega)) (Nat.le_refl _)
theorem rxR_snd : ∀ r, SndG n F (rxR n F r)
  | 0 => fun j hj => ⟨Int.le_refl _, j, 0, Wk.nil hj⟩
  | r + 1 => rxI_snd (rxR_snd r) (Nat.le_refl _)
theorem snd_bd (hF : bd2 n F) (hn : n ≤ 6) (hc : ∀ x c s, Wk n F x x c s → 0 ≤ c) {G : Nat → Int} (h : SndG n F G) {j : Nat} (hj : j < n) : -12000000 ≤ G j ∧ G j ≤ 0 := by
  obtain ⟨h0, i, s, h1⟩ := h j hj
  obtain ⟨c', s', g1, g2, g3⟩ := Wk.short hc _ h1
  have g4 := g1.bd2 hF
  omega
theorem rxR_all {i j s : Nat} {c : Int} (h : Wk n F i j c s) : ∀ {r : Nat}, s ≤ r → rxR n F r j ≤ c := by
  induction h with
  | nil hi => exact fun {r} _ => (rxR_snd r _ hi).1
  | snoc hw hk hne ih =>
    rename_i p q s c
    intro r hr
    obtain ⟨r, rfl⟩ : ∃ r', r = r' + 1 := ⟨r - 1, by omega⟩
    have h1 := ih (r := r) (by omega)
    have hp := hw.last
    have h2 : rxR n F (r + 1) q ≤ rxI n F (rxR n F r) (p + 1) q := rxI_le F _ q (by omega)
    have h3 : rxI n F (rxR n F r) (p + 1) q ≤ rxJ F p (rxI n F (rxR n F r) p) (q + 1) q := rxJ_le F p _ q (by omega)
    have h4 : rxJ F p (rxI n F (rxR n F r) p) q p ≤ rxR n F r p := Int.le_trans (rxJ_le F p _ p (Nat.zero_le q)) (rxI_le F _ p (Nat.zero_le p))
    have h5 : rxJ F p (rxI n F (rxR n F r) p) (q + 1) q = leastZ (rxJ F p (rxI n F (rxR n F r) p) q q) (prodZ (rxJ F p (rxI n F (rxR n F r) p) q p) (F p q)) := by
      show relx F (rxJ F p (rxI n F (rxR n F r) p) q) p q q = _
      unfold relx
      rw [if_pos rfl]
    have h6 := (rxJ_snd (F := F) (j := q) hp (rxI_snd (rxR_snd r) (Nat.le_of_lt hp)) (by omega) p hp).1
    rw [prodZ_fin (by omega) hne] at h5
    have h7 : leastZ (rxJ F p (rxI n F (rxR n F r) p) q q) (rxJ F p (rxI n F (rxR n F r) p) q p + F p q) ≤ rxJ F p (rxI n F (rxR n F r) p) q p + F p q := by unfold leastZ; split <;> omega
    omega
theorem uI_least (hc : ∀ x c s, Wk n F x x c s → 0 ≤ c) {j : Nat} (hj : j < n) : LeastW n F j (rxR n F n j) := by
  refine ⟨(rxR_snd n j hj).2, fun i c s h => ?_⟩
  obtain ⟨c', s', g1, g2, g3⟩ := Wk.short hc _ h
  have := rxR_all g1 (r := n) (by omega)
  omega
theorem uI_uR (hF : bd2 n F) (hn : n ≤ 6) (hc : ∀ x c s, Wk n F x x c s → 0 ≤ c) {j : Nat} (hj : j < n) : rxR n F n j = uR n F j := (uI_least hc hj).uniq (uR_least hF hn hc hj)
end

/-! ### prices -/
section
variable {n : Nat} {m : Nat → Nat → Int} {A : List Int}
/-- A best assignment. -/
structure BstA (n : Nat) (m : Nat → Nat → Int) (A : List Int) : Prop where
  num : ∀ a b, a < n → b < n → numB (m a b) = true
  n6 : 1 ≤ n ∧ n ≤ 6
  nd : Ndp n A
  len : A.length = n
  fin : finP m A = true
  opt : ∀ c, Ndp n c → c.length = n → finP m c = true → costP m A ≤ costP m c
theorem BstA.at (h : BstA n m A) {i : Nat} (hi : i < n) : vx A i < n ∧ m i (vx A i) ≠ 1000000000 ∧ -1000000 ≤ m i (vx A i) ∧ m i (vx A i) ≤ 1000000 := by
  have h1 := (h.nd.at h.len).1 i hi
  have h2 := fnB_t.1 h.fin i (by rw [h.len]; exact hi)
  have h3 := numB_t (h.num i (vx A i) hi h1)
  exact ⟨h1, h2, by omega, by omega⟩
theorem BstA.bd (h : BstA n m A) : bd2 n (stA m A) := fun a b ha hb => by
  have h1 := h.at ha
  have h2 := numB_t (h.num b (vx A a) hb h1.1)
  unfold stA
  by_cases e : m b (vx A a) = 1000000000
  · exact Or.inl (prodZ_inf (Or.inl e))
  · rw [prodZ_fin e (by omega)]
    exact Or.inr (by omega)
theorem BstA.cyc (h : BstA n m A) : ∀ x c s, Wk n (stA m A) x x c s → 0 ≤ c := fun _ _ s hw => no_neg h.num h.n6 h.nd h.len h.fin h.opt s hw
def prU (n : Nat) (m : Nat → Nat → Int) (A : List Int) : Nat → Int := uR n (stA m A)
def invA (n : Nat) (A : List Int) (k : Nat) : Nat := fstN (fun i => decide (vx A i = k)) n 0
def prV (n : Nat) (m : Nat → Nat → Int) (A : List Int) (k : Nat) : Int := m (invA n A k) k - prU n m A (invA n A k)
theorem BstA.inv (h : BstA n m A) {i : Nat} (hi : i < n) : invA n A (vx A i) = i := fst_eq hi (by simp) (fun t ht => by simpa using (h.nd.at h.len).2 t i ht hi)
theorem BstA.hit (h : BstA n m A) {k : Nat} (hk : k < n) : ∃ i, i < n ∧ vx A i = k := hitB_t.1 (hit_all (vx A) (h.nd.at h.len).1 (h.nd.at h.len).2 hk)
theorem BstA.U (h : BstA n m A) {i : Nat} (hi : i < n) : -12000000 ≤ prU n m A i ∧ prU n m A i ≤ 0 := (uR_least h.bd h.n6.2 h.cyc hi).bd h.bd h.n6.2 h.cyc hi
theorem BstA.V (h : BstA n m A) {i : Nat} (hi : i < n) : prV n m A (vx A i) = m i (vx A i) - prU n m A i := by unfold prV; rw [h.inv hi]
theorem BstA.Vb (h : BstA n m A) {k : Nat} (hk : k < n) : -1000000 ≤ prV n m A k ∧ prV n m A k ≤ 13000000 := by
  obtain ⟨i, hi, rfl⟩ := h.hit hk
  rw [h.V hi]
  have := h.at hi
  have := h.U hi
  omega
/-- they are prices. -/
theorem BstA.prices (h : BstA n m A) {i k : Nat} (hi : i < n) (hk : k < n) : prU n m A i + prV n m A k ≤ m i k := by
  obtain ⟨p, hp, rfl⟩ := h.hit hk
  have h1 := h.V hp
  have h2 := h.U hi
  have h3 := h.Vb hk
  have h4 := numB_t (h.num i (vx A p) hi hk)
  by_cases e : m i (vx A p) = 1000000000
  · omega
  · have h5 := h.at hp
    have e2 : stA m A p i = m i (vx A p) - m p (vx A p) := by unfold stA; rw [prodZ_fin e (by omega)]; omega
    obtain ⟨⟨a, s, hw⟩, _⟩ := uR_least h.bd h.n6.2 h.cyc hp
    have hw2 := Wk.snoc hw hi (show stA m A p i ≠ 1000000000 by omega)
    have h6 := (uR_least h.bd h.n6.2 h.cyc hi).2 _ _ _ hw2
    rw [e2] at h6
    unfold prU at h1 ⊢
    omega
/-- together they make up the best cost. -/
theorem BstA.sum (h : BstA n m A) : smN (prU n m A) n + smN (prV n m A) n = costP m A := by
  obtain ⟨_, c1⟩ := prm_cost h.num h.n6 h.nd h.len
  rcases c1 with ⟨c1, _⟩ | ⟨_, _, c1, _⟩
  · rw [h.fin] at c1; cases c1
  rw [c1, ← smN_perm (n := n) (vx A) (prV n m A) (h.nd.at h.len).1 (h.nd.at h.len).2, ← smN_add]
  exact smN_congr fun i hi => by rw [h.V hi]; omega
end
/-- prices of any kind are no more than what an assignment costs. -/
theorem weak_dual {n : Nat} {m : Nat → Nat → Int} (hm : ∀ a b, a < n → b < n → numB (m a b) = true) (hn : 1 ≤ n ∧ n ≤ 6) {u v : Nat → Int} (h : ∀ i k, i < n → k < n → u i + v k ≤ m i k) {c : List Int} (hc : Ndp n c) (hl : c.length = n) (hf : finP m c = true) : smN u n + smN v n ≤ costP m c := by
  obtain ⟨_, c1⟩ := prm_cost hm hn hc hl
  rcases c1 with ⟨c1, _⟩ | ⟨_, _, c1, _⟩
  · rw [hf] at c1; cases c1
  rw [c1, ← smN_perm (n := n) (vx c) v (hc.at hl).1 (hc.at hl).2, ← smN_add]
  exact smN_le fun i hi => h i (vx c i) hi ((hc.at hl).1 i hi)
end Go.Proofs.YtjkfighooijblaaGreat
