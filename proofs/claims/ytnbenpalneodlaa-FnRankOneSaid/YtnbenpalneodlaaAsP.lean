/-
  Assignments, plain: permutations in their order, their costs, the first best one; the program's way and the reference's tell the same. By an AI agent.
-/
import Derived.Test.YtnbenpalneodlaaWyG
namespace Go.Proofs.Ytnbenpalneodlaa

theorem vxA_lt {l : List Int} {t : Nat} (k : Int) (h : t < l.length) : vx (l ++ [k]) t = vx l t := by
  unfold vx
  rw [List.getD_eq_getElem?_getD, List.getElem?_append_left h, ← List.getD_eq_getElem?_getD]
theorem vxA_eq (l : List Int) (k : Nat) : vx (l ++ [(k : Int)]) l.length = k := by
  unfold vx
  simp [List.getD_eq_getElem?_getD]
/-- Numbers below n, none twice. -/
structure Ndp (n : Nat) (l : List Int) : Prop where
  vt : vtB n l = true
  nd : ∀ i j, i < j → j < l.length → vx l i ≠ vx l j
theorem Ndp.nil (n : Nat) : Ndp n [] := ⟨rfl, fun i j _ h => by simp at h⟩
theorem Ndp.len {n : Nat} {l : List Int} (h : Ndp n l) : l.length ≤ n := by
  rcases Nat.lt_or_ge n l.length with hl | hl
  · obtain ⟨a, b, h1, h2, h3⟩ := pigeon n (vx l) (fun t ht => (vt_at h.vt (by omega)).2)
    exact absurd h3 (h.nd a b h1 (by omega))
  · exact hl
theorem mem_vxA {n : Nat} {l : List Int} (hv : vtB n l = true) {k : Nat} : (k : Int) ∈ l ↔ ∃ t, t < l.length ∧ vx l t = k := by
  constructor
  · intro hm
    obtain ⟨t, ht, e⟩ := List.getElem_of_mem hm
    have h1 := (vt_at hv ht).1
    rw [List.getD_eq_getElem?_getD, List.getElem?_eq_getElem ht] at h1
    simp only [Option.getD_some] at h1
    exact ⟨t, ht, by omega⟩
  · rintro ⟨t, ht, e⟩
    have h1 := (vt_at hv ht).1
    rw [← e, ← h1, List.getD_eq_getElem?_getD, List.getElem?_eq_getElem ht]
    exact List.getElem_mem ht
theorem Ndp.ext {n : Nat} {l : List Int} (h : Ndp n l) {k : Nat} (hk : k < n) (h2 : (k : Int) ∉ l) : Ndp n (l ++ [(k : Int)]) := by
  refine ⟨allB_t.2 fun t ht => ?_, fun i j hij hj => ?_⟩
  · rw [List.length_append, List.length_singleton] at ht
    by_cases e : t = l.length
    · subst e
      simp [List.getD_eq_getElem?_getD]
      omega
    · have := allB_t.1 h.vt t (by omega)
      rwa [List.getD_eq_getElem?_getD, List.getElem?_append_left (by omega), ← List.getD_eq_getElem?_getD]
  · rw [List.length_append, List.length_singleton] at hj
    rw [vxA_lt _ (show i < l.length by omega)]
    by_cases e : j = l.length
    · subst e
      rw [vxA_eq]
      exact fun h3 => h2 ((mem_vxA h.vt).2 ⟨i, hij, h3⟩)
    · rw [vxA_lt _ (by omega)]
      exact h.nd i j hij (by omega)

/-! ### permutations in their order -/
def prm (n : Nat) : Nat → List Int → List (List Int)
  | 0, l => if l.length = n then [l] else []
  | f + 1, l => if l.length = n then [l] else (List.range n).flatMap fun k : Nat => if l.contains (k : Int) = true then [] else prm n f (l ++ [(k : Int)])
def prmT (n f : Nat) (l : List Int) (j : Nat) : List (List Int) := (List.range j).flatMap fun k : Nat => if l.contains (k : Int) = true then [] else prm n f (l ++ [(k : Int)])
theorem prmT_succ (n f : Nat) (l : List Int) (j : Nat) : prmT n f l (j + 1) = prmT n f l j ++ (if l.contains (j : Int) = true then [] else prm n f (l ++ [(j : Int)])) := by
  unfold prmT
  rw [List.range_succ, List.flatMap_append]
  simp
theorem prm_full {n f : Nat} {l : List Int} (h : l.length = n) : prm n f l = [l] := by
  cases f <;> (unfold prm; rw [if_pos h])
theorem prm_step {n f : Nat} {l : List Int} (h : l.length ≠ n) (hf : n ≤ l.length + f) (hl : l.length ≤ n) : prm n f l = prmT n (f - 1) l n := by
  cases f with
  | zero => omega
  | succ f => unfold prm; rw [if_neg h]; rfl
/-- what is in them: begins with the list, of length n, none twice. -/
theorem prm_mem {n : Nat} : ∀ (f : Nat) {l c : List Int}, Ndp n l → n ≤ l.length + f → (c ∈ prm n f l ↔ Ndp n c ∧ c.length = n ∧ ∃ r, c = l ++ r)
  | f, l, c, h, hf => by
    by_cases hl : l.length = n
    · rw [prm_full hl]
      constructor
      · intro hc
        obtain rfl : c = l := by simpa using hc
        exact ⟨h, hl, [], by simp⟩
      · rintro ⟨h1, h2, r, rfl⟩
        rw [List.length_append] at h2
        have : r = [] := List.length_eq_zero_iff.1 (by omega)
        rw [this]
        simp
    · cases f with
      | zero => have := h.len; omega
      | succ f =>
        rw [prm_step hl hf h.len]
        unfold prmT
        rw [List.mem_flatMap]
        constructor
        · rintro ⟨k, hk, hc⟩
          rw [List.mem_range] at hk
          split at hc
          · cases hc
          · rename_i hnc
            have hnm : (k : Int) ∉ l := by simpa using hnc
            have hx := h.ext hk hnm
            obtain ⟨g1, g2, r, rfl⟩ := (prm_mem f hx (by rw [List.length_append, List.length_singleton]; omega)).1 hc
            exact ⟨g1, g2, (k : Int) :: r, by simp⟩
        · rintro ⟨g1, g2, r, rfl⟩
          cases r with
          | nil => rw [List.append_nil] at g2; exact absurd g2 hl
          | cons x r =>
            have hv := vt_at g1.vt (t := l.length) (by simp)
            have hx0 : (l ++ x :: r).getD l.length 0 = x := by simp [List.getD_eq_getElem?_getD]
            rw [hx0] at hv
            generalize vx (l ++ x :: r) l.length = k at hv
            obtain ⟨rfl, hk⟩ := hv
            have hnm : (k : Int) ∉ l := by
              intro hm
              obtain ⟨t, ht, e⟩ := (mem_vxA h.vt).1 hm
              refine g1.nd t l.length ht (by simp) ?_
              have e1 : vx (l ++ (k : Int) :: r) t = vx l t := by
                unfold vx
                rw [List.getD_eq_getElem?_getD, List.getElem?_append_left ht, ← List.getD_eq_getElem?_getD]
              have e2 : vx (l ++ (k : Int) :: r) l.length = k := by
                unfold vx
                simp [List.getD_eq_getElem?_getD]
              rw [e1, e2, e]
            refine ⟨k, List.mem_range.2 hk, ?_⟩
            rw [if_neg (by simpa using hnm)]
            exact (prm_mem f (h.ext hk hnm) (by rw [List.length_append, List.length_singleton]; omega)).2 ⟨g1, g2, r, by simp⟩
def prmA (n : Nat) : List (List Int) := prm n n []
theorem prmA_mem {n : Nat} {c : List Int} : c ∈ prmA n ↔ Ndp n c ∧ c.length = n := by
  unfold prmA
  rw [prm_mem n (Ndp.nil n) (by simp)]
  exact ⟨fun h => ⟨h.1, h.2.1⟩, fun h => ⟨h.1, h.2, c, rfl⟩⟩

/-! ### costs -/
def csF (m : Nat → Nat → Int) (l : List Int) : Nat → Int
  | 0 => 0
  | t + 1 => prodZ (csF m l t) (m t (vx l t))
def fnB (m : Nat → Nat → Int) (l : List Int) : Nat → Bool
  | 0 => true
  | t + 1 => fnB m l t && !decide (m t (vx l t) = 1000000000)
def smN (f : Nat → Int) : Nat → Int
  | 0 => 0
  | t + 1 => smN f t + f t
theorem fnB_t {m : Nat → Nat → Int} {l : List Int} : ∀ {t : Nat}, fnB m l t = true ↔ ∀ s, s < t → m s (vx l s) ≠ 1000000000
  | 0 => ⟨fun _ s hs => absurd hs (Nat.not_lt_zero _), fun _ => rfl⟩
  | t + 1 => by
    unfold fnB
    rw [Bool.and_eq_true, fnB_t, Bool.not_eq_true', decide_eq_false_iff_not]
    constructor
    · rintro ⟨h1, h2⟩ s hs
      by_cases e : s = t
      · subst e; exact h2
      · exact h1 s (by omega)
    · exact fun h => ⟨fun s hs => h s (by omega), h t (by omega)⟩
theorem cs_bd {n : Nat} {m : Nat → Nat → Int} {l : List Int} (hm : ∀ a b, a < n → b < n → numB (m a b) = true) (hv : vtB n l = true) (hl : l.length ≤ n) (hn : n ≤ 900) : ∀ t, t ≤ l.length → (fnB m l t = false ∧ csF m l t = 1000000000) ∨ (fnB m l t = true ∧ csF m l t = smN (fun i => m i (vx l i)) t ∧ -(1000000 * (t : Int)) ≤ csF m l t ∧ csF m l t ≤ 1000000 * (t : Int))
  | 0, _ => Or.inr ⟨rfl, rfl, by simp [csF]⟩
  | t + 1, ht => by
    have ih := cs_bd hm hv hl hn t (by omega)
    have h1 := (vt_at hv (t := t) (by omega)).2
    have h3 := numB_t (hm _ _ (show t < n by omega) h1)
    unfold fnB csF smN
    by_cases e : m t (vx l t) = 1000000000
    · left
      rw [e]
      exact ⟨by simp, prodZ_inf (Or.inr rfl)⟩
    · rcases ih with ⟨i1, i2⟩ | ⟨i1, i4, i2, i3⟩
      · left
        rw [i1, i2]
        exact ⟨by simp, prodZ_inf (Or.inl rfl)⟩
      · by_cases e2 : csF m l t = 1000000000
        · omega
        · right
          rw [i1, prodZ_fin e2 e, ← i4]
          exact ⟨by simp [e], rfl, by omega, by omega⟩
def costP (m : Nat → Nat → Int) (l : List Int) : Int := csF m l l.length
def finP (m : Nat → Nat → Int) (l : List Int) : Bool := fnB m l l.length
theorem csF_snoc {m : Nat → Nat → Int} {l : List Int} (k : Int) : ∀ {t : Nat}, t ≤ l.length → csF m (l ++ [k]) t = csF m l t
  | 0, _ => rfl
  | t + 1, h => by unfold csF; rw [csF_snoc k (t := t) (by omega), vxA_lt k (by omega)]
theorem fnB_app {m : Nat → Nat → Int} {l : List Int} (r : List Int) : ∀ {t : Nat}, t ≤ l.length → fnB m (l ++ r) t = fnB m l t
  | 0, _ => rfl
  | t + 1, h => by
    have e : vx (l ++ r) t = vx l t := by
      unfold vx
      rw [List.getD_eq_getElem?_getD, List.getElem?_append_left (by omega), ← List.getD_eq_getElem?_getD]
    unfold fnB
    rw [fnB_app r (t := t) (by omega), e]
theorem fnB_mono {m : Nat → Nat → Int} {l : List Int} {s t : Nat} (h : s ≤ t) (ht : fnB m l t = true) : fnB m l s = true := fnB_t.2 fun q hq => fnB_t.1 ht q (by omega)

/-! ### the reference: what is possible -/
def asl (n : Nat) (m : Nat → Nat → Int) : Nat → List Int → List (List Int)
  | 0, l => if l.length = n then [l] else []
  | f + 1, l => if l.length = n then [l] else (List.range n).flatMap fun k : Nat => if (!decide (m l.length k = 1000000000) && !l.contains (k : Int)) = true then asl n m f (l ++ [(k : Int)]) else []
def aslT (n : Nat) (m : Nat → Nat → Int) (f : Nat) (l : List Int) (j : Nat) : List (List Int) := (List.range j).flatMap fun k : Nat => if (!decide (m l.length k = 1000000000) && !l.contains (k : Int)) = true then asl n m f (l ++ [(k : Int)]) else []
theorem aslT_succ (n : Nat) (m : Nat → Nat → Int) (f : Nat) (l : List Int) (j : Nat) : aslT n m f l (j + 1) = aslT n m f l j ++ (if (!decide (m l.length j = 1000000000) && !l.contains (j : Int)) = true then asl n m f (l ++ [(j : Int)]) else []) := by
  unfold aslT
  rw [List.range_succ, List.flatMap_append]
  simp
theorem asl_full {n : Nat} {m : Nat → Nat → Int} {f : Nat} {l : List Int} (h : l.length = n) : asl n m f l = [l] := by
  cases f <;> (unfold asl; rw [if_pos h])
theorem asl_step {n : Nat} {m : Nat → Nat → Int} {f : Nat} {l : List Int} (h : l.length ≠ n) (hf : n ≤ l.length + f) (hl : l.length ≤ n) : asl n m f l = aslT n m (f - 1) l n := by
  cases f with
  | zero => omega
  | succ f => unfold asl; rw [if_neg h]; rfl
theorem filter_flatMapA {α β : Type} (p : β → Bool) (g h : α → List β) : ∀ (L : List α), (∀ x ∈ L, h x = (g x).filter p) → L.flatMap h = (L.flatMap g).filter p
  | [], _ => rfl
  | x :: L, hx => by
    rw [List.flatMap_cons, List.flatMap_cons, List.filter_append, hx x (List.mem_cons_self ..), filter_flatMapA p g h L (fun y hy => hx y (List.mem_cons_of_mem _ hy))]
theorem asl_filter {n : Nat} {m : Nat → Nat → Int} : ∀ (f : Nat) {l : List Int}, Ndp n l → n ≤ l.length + f → fnB m l l.length = true → asl n m f l = (prm n f l).filter (finP m)
  | f, l, h, hf, hfin => by
    by_cases hl : l.length = n
    · rw [asl_full hl, prm_full hl]
      have : finP m l = true := hfin
      simp [this]
    · cases f with
      | zero => have := h.len; omega
      | succ f =>
        rw [asl_step hl hf h.len, prm_step hl hf h.len]
        unfold aslT prmT
        refine filter_flatMapA _ _ _ _ (fun k hk => ?_)
        rw [List.mem_range] at hk
        by_cases hc : (k : Int) ∈ l
        · have : l.contains (k : Int) = true := by simpa using hc
          rw [this]
          simp
        · have hc' : l.contains (k : Int) = false := by simpa using hc
          rw [hc']
          simp only [Bool.not_false, Bool.and_true, Bool.false_eq_true, if_false]
          have hx := h.ext hk hc
          by_cases e : m l.length k = 1000000000
          · rw [e]
            simp only [decide_true, Bool.not_true, Bool.false_eq_true, if_false]
            symm
            rw [List.filter_eq_nil_iff]
            intro c hcm
            obtain ⟨g1, g2, r, rfl⟩ := (prm_mem (f + 1 - 1) hx (by rw [List.length_append, List.length_singleton]; omega)).1 hcm
            intro hfc
            have h1 := fnB_mono (s := l.length + 1) (by simp) (show fnB m _ (l ++ [(k : Int)] ++ r).length = true from hfc)
            rw [fnB_app r (by simp)] at h1
            unfold fnB at h1
            rw [vxA_eq, e] at h1
            simp at h1
          · rw [decide_eq_false e]
            simp only [Bool.not_false, if_true]
            refine asl_filter (f + 1 - 1) hx (by rw [List.length_append, List.length_singleton]; omega) ?_
            rw [List.length_append, List.length_singleton]
            unfold fnB
            rw [fnB_app _ (Nat.le_refl _), hfin, vxA_eq, decide_eq_false e]
            rfl
def aslA (n : Nat) (m : Nat → Nat → Int) : List (List Int) := asl n m n []
theorem aslA_eq (n : Nat) (m : Nat → Nat → Int) : aslA n m = (prmA n).filter (finP m) := asl_filter n (Ndp.nil n) (by simp) rfl

/-! ### the best -/
def pkA (m : Nat → Nat → Int) (s : Int × List Int) (c : List Int) : Int × List Int := if decide (costP m c < s.1) = true then (costP m c, c) else s
def bstA (n : Nat) (m : Nat → Nat → Int) : Int × List Int := (prmA n).foldl (pkA m) (1000000000, [])
def abR (m : Nat → Nat → Int) (s : List (List Int) × Int) (c : List Int) : List (List Int) × Int :=
  let t := if (decide (s.1.length = 0) || decide (costP m c < s.2)) = true then ([], costP m c) else s
  if decide (costP m c = t.2) = true then (t.1 ++ [c], t.2) else t
def asR (n : Nat) (m : Nat → Nat → Int) : List (List Int) × Int := (aslA n m).foldl (abR m) ([], 0)
def RelA (s : Int × List Int) (r : List (List Int) × Int) : Prop := (s = (1000000000, []) ∧ r.1 = []) ∨ (s.2 ≠ [] ∧ s.1 < 1000000000 ∧ r.2 = s.1 ∧ r.1.head? = some s.2)
theorem relA_step {m : Nat → Nat → Int} {s : Int × List Int} {r : List (List Int) × Int} {c : List Int} (h : RelA s r) (hc : c ≠ []) (hf : costP m c < 1000000000) : RelA (pkA m s c) (abR m r c) := by
  unfold pkA abR
  rcases h with ⟨rfl, h1⟩ | ⟨h1, h2, h3, h4⟩
  · rw [if_pos (by simpa using hf)]
    obtain ⟨r1, r2⟩ := r
    simp only at h1
    subst h1
    simp only [List.length_nil, decide_true, Bool.true_or, if_true, List.nil_append]
    exact Or.inr ⟨hc, hf, rfl, rfl⟩
  · obtain ⟨r1, r2⟩ := r
    obtain ⟨s1, s2⟩ := s
    simp only at h1 h2 h3 h4 ⊢
    subst h3
    have hl : r1.length ≠ 0 := by
      intro e
      rw [List.length_eq_zero_iff.1 e] at h4
      cases h4
    rw [decide_eq_false hl, Bool.false_or]
    by_cases hlt : costP m c < r2
    · rw [decide_eq_true hlt]
      simp only [if_true, decide_true, List.nil_append]
      exact Or.inr ⟨hc, hf, rfl, rfl⟩
    · rw [decide_eq_false hlt]
      simp only [Bool.false_eq_true, if_false]
      by_cases e : costP m c = r2
      · rw [decide_eq_true e]
        simp only [if_true]
        refine Or.inr ⟨h1, h2, rfl, ?_⟩
        rw [List.head?_append]
        simp only at h4 ⊢
        rw [h4]
        rfl
      · rw [decide_eq_false e]
        simp only [Bool.false_eq_true, if_false]
        exact Or.inr ⟨h1, h2, rfl, h4⟩
theorem relA_fold {m : Nat → Nat → Int} : ∀ (R : List (List Int)) (s : Int × List Int) (r : List (List Int) × Int), RelA s r → (∀ c ∈ R, c ≠ [] ∧ ((finP m c = false ∧ costP m c = 1000000000) ∨ (finP m c = true ∧ costP m c < 1000000000))) → RelA (R.foldl (pkA m) s) ((R.filter (finP m)).foldl (abR m) r)
  | [], s, r, h, _ => h
  | c :: R, s, r, h, hR => by
    obtain ⟨h1, h2⟩ := hR c (List.mem_cons_self ..)
    rw [List.foldl_cons]
    rcases h2 with ⟨h2, h3⟩ | ⟨h2, h3⟩
    · rw [List.filter_cons, if_neg (by rw [h2]; simp)]
      have : pkA m s c = s := by
        unfold pkA
        rw [h3, if_neg]
        rcases h with ⟨rfl, _⟩ | ⟨_, h5, _⟩
        · simp
        · simp; omega
      rw [this]
      exact relA_fold R s r h (fun x hx => hR x (List.mem_cons_of_mem _ hx))
    · rw [List.filter_cons, if_pos h2, List.foldl_cons]
      exact relA_fold R _ _ (relA_step h h1 h3) (fun x hx => hR x (List.mem_cons_of_mem _ hx))
theorem prm_cost {n : Nat} {m : Nat → Nat → Int} (hm : ∀ a b, a < n → b < n → numB (m a b) = true) (hn : 1 ≤ n ∧ n ≤ 6) {c : List Int} (hc : Ndp n c) (hl : c.length = n) : c ≠ [] ∧ ((finP m c = false ∧ costP m c = 1000000000) ∨ (finP m c = true ∧ costP m c < 1000000000 ∧ costP m c = smN (fun i => m i (vx c i)) n ∧ -6000000 ≤ costP m c ∧ costP m c ≤ 6000000)) := by
  refine ⟨fun e => by rw [e] at hl; simp at hl; omega, ?_⟩
  have h1 := cs_bd hm hc.vt (by omega) (by omega) c.length (Nat.le_refl _)
  unfold finP costP
  rcases h1 with ⟨h1, h2⟩ | ⟨h1, h4, h2, h3⟩
  · exact Or.inl ⟨h1, h2⟩
  · rw [hl] at h2 h3 h4
    rw [hl]
    rw [hl] at h1
    exact Or.inr ⟨h1, by omega, h4, by omega, by omega⟩
theorem best_rel {n : Nat} {m : Nat → Nat → Int} (hm : ∀ a b, a < n → b < n → numB (m a b) = true) (hn : 1 ≤ n ∧ n ≤ 6) : RelA (bstA n m) (asR n m) := by
  unfold bstA asR
  rw [aslA_eq]
  refine relA_fold _ _ _ (Or.inl ⟨rfl, rfl⟩) (fun c hc => ?_)
  obtain ⟨h1, h2⟩ := prmA_mem.1 hc
  obtain ⟨g1, g2⟩ := prm_cost hm hn h1 h2
  exact ⟨g1, g2.imp id (fun h => ⟨h.1, h.2.1⟩)⟩
/-- the best is one, and none costs less. -/
theorem pkA_fold {m : Nat → Nat → Int} : ∀ (R : List (List Int)) (s : Int × List Int), (R.foldl (pkA m) s).1 ≤ s.1 ∧ (∀ c ∈ R, (R.foldl (pkA m) s).1 ≤ costP m c) ∧ (R.foldl (pkA m) s = s ∨ ((R.foldl (pkA m) s).2 ∈ R ∧ (R.foldl (pkA m) s).1 = costP m (R.foldl (pkA m) s).2 ∧ (R.foldl (pkA m) s).1 < s.1))
  | [], s => ⟨Int.le_refl _, fun c hc => (by cases hc), Or.inl rfl⟩
  | c :: R, s => by
    obtain ⟨h1, h2, h3⟩ := pkA_fold R (pkA m s c)
    rw [List.foldl_cons]
    have hp : (pkA m s c).1 ≤ s.1 ∧ (pkA m s c).1 ≤ costP m c ∧ (pkA m s c = s ∨ (pkA m s c = (costP m c, c) ∧ costP m c < s.1)) := by
      unfold pkA
      by_cases e : costP m c < s.1
      · rw [if_pos (decide_eq_true e)]
        exact ⟨by simp; omega, Int.le_refl _, Or.inr ⟨rfl, e⟩⟩
      · rw [if_neg (by simpa using e)]
        exact ⟨Int.le_refl _, by omega, Or.inl rfl⟩
    generalize hq : List.foldl (pkA m) (pkA m s c) R = q at h1 h2 h3 ⊢
    refine ⟨by omega, fun x hx => ?_, ?_⟩
    · rcases List.mem_cons.1 hx with rfl | hx
      · omega
      · exact h2 x hx
    · rcases h3 with h3 | ⟨h3, h4, h5⟩
      · rcases hp.2.2 with h6 | ⟨h6, h7⟩
        · exact Or.inl (by rw [h3, h6])
        · refine Or.inr ?_
          rw [h3, h6]
          exact ⟨List.mem_cons_self .., rfl, h7⟩
      · exact Or.inr ⟨List.mem_cons_of_mem _ h3, h4, by omega⟩
theorem best_spec {n : Nat} {m : Nat → Nat → Int} (hm : ∀ a b, a < n → b < n → numB (m a b) = true) (hn : 1 ≤ n ∧ n ≤ 6) : (bstA n m = (1000000000, []) ∧ ∀ c, Ndp n c → c.length = n → finP m c = false) ∨ (Ndp n (bstA n m).2 ∧ (bstA n m).2.length = n ∧ finP m (bstA n m).2 = true ∧ (bstA n m).1 = costP m (bstA n m).2 ∧ ∀ c, Ndp n c → c.length = n → finP m c = true → (bstA n m).1 ≤ costP m c) := by
  obtain ⟨h1, h2, h3⟩ := pkA_fold (m := m) (prmA n) (1000000000, [])
  rw [show (prmA n).foldl (pkA m) (1000000000, []) = bstA n m from rfl] at h1 h2 h3
  rcases h3 with h3 | ⟨h3, h4, h5⟩
  · refine Or.inl ⟨h3, fun c hc hl => ?_⟩
    have g1 := h2 c (prmA_mem.2 ⟨hc, hl⟩)
    rw [h3] at g1
    rcases (prm_cost hm hn hc hl).2 with g2 | ⟨_, g2, _⟩
    · exact g2.1
    · simp at g1; omega
  · obtain ⟨g1, g2⟩ := prmA_mem.1 h3
    refine Or.inr ⟨g1, g2, ?_, h4, fun c hc hl _ => h2 c (prmA_mem.2 ⟨hc, hl⟩)⟩
    rcases (prm_cost hm hn g1 g2).2 with ⟨_, g3⟩ | ⟨g3, _⟩
    · rw [← h4] at g3
      simp at h5
      omega
    · exact g3
end Go.Proofs.Ytnbenpalneodlaa
