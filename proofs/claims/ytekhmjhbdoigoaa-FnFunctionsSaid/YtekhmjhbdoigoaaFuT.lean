/-
  Needless terms, least coefficients step by step, values at a fraction: plain. By an AI agent.
-/
import Derived.Test.YtekhmjhbdoigoaaFuR
namespace Go.Proofs.Ytekhmjhbdoigoaa
open Go.RowKit

theorem hgt_seg {c : Nat → Int} : ∀ {st : List Nat} (_ : OkR c st) (j : Nat), j + 1 < st.length → ∀ e, st.getD (j + 1) 0 < e → e ≤ st.getD j 0 → hgt c st e = some (sgF c (st.getD (j + 1) 0) (st.getD j 0) e)
  | [], _, j, h, _, _, _ => by simp at h
  | [a], _, j, h, _, _, _ => by simp at h
  | d :: b :: t, ho, 0, _, e, h1, h2 => by
    simp only [List.getD_cons_zero, List.getD_cons_succ] at h1 h2 ⊢
    rw [hgt, if_pos ⟨h1, h2⟩]
  | d :: b :: t, ho, j + 1, h, e, h1, h2 => by
    have hle : e ≤ b := by
      have hdec := ok_pair ho.2.2
      simp only [List.getD_cons_succ] at h2
      rcases Nat.eq_zero_or_pos j with h0 | h0
      · subst h0; simpa using h2
      · have hj : j < (b :: t).length := by simp at h ⊢; omega
        have := List.pairwise_iff_getElem.1 hdec 0 j (by simp) hj h0
        rw [List.getD_eq_getElem?_getD, List.getElem?_eq_getElem hj, Option.getD_some] at h2
        simp only [List.getElem_cons_zero, gt_iff_lt] at this
        omega
    rw [hgt, if_neg (by omega)]
    have := hgt_seg (st := b :: t) ho.2.2 j (by simpa using h) e (by simpa only [List.getD_cons_succ] using h1) (by simpa only [List.getD_cons_succ] using h2)
    rw [this]
    simp only [List.getD_cons_succ]
theorem hgt_last {c : Nat → Int} : ∀ {st : List Nat} (_ : OkR c st), st ≠ [] → hgt c st (st.getD (st.length - 1) 0) = some ⟨c (st.getD (st.length - 1) 0), 1⟩
  | [], _, h => absurd rfl h
  | [a], _, _ => by simp [hgt]
  | d :: b :: t, ho, _ => by
    have ih := hgt_last (st := b :: t) ho.2.2 (by simp)
    have e1 : (d :: b :: t).getD ((d :: b :: t).length - 1) 0 = (b :: t).getD ((b :: t).length - 1) 0 := by simp
    rw [e1, hgt, if_neg, ih]
    have hdec := ok_pair ho.2.2
    have hj : (b :: t).length - 1 < (b :: t).length := by simp
    rcases Nat.eq_zero_or_pos ((b :: t).length - 1) with h0 | h0
    · rw [h0]; simp
    · have := List.pairwise_iff_getElem.1 hdec 0 _ (by simp) hj h0
      rw [List.getD_eq_getElem?_getD, List.getElem?_eq_getElem hj, Option.getD_some]
      simp only [List.getElem_cons_zero, gt_iff_lt] at this
      omega
/-! ### the corners from the least on -/
theorem cor_st {p : List Int} {n : Nat} (h : n < (corP p).length) : (corP p).getD n 0 = (stP p).getD ((stP p).length - 1 - n) 0 := by
  have hl : (corP p).length = (stP p).length := by unfold corP corL stP; rw [List.length_reverse]
  have hr : corP p = (stP p).reverse := rfl
  rw [hr, getD_reverse (by omega)]
theorem cor_len (p : List Int) : (corP p).length = (stP p).length := by unfold corP corL stP; rw [List.length_reverse]
theorem cor_mem {p : List Int} {n : Nat} (h : n < (corP p).length) : (corP p).getD n 0 ∈ stP p := by
  rw [cor_st h]
  have := cor_len p
  exact getD_mem (by omega)
theorem cor_inc {p : List Int} {n : Nat} (h : n + 1 < (corP p).length) : (corP p).getD n 0 < (corP p).getD (n + 1) 0 := by
  have hl := cor_len p
  rw [cor_st (by omega), cor_st h]
  have := ok_dec (stP_ok p) ((stP p).length - 1 - (n + 1)) (by omega)
  rwa [show (stP p).length - 1 - (n + 1) + 1 = (stP p).length - 1 - n by omega] at this
theorem cor_seg {p : List Int} {n : Nat} (h : n + 1 < (corP p).length) {e : Nat} (h1 : (corP p).getD n 0 < e) (h2 : e ≤ (corP p).getD (n + 1) 0) : hgt (cof p) (stP p) e = some (sgF (cof p) ((corP p).getD n 0) ((corP p).getD (n + 1) 0) e) := by
  have hl := cor_len p
  rw [cor_st (by omega)] at h1
  rw [cor_st h] at h2
  rw [cor_st (by omega), cor_st h]
  have := hgt_seg (stP_ok p) ((stP p).length - 1 - (n + 1)) (by omega) e (by rwa [show (stP p).length - 1 - (n + 1) + 1 = (stP p).length - 1 - n by omega]) h2
  rwa [show (stP p).length - 1 - (n + 1) + 1 = (stP p).length - 1 - n by omega] at this
theorem cor_first {p : List Int} (hp : polyB p = true) : hgt (cof p) (stP p) ((corP p).getD 0 0) = some ⟨cof p ((corP p).getD 0 0), 1⟩ := by
  have h1 := (cor_facts hp).1
  rw [cor_st (by omega), Nat.sub_zero]
  exact hgt_last (stP_ok p) (st_ne hp)
theorem cor_low {p : List Int} (hp : polyB p = true) {e : Nat} (he : e < (corP p).getD 0 0) : hgt (cof p) (stP p) e = none := by
  have h1 := (cor_facts hp).1
  have hl := cor_len p
  rw [cor_st (by omega), Nat.sub_zero] at he
  cases hh : hgt (cof p) (stP p) e with
  | none => rfl
  | some f =>
    exfalso
    have := btw_range (n := e + 1) (v := fun _ => 0) (stP_ok p) (c := cof p) (st := stP p) (y := e)
    rcases hgt_some (stP_ok p) hh with ⟨j, h1, h2, h3, _⟩ | ⟨h1, h2, _⟩
    · have hdec := ok_pair (stP_ok p)
      have hx : (stP p).getD ((stP p).length - 1) 0 ≤ (stP p).getD (j + 1) 0 := by
        rcases Nat.lt_or_ge (j + 1) ((stP p).length - 1) with h | h
        · have := List.pairwise_iff_getElem.1 hdec (j + 1) ((stP p).length - 1) h1 (by omega) h
          simp only [List.getD_eq_getElem?_getD, List.getElem?_eq_getElem h1, List.getElem?_eq_getElem (show (stP p).length - 1 < (stP p).length by omega), Option.getD_some]
          exact Nat.le_of_lt this
        · rw [show (stP p).length - 1 = j + 1 by omega]
          exact Nat.le_refl _
      omega
    · omega
theorem cor_lastlen {p : List Int} (hp : polyB p = true) : (corP p).getD ((corP p).length - 1) 0 + 1 = p.length := by
  have h1 := (cor_facts hp).1
  have hl := cor_len p
  rw [cor_st (by omega), hl, Nat.sub_self]
  exact st_head hp
/-! ### needless terms -/
def needB (p : List Int) (e : Nat) : Bool := match hgt (cof p) (stP p) e with | some f => decide (cof p e = INF) || decide (f.n < cof p e * f.d) | none => false
def needK (p : List Int) (k : Nat) : List Nat := (List.range k).filter (needB p)
theorem needK_hit {p : List Int} {k : Nat} (h : needB p k = true) : needK p (k + 1) = needK p k ++ [k] := by simp [needK, List.range_succ, h]
theorem needK_miss {p : List Int} {k : Nat} (h : needB p k = false) : needK p (k + 1) = needK p k := by simp [needK, List.range_succ, h]
theorem needK_len (p : List Int) (k : Nat) : (needK p k).length ≤ k := by
  have := List.length_filter_le (needB p) (List.range k)
  simpa [needK] using this
theorem need_cor {p : List Int} (hp : polyB p = true) {e : Nat} (he : e ∈ stP p) : needB p e = false := by
  obtain ⟨f, h1, h2, h3⟩ := hgt_cor (stP_ok p) he
  have := st_inf hp e he
  unfold needB
  rw [h1]
  simp only
  rw [h3, decide_eq_false this.2, decide_eq_false (Int.lt_irrefl _)]
  rfl
theorem need_low {p : List Int} (hp : polyB p = true) : ∀ k, k ≤ (corP p).getD 0 0 → needK p k = []
  | 0, _ => rfl
  | k + 1, h => by
    rw [needK_miss, need_low hp k (by omega)]
    unfold needB
    rw [cor_low hp (by omega)]
theorem need_seg {p : List Int} {n : Nat} (h : n + 1 < (corP p).length) {e : Nat} (h1 : (corP p).getD n 0 < e) (h2 : e ≤ (corP p).getD (n + 1) 0) :
    needB p e = (decide (cof p e = INF) || decide (cof p ((corP p).getD n 0) * ((((corP p).getD (n + 1) 0 : Nat) : Int) - e) + cof p ((corP p).getD (n + 1) 0) * ((e : Int) - (((corP p).getD n 0 : Nat) : Int)) < cof p e * ((((corP p).getD (n + 1) 0 : Nat) : Int) - (((corP p).getD n 0 : Nat) : Int)))) := by
  unfold needB
  rw [cor_seg h h1 h2]
  unfold sgF
  simp only
  congr 2
  have : cof p ((corP p).getD n 0) * ((((corP p).getD (n + 1) 0 : Nat) : Int) - (((corP p).getD n 0 : Nat) : Int)) + (cof p ((corP p).getD (n + 1) 0) - cof p ((corP p).getD n 0)) * ((e : Int) - (((corP p).getD n 0 : Nat) : Int)) = cof p ((corP p).getD n 0) * ((((corP p).getD (n + 1) 0 : Nat) : Int) - e) + cof p ((corP p).getD (n + 1) 0) * ((e : Int) - (((corP p).getD n 0 : Nat) : Int)) := by grind
  rw [this]
theorem lst_seg {p : List Int} {n : Nat} (h : n + 1 < (corP p).length) {e : Nat} (h1 : (corP p).getD n 0 < e) (h2 : e ≤ (corP p).getD (n + 1) 0) :
    lstA (cof p) (stP p) e = ceiZ (cof p ((corP p).getD n 0) * ((((corP p).getD (n + 1) 0 : Nat) : Int) - e) + cof p ((corP p).getD (n + 1) 0) * ((e : Int) - (((corP p).getD n 0 : Nat) : Int))) ((((corP p).getD (n + 1) 0 : Nat) : Int) - (((corP p).getD n 0 : Nat) : Int)) := by
  unfold lstA
  rw [cor_seg h h1 h2]
  unfold sgF
  simp only
  have : cof p ((corP p).getD n 0) * ((((corP p).getD (n + 1) 0 : Nat) : Int) - (((corP p).getD n 0 : Nat) : Int)) + (cof p ((corP p).getD (n + 1) 0) - cof p ((corP p).getD n 0)) * ((e : Int) - (((corP p).getD n 0 : Nat) : Int)) = cof p ((corP p).getD n 0) * ((((corP p).getD (n + 1) 0 : Nat) : Int) - e) + cof p ((corP p).getD (n + 1) 0) * ((e : Int) - (((corP p).getD n 0 : Nat) : Int)) := by grind
  rw [this]
theorem lst_low {p : List Int} (hp : polyB p = true) {e : Nat} (he : e < (corP p).getD 0 0) : lstA (cof p) (stP p) e = INF := by
  unfold lstA
  rw [cor_low hp he]
/-! ### the sides, as reduced fractions -/
def lowO (f : Fr) : Fr := lowF f.n f.d
def sideA (p : List Int) (e : Nat) : Option Fr := (hgt (cof p) (stP p) e).map lowO
theorem low_cei {n d : Int} (hd : 1 ≤ d) : ceiZ (lowF n d).n (lowF n d).d = ceiZ n d := by
  obtain ⟨s, _, hs, a1, a2, a3, _⟩ := low_spec (n := n) (d := d) (by omega)
  generalize lowF n d = f at *
  obtain ⟨u, v⟩ := f
  simp only at *
  have hsp : 0 < s := by
    rcases Int.lt_or_le 0 s with h | h
    · exact h
    · have := Int.mul_le_mul_of_nonneg_right h (show 0 ≤ v by omega); omega
  have h1 := cei_bd (n := n) (d := d) (by omega)
  have h2 := cei_bd (n := u) (d := v) (by omega)
  have g1 : ceiZ n d ≤ ceiZ u v := by
    refine cei_le (by omega) ?_
    have := Int.mul_le_mul_of_nonneg_left h2.1 (Int.le_of_lt hsp)
    rw [a1, a2]
    have e : s * (ceiZ u v * v) = ceiZ u v * (s * v) := by grind
    omega
  have g2 : ceiZ u v ≤ ceiZ n d := by
    refine cei_le (by omega) ?_
    have h3 := h1.1
    rw [a1, a2] at h3
    have e : ceiZ (s * u) (s * v) * (s * v) = s * (ceiZ n d * v) := by rw [← a1, ← a2]; grind
    rw [e] at h3
    exact Int.le_of_mul_le_mul_left h3 hsp
  omega
/-- The sides' parts are small. -/
theorem sg_bd {p : List Int} (hp : polyB p = true) {e : Nat} {f : Fr} (h : hgt (cof p) (stP p) e = some f) : (1 ≤ f.d ∧ f.d ≤ 13) ∧ (-13000000 ≤ f.n ∧ f.n ≤ 13000000) := by
  have hd := hgt_pos (stP_ok p) h
  have hb := hgt_bd (stP_ok p) (B := 1000000) (fun y hy => by have := st_mem hp y hy; omega) h
  have h13 := (polyB_t hp).1
  have hd13 : f.d ≤ 13 := by
    rcases hgt_some (stP_ok p) h with ⟨j, h1, _, _, rfl⟩ | ⟨_, _, rfl⟩
    · have := (st_mem hp _ (getD_mem (j := j) (by omega))).1
      unfold sgF
      simp only
      omega
    · simp
  have b1 := Int.mul_le_mul_of_nonneg_left hd13 (show (0 : Int) ≤ 1000000 by omega)
  omega
theorem low_bd {n d : Int} (hd : 1 ≤ d ∧ d ≤ 13) (hn : -13000000 ≤ n ∧ n ≤ 13000000) : frB (lowF n d) = true ∧ (1 ≤ (lowF n d).d ∧ (lowF n d).d ≤ 13) ∧ (-13000000 ≤ (lowF n d).n ∧ (lowF n d).n ≤ 13000000) := by
  obtain ⟨_, _, _, _, _, h3, h4⟩ := low_spec (n := n) (d := d) (by omega)
  have x1 := tdiv_bdP n (sgG n d)
  have x2 := tdiv_bdP d (sgG n d)
  have y1 : (lowF n d).n.natAbs ≤ n.natAbs := x1
  have y2 : (lowF n d).d.natAbs ≤ d.natAbs := x2
  have g1 : 1 ≤ (lowF n d).d ∧ (lowF n d).d ≤ 13 := by omega
  have g2 : -13000000 ≤ (lowF n d).n ∧ (lowF n d).n ≤ 13000000 := by omega
  exact ⟨frB_t.2 ⟨by omega, by omega, h4⟩, g1, g2⟩
/-- The program's question whether a term is needless. -/
theorem need_side {p : List Int} (hp : polyB p = true) {e : Nat} (he : e < p.length) : needB p e = match sideA p e with
    | some g => (decide (cof p e = INF) || !(decide (cof p e = g.n) && decide ((1 : Int) = g.d)))
    | none => false := by
  unfold needB sideA
  cases h : hgt (cof p) (stP p) e with
  | none => rfl
  | some f =>
    simp only [Option.map_some]
    by_cases hi : cof p e = INF
    · rw [decide_eq_true hi]; rfl
    · rw [decide_eq_false hi, Bool.false_or, Bool.false_or]
      have hle := (btw_p hp).some e f he h hi
      have hd := hgt_pos (stP_ok p) h
      have hnum := numB_t ((polyB_t hp).2.1 e he)
      have hfin : -1000000 ≤ cof p e ∧ cof p e ≤ 1000000 := by
        have : p.getD e 0 = cof p e := rfl
        rw [this] at hnum
        unfold INF at hi
        omega
      unfold lowO
      by_cases hq : f.n = cof p e * f.d
      · rw [decide_eq_false (by omega)]
        have : lowF f.n f.d = ⟨cof p e, 1⟩ := low_unique (by omega) (frB_one (by omega)) (by simp only [Int.mul_one]; rw [hq, Int.mul_comm])
        rw [this]
        simp
      · rw [decide_eq_true (by omega)]
        symm
        rw [Bool.not_eq_true']
        rw [Bool.and_eq_false_iff]
        rcases Decidable.em (cof p e = (lowF f.n f.d).n) with h1 | h1
        · right
          refine decide_eq_false (fun h2 => hq ?_)
          have := low_cross (n := f.n) (d := f.d) (by omega)
          rw [← h1, ← h2] at this
          omega
        · exact Or.inl (decide_eq_false h1)

end Go.Proofs.Ytekhmjhbdoigoaa
