/-
  Least coefficients, plain, second part: corners are told by any numbers between the hull and the points; two polynomials have the same least coefficients if and only if they have the same corners. By an AI agent.
-/
import Derived.Test.YtekhmjhbdoigoaaFuP
namespace Go.Proofs.Ytekhmjhbdoigoaa
open Go.RowKit

def INF : Int := 1000000000
/-- The numbers v lie on or above the hull, and on it at the corners; there are none outside. -/
structure Btw (c : Nat → Int) (st : List Nat) (n : Nat) (v : Nat → Int) : Prop where
  none : ∀ e, e < n → hgt c st e = Option.none → v e = INF
  some : ∀ e f, e < n → hgt c st e = Option.some f → v e ≠ INF → f.n ≤ v e * f.d
  cor : ∀ e, e ∈ st → v e = c e
/-- Strictly below each line of two others. -/
def Strict (n : Nat) (v : Nat → Int) (e : Nat) : Prop :=
  e < n ∧ v e ≠ INF ∧ ∀ i k, i < e → e < k → k < n → v i ≠ INF → v k ≠ INF → (v e - v i) * ((k : Int) - i) < (v k - v i) * ((e : Int) - i)
theorem str_mid {u1 s1 L1 t1 s2 L2 t2 u2 : Int} (hs1 : 0 < s1) (hs2 : 0 < s2) (ht1 : 0 < t1) (ht2 : 0 < t2) (h1 : u1 * s1 ≤ L1 * t1) (h2 : L1 * s2 < L2 * s1) (h3 : L2 * t2 ≤ u2 * s2) : u1 * t2 < u2 * t1 := by
  have a1 := Int.mul_le_mul_of_nonneg_right h1 (Int.le_of_lt (Int.mul_pos ht2 hs2))
  have a2 := Int.mul_lt_mul_of_pos_right h2 (Int.mul_pos ht1 ht2)
  have a3 := Int.mul_le_mul_of_nonneg_right h3 (Int.le_of_lt (Int.mul_pos hs1 ht1))
  have e1 : u1 * s1 * (t2 * s2) = u1 * t2 * (s1 * s2) := by grind
  have e2 : L1 * t1 * (t2 * s2) = L1 * s2 * (t1 * t2) := by grind
  have e3 : L2 * s1 * (t1 * t2) = L2 * t2 * (s1 * t1) := by grind
  have e4 : u2 * s2 * (s1 * t1) = u2 * t1 * (s1 * s2) := by grind
  rw [e1, e2] at a1
  rw [e3] at a2
  rw [e4] at a3
  exact Int.lt_of_mul_lt_mul_right (Int.lt_of_le_of_lt a1 (Int.lt_of_lt_of_le a2 a3)) (Int.le_of_lt (Int.mul_pos hs1 hs2))
/-- The value at y, on or above the hull, lies on or above each step's line. -/
theorem btw_line {c : Nat → Int} {st : List Nat} {n : Nat} {v : Nat → Int} (ho : OkR c st) (hb : Btw c st n v) {y : Nat} (hy : y < n) (hv : v y ≠ INF) {j : Nat} (hj : j + 1 < st.length) :
    0 ≤ tqv c (st.getD (j + 1) 0) (st.getD j 0) y (v y) := by
  cases hh : hgt c st y with
  | none => exact absurd (hb.none y hy hh) hv
  | some f =>
    have h1 := hb.some y f hy hh hv
    have h2 := hgt_line ho hh hj
    have hd := hgt_pos ho hh
    have hp := ok_dec ho j hj
    generalize st.getD (j + 1) 0 = b at *
    generalize st.getD j 0 = d at *
    have h3 := Int.mul_le_mul_of_nonneg_right h1 (show (0 : Int) ≤ (d : Int) - b by omega)
    have h4 := Int.le_trans h2 h3
    unfold tqv
    have e1 : v y * f.d * ((d : Int) - b) = f.d * (v y * ((d : Int) - b)) := by grind
    rw [e1] at h4
    have h5 := Int.le_of_mul_le_mul_left h4 (show 0 < f.d by omega)
    rw [Int.sub_mul]
    omega
theorem btw_range {c : Nat → Int} {st : List Nat} {n : Nat} {v : Nat → Int} (ho : OkR c st) (hb : Btw c st n v) {y : Nat} (hy : y < n) (hv : v y ≠ INF) : st ≠ [] ∧ st.getD (st.length - 1) 0 ≤ y ∧ y ≤ st.getD 0 0 := by
  cases hh : hgt c st y with
  | none => exact absurd (hb.none y hy hh) hv
  | some f =>
    have hdec := ok_pair ho
    rcases hgt_some ho hh with ⟨j, h1, h2, h3, _⟩ | ⟨h1, h2, _⟩
    · refine ⟨by intro e; rw [e] at h1; simp at h1, ?_, ?_⟩
      · have hx : st.getD (st.length - 1) 0 ≤ st.getD (j + 1) 0 := by
          rcases Nat.lt_or_ge (j + 1) (st.length - 1) with h | h
          · have := List.pairwise_iff_getElem.1 hdec (j + 1) (st.length - 1) h1 (by omega) h
            simp only [List.getD_eq_getElem?_getD, List.getElem?_eq_getElem h1, List.getElem?_eq_getElem (show st.length - 1 < st.length by omega), Option.getD_some]
            exact Nat.le_of_lt this
          · rw [show st.length - 1 = j + 1 by omega]
            exact Nat.le_refl _
        omega
      · have hx : st.getD j 0 ≤ st.getD 0 0 := by
          rcases Nat.eq_zero_or_pos j with h | h
          · rw [h]; exact Nat.le_refl _
          · have := List.pairwise_iff_getElem.1 hdec 0 j (by omega) (by omega) h
            simp only [List.getD_eq_getElem?_getD, List.getElem?_eq_getElem (show j < st.length by omega), List.getElem?_eq_getElem (show 0 < st.length by omega), Option.getD_some]
            exact Nat.le_of_lt this
        omega
    · have hl : 0 < st.length := by cases st; exact absurd rfl h1; simp
      refine ⟨h1, by omega, ?_⟩
      rw [h2]
      rcases Nat.eq_zero_or_pos (st.length - 1) with h | h
      · rw [h]; exact Nat.le_refl _
      · have := List.pairwise_iff_getElem.1 hdec 0 (st.length - 1) (by omega) (by omega) h
        simp only [List.getD_eq_getElem?_getD, List.getElem?_eq_getElem (show st.length - 1 < st.length by omega), List.getElem?_eq_getElem (show 0 < st.length by omega), Option.getD_some]
        exact Nat.le_of_lt this
theorem mem_strict {c : Nat → Int} {st : List Nat} {n : Nat} {v : Nat → Int} (ho : OkR c st) (hb : Btw c st n v) (hn : ∀ y ∈ st, y < n ∧ c y ≠ INF) (e : Nat) : e ∈ st ↔ Strict n v e := by
  have hdec := ok_pair ho
  constructor
  · intro he
    have hve := hb.cor e he
    refine ⟨(hn e he).1, by rw [hve]; exact (hn e he).2, fun i k hie hek hkn hvi hvk => ?_⟩
    obtain ⟨m, hm, hme⟩ := List.mem_iff_getElem.1 he
    have hget : st.getD m 0 = e := by rw [List.getD_eq_getElem?_getD, List.getElem?_eq_getElem hm, Option.getD_some, hme]
    have hki := btw_range ho hb (show i < n by omega) hvi
    have hkk := btw_range ho hb hkn hvk
    have hm0 : m ≠ 0 := by intro h; subst h; omega
    have hm1 : m + 1 < st.length := by
      rcases Nat.lt_or_ge (m + 1) st.length with h | h
      · exact h
      · rw [show st.length - 1 = m by omega, hget] at hki; omega
    obtain ⟨j, rfl⟩ : ∃ j, m = j + 1 := ⟨m - 1, by omega⟩
    have A := btw_line ho hb hkn hvk (j := j) (by omega)
    have B := btw_line ho hb (show i < n by omega) hvi hm1
    have C := rr_lt ho (j := j) (by omega)
    have d1 := ok_dec ho j (by omega)
    have d2 := ok_dec ho (j + 1) hm1
    unfold ltF rrF at C
    unfold tqv at A B
    simp only at C
    rw [hget] at A B C d1 d2
    generalize st.getD j 0 = d at *
    generalize st.getD (j + 1 + 1) 0 = b at *
    rw [hve]
    generalize v i = vi at *
    generalize v k = vk at *
    have R := str_mid (u1 := c e - vi) (s1 := (e : Int) - b) (L1 := c e - c b) (t1 := (e : Int) - i) (s2 := (d : Int) - e) (L2 := c d - c e) (t2 := (k : Int) - e) (u2 := vk - c e) (by omega) (by omega) (by omega) (by omega)
      (by
        have e1 : (c e - c b) * ((e : Int) - i) - (c e - vi) * ((e : Int) - b) = (vi - c b) * ((e : Int) - b) - (c e - c b) * ((i : Int) - b) := by grind
        omega)
      (by
        have e1 : (c e - c d) * ((e : Int) - b) = -((c d - c e) * ((e : Int) - b)) := by rw [← Int.neg_mul, Int.neg_sub]
        have e2 : (c b - c e) * ((d : Int) - e) = -((c e - c b) * ((d : Int) - e)) := by rw [← Int.neg_mul, Int.neg_sub]
        omega)
      (by omega)
    have e1 : (vk - vi) * ((e : Int) - i) - (c e - vi) * ((k : Int) - i) = (vk - c e) * ((e : Int) - i) - (c e - vi) * ((k : Int) - e) := by grind
    omega
  · rintro ⟨hen, hve, hst⟩
    cases hh : hgt c st e with
    | none => exact absurd (hb.none e hen hh) hve
    | some f =>
      rcases hgt_some ho hh with ⟨j, h1, h2, h3, hf⟩ | ⟨h1, h2, _⟩
      · rcases Nat.lt_or_ge e (st.getD j 0) with h4 | h4
        · exfalso
          have mb : st.getD (j + 1) 0 ∈ st := getD_mem h1
          have md : st.getD j 0 ∈ st := getD_mem (by omega)
          have hfe := hb.some e f hen hh hve
          rw [hf] at hfe
          have hs := hst (st.getD (j + 1) 0) (st.getD j 0) h2 h4 (hn _ md).1 (by rw [hb.cor _ mb]; exact (hn _ mb).2) (by rw [hb.cor _ md]; exact (hn _ md).2)
          rw [hb.cor _ mb, hb.cor _ md] at hs
          unfold sgF at hfe
          simp only at hfe
          rw [Int.sub_mul] at hs
          omega
        · have : e = st.getD j 0 := by omega
          rw [this]
          exact getD_mem (by omega)
      · rw [h2]
        exact getD_mem (by cases st; exact absurd rfl h1; simp)
theorem dec_ext : ∀ {a b : List Nat}, a.Pairwise (· > ·) → b.Pairwise (· > ·) → (∀ y, y ∈ a ↔ y ∈ b) → a = b
  | [], [], _, _, _ => rfl
  | [], y :: t, _, _, h => absurd ((h y).2 (by simp)) (by simp)
  | y :: t, [], _, _, h => absurd ((h y).1 (by simp)) (by simp)
  | x :: s, y :: t, ha, hb, h => by
    obtain ⟨a1, a2⟩ := List.pairwise_cons.1 ha
    obtain ⟨b1, b2⟩ := List.pairwise_cons.1 hb
    have hxy : x = y := by
      have h1 := (h x).1 (by simp)
      have h2 := (h y).2 (by simp)
      rcases List.mem_cons.1 h1 with h3 | h3
      · exact h3
      · rcases List.mem_cons.1 h2 with h4 | h4
        · exact h4.symm
        · have := b1 x h3; have := a1 y h4; simp only [gt_iff_lt] at *; omega
    subst hxy
    rw [dec_ext a2 b2 (fun z => ⟨fun hz => by
      rcases List.mem_cons.1 ((h z).1 (List.mem_cons_of_mem _ hz)) with h3 | h3
      · have := a1 z hz; simp only [gt_iff_lt] at this; omega
      · exact h3, fun hz => by
      rcases List.mem_cons.1 ((h z).2 (List.mem_cons_of_mem _ hz)) with h3 | h3
      · have := b1 z hz; simp only [gt_iff_lt] at this; omega
      · exact h3⟩)]

/-! ### Least coefficients -/
theorem cei_bd {n d : Int} (hd : 0 < d) : n ≤ ceiZ n d * d ∧ (ceiZ n d - 1) * d < n := by
  have := flo_bd (n := -n) hd
  unfold ceiZ
  generalize floZ (-n) d = q at *
  rw [Int.add_mul] at this
  rw [Int.sub_mul, Int.neg_mul]
  omega
theorem cei_mul {v d : Int} (hd : 0 < d) : ceiZ (v * d) d = v := by
  obtain ⟨h1, h2⟩ := cei_bd (n := v * d) hd
  have h3 := Int.le_of_mul_le_mul_right h1 hd
  have h4 := Int.lt_of_mul_lt_mul_right h2 (Int.le_of_lt hd)
  omega
theorem cei_le {n d v : Int} (hd : 0 < d) (h : n ≤ v * d) : ceiZ n d ≤ v := by
  have h2 := (cei_bd (n := n) hd).2
  have h4 := Int.lt_of_mul_lt_mul_right (Int.lt_of_lt_of_le h2 h) (Int.le_of_lt hd)
  omega
theorem cei_ge {n d v : Int} (hd : 0 < d) (h : v * d ≤ n) : v ≤ ceiZ n d := by
  have h2 := (cei_bd (n := n) hd).1
  exact Int.le_of_mul_le_mul_right (Int.le_trans h h2) hd
def lstA (c : Nat → Int) (st : List Nat) (e : Nat) : Int := match hgt c st e with | some f => ceiZ f.n f.d | none => INF
def leastP (p : List Int) : List Int := tab p.length (lstA (cof p) (stP p))
theorem leastP_len (p : List Int) : (leastP p).length = p.length := by unfold leastP; rw [tab_length]
theorem leastP_at {p : List Int} {e : Nat} (h : e < p.length) : cof (leastP p) e = lstA (cof p) (stP p) e := by
  show (leastP p).getD e 0 = _
  unfold leastP
  rw [tab_getD h]
theorem stP_ok (p : List Int) : OkR (cof p) (stP p) := (cor_all (c := cof p) _ (finK_inc p p.length)).1
theorem st_mem {p : List Int} (hp : polyB p = true) : ∀ y ∈ stP p, y < p.length ∧ -1000000 ≤ cof p y ∧ cof p y ≤ 1000000 := fun y hy => by
  obtain ⟨j, hj, hje⟩ := List.mem_iff_getElem.1 hy
  have h := (st_facts hp).2.2.2.1 j hj
  rwa [List.getD_eq_getElem?_getD, List.getElem?_eq_getElem hj, Option.getD_some, hje] at h
theorem fin_mem {p : List Int} {e : Nat} (he : e < p.length) (h : cof p e ≠ INF) : e ∈ finK p p.length := by
  unfold finK
  rw [List.mem_filter]
  exact ⟨List.mem_range.2 he, by simpa [INF] using h⟩
theorem st_ne {p : List Int} (hp : polyB p = true) : stP p ≠ [] := by
  have h1 := (st_facts hp).1
  have h2 := (cor_facts hp).1
  intro e
  rw [e] at h1
  simp at h1
  omega
theorem st_head {p : List Int} (hp : polyB p = true) : (stP p).getD 0 0 + 1 = p.length := by
  obtain ⟨⟨h1, h2⟩, h3, h4⟩ := polyB_t hp
  have hm := st_mem hp _ (getD_mem (j := 0) (by have := st_ne hp; cases h : stP p; exact absurd h this; simp))
  have hfin : p.length - 1 ∈ finK p p.length := fin_mem (by omega) h4
  have hne : finK p p.length ≠ [] := by intro e; rw [e] at hfin; simp at hfin
  have hh := ((cor_all (c := cof p) _ (finK_inc p p.length)).2.2.2.1 hne).2.1
  have hlast : (finK p p.length).getLastD 0 = p.length - 1 := by
    obtain ⟨m, hm⟩ : ∃ m, p.length = m + 1 := ⟨p.length - 1, by omega⟩
    rw [hm, finK_hit (by rw [show m = p.length - 1 by omega]; exact h4)]
    simp
  have : (stP p).headD 0 = (stP p).getD 0 0 := by cases stP p <;> rfl
  unfold stP at this
  rw [hh, hlast] at this
  unfold stP
  rw [← this]
  omega
theorem fin_ge {p : List Int} {y : Nat} (hy : y ∈ finK p p.length) : (stP p).getD ((stP p).length - 1) 0 ≤ y := by
  have hne : finK p p.length ≠ [] := by intro e; rw [e] at hy; simp at hy
  have hh := ((cor_all (c := cof p) _ (finK_inc p p.length)).2.2.2.1 hne).2.2
  have h0 : (stP p).getLastD 0 = (stP p).getD ((stP p).length - 1) 0 := by rw [List.getLastD_eq_getLast?, List.getLast?_eq_getElem?, List.getD_eq_getElem?_getD]
  rw [← h0]
  unfold stP
  rw [hh]
  have hi := finK_inc p p.length
  cases h : finK p p.length with
  | nil => exact absurd h hne
  | cons a t =>
    rw [h] at hy hi
    rcases List.mem_cons.1 hy with rfl | hy
    · exact Nat.le_refl _
    · exact Nat.le_of_lt ((List.pairwise_cons.1 hi).1 y hy)
theorem hgt_out {p : List Int} (hp : polyB p = true) {e : Nat} (he : e < p.length) (h : hgt (cof p) (stP p) e = none) : cof p e = INF := by
  have h1 := st_head hp
  rcases hgt_none (stP_ok p) h with h2 | h2 | h2
  · exact absurd h2 (st_ne hp)
  · rcases Decidable.em (cof p e = INF) with h3 | h3
    · exact h3
    · have := fin_ge (fin_mem he h3)
      omega
  · omega
theorem btw_p {p : List Int} (hp : polyB p = true) : Btw (cof p) (stP p) p.length (cof p) :=
  ⟨fun _ he h => hgt_out hp he h, fun _ _ he h hv => hgt_le (finK_inc p p.length) h (fin_mem he hv), fun _ _ => rfl⟩
theorem lst_cor {p : List Int} {e : Nat} (he : e ∈ stP p) : lstA (cof p) (stP p) e = cof p e := by
  obtain ⟨f, h1, h2, h3⟩ := hgt_cor (stP_ok p) he
  unfold lstA
  rw [h1]
  simp only
  rw [h3, cei_mul (by omega)]
theorem btw_l {p : List Int} (hp : polyB p = true) : Btw (cof p) (stP p) p.length (cof (leastP p)) :=
  ⟨fun _ he h => by rw [leastP_at he]; unfold lstA; rw [h], fun _ _ he h _ => by
    rw [leastP_at he]; unfold lstA; rw [h]
    exact (cei_bd (by have := hgt_pos (stP_ok p) h; omega)).1, fun e he => by
    rw [leastP_at (st_mem hp e he).1, lst_cor he]⟩
theorem st_inf {p : List Int} (hp : polyB p = true) : ∀ y ∈ stP p, y < p.length ∧ cof p y ≠ INF := fun y hy => by
  have := st_mem hp y hy
  exact ⟨this.1, by unfold INF; omega⟩
theorem same_stP {p q : List Int} (hp : polyB p = true) (hq : polyB q = true) (h : leastP p = leastP q) : stP p = stP q ∧ ∀ e ∈ stP p, cof p e = cof q e := by
  have hl : p.length = q.length := by have := leastP_len p; rw [h, leastP_len] at this; exact this.symm
  have hs : stP p = stP q := dec_ext (ok_pair (stP_ok p)) (ok_pair (stP_ok q)) (fun y => by
    rw [mem_strict (stP_ok p) (btw_l hp) (st_inf hp), mem_strict (stP_ok q) (btw_l hq) (st_inf hq), h, hl])
  refine ⟨hs, fun e he => ?_⟩
  rw [← (btw_l hp).cor e he, h, (btw_l hq).cor e (hs ▸ he)]
theorem stP_same {p q : List Int} (hp : polyB p = true) (hq : polyB q = true) (h : stP p = stP q) (hc : ∀ e ∈ stP p, cof p e = cof q e) : leastP p = leastP q := by
  have hl : p.length = q.length := by rw [← st_head hp, ← st_head hq, h]
  unfold leastP
  rw [hl]
  refine tab_congr (fun e _ => ?_)
  unfold lstA
  rw [hgt_congr (stP p) e hc, h]
/-- Least coefficients of a polynomial of least coefficients are itself. -/
theorem least_twice {p : List Int} (hp : polyB p = true) (hl : polyB (leastP p) = true) : leastP (leastP p) = leastP p := by
  have hs : stP (leastP p) = stP p := dec_ext (ok_pair (stP_ok _)) (ok_pair (stP_ok _)) (fun y => by
    rw [mem_strict (stP_ok _) (btw_p hl) (st_inf hl), mem_strict (stP_ok p) (btw_l hp) (st_inf hp), leastP_len])
  refine stP_same hl hp hs (fun e he => ?_)
  rw [hs] at he
  exact (btw_l hp).cor e he
theorem least_le {p : List Int} (hp : polyB p = true) {e : Nat} (he : e < p.length) : lstA (cof p) (stP p) e ≤ cof p e := by
  unfold lstA
  cases h : hgt (cof p) (stP p) e with
  | none => simp only; rw [hgt_out hp he h]; exact Int.le_refl _
  | some f =>
    simp only
    have hd := hgt_pos (stP_ok p) h
    rcases Decidable.em (cof p e = INF) with h1 | h1
    · have := (hgt_bd (stP_ok p) (B := 1000000) (fun y hy => by have := st_mem hp y hy; omega) h).2
      have := cei_le (by omega) this
      rw [h1]
      unfold INF
      omega
    · exact cei_le (by omega) ((btw_p hp).some e f he h h1)
theorem least_fin {p : List Int} (hp : polyB p = true) {e : Nat} {f : Fr} (h : hgt (cof p) (stP p) e = some f) : -1000000 ≤ ceiZ f.n f.d ∧ ceiZ f.n f.d ≤ 1000000 := by
  have hd := hgt_pos (stP_ok p) h
  have := hgt_bd (stP_ok p) (B := 1000000) (fun y hy => by have := st_mem hp y hy; omega) h
  exact ⟨cei_ge (by omega) this.1, cei_le (by omega) this.2⟩

end Go.Proofs.Ytekhmjhbdoigoaa
