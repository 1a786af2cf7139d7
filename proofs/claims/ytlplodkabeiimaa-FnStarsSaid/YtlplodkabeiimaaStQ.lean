/-
  Stars, plain, second part: sums, scaled and mapped stars, the missing ray. By an AI agent.
-/
import Derived.Test.YtlplodkabeiimaaStP
namespace Go.Proofs.Ytlplodkabeiimaa

theorem mulbS {k m K M : Int} (hK : 0 ≤ K) (hk : -K ≤ k ∧ k ≤ K) (hm : -M ≤ m ∧ m ≤ M) : -(K * M) ≤ k * m ∧ k * m ≤ K * M := by
  have h1 : k.natAbs ≤ K.toNat := by omega
  have h2 : m.natAbs ≤ M.toNat := by omega
  have h3 : (k * m).natAbs ≤ K.toNat * M.toNat := by rw [Int.natAbs_mul]; exact Nat.mul_le_mul h1 h2
  have h4 : ((K.toNat * M.toNat : Nat) : Int) = K * M := by rw [Int.natCast_mul, Int.toNat_of_nonneg hK, Int.toNat_of_nonneg (by omega)]
  omega

def sxR : List Ry → Int
  | [] => 0
  | a :: t => a.w * a.x + sxR t
def syR : List Ry → Int
  | [] => 0
  | a :: t => a.w * a.y + syR t
theorem sxR_append : ∀ a b : List Ry, sxR (a ++ b) = sxR a + sxR b
  | [], b => by simp [sxR]
  | x :: a, b => by rw [List.cons_append, sxR, sxR, sxR_append a b]; omega
theorem syR_append : ∀ a b : List Ry, syR (a ++ b) = syR a + syR b
  | [], b => by simp [syR]
  | x :: a, b => by rw [List.cons_append, syR, syR, syR_append a b]; omega
theorem sxR_perm {a b : List Ry} (h : a.Perm b) : sxR a = sxR b := by
  induction h with
  | nil => rfl
  | cons x _ ih => rw [sxR, sxR, ih]
  | swap x y l => rw [sxR, sxR, sxR, sxR]; omega
  | trans _ _ ih1 ih2 => rw [ih1, ih2]
theorem syR_perm {a b : List Ry} (h : a.Perm b) : syR a = syR b := by
  induction h with
  | nil => rfl
  | cons x _ ih => rw [syR, syR, ih]
  | swap x y l => rw [syR, syR, syR, syR]; omega
  | trans _ _ ih1 ih2 => rw [ih1, ih2]
theorem put_sum (r : Ry) : ∀ l : List Ry, sxR (putR r l) = sxR l + r.w * r.x ∧ syR (putR r l) = syR l + r.w * r.y
  | [] => by simp [putR, sxR, syR]
  | a :: t => by
    obtain ⟨i1, i2⟩ := put_sum r t
    rw [putR]
    split
    · rw [sxR, sxR, syR, syR, i1, i2]; omega
    · split
      · rw [sxR, syR]; omega
      · rename_i h1 h2
        have h3 : sameD a r := by rcases bef_three a r with h | h | h; exact absurd h h1; exact h; exact absurd h h2
        unfold sameD at h3
        rw [sxR, sxR, syR, syR]
        simp only
        rw [h3.1, h3.2, Int.add_mul, Int.add_mul]
        omega
theorem puts_sum : ∀ (b a : List Ry), sxR (b.foldl (fun l r => putR r l) a) = sxR a + sxR b ∧ syR (b.foldl (fun l r => putR r l) a) = syR a + syR b
  | [], a => by simp [sxR, syR]
  | r :: b, a => by
    obtain ⟨i1, i2⟩ := puts_sum b (putR r a)
    obtain ⟨j1, j2⟩ := put_sum r a
    rw [List.foldl_cons, i1, i2, j1, j2, sxR, syR]
    omega
/-! ### scaled -/
def sclR (k : Int) (l : List Ry) : List Ry := l.map fun r => ⟨r.x, r.y, r.w * k⟩
theorem scl_sum (k : Int) : ∀ l : List Ry, sxR (sclR k l) = k * sxR l ∧ syR (sclR k l) = k * syR l
  | [] => by simp [sclR, sxR, syR]
  | a :: t => by
    obtain ⟨i1, i2⟩ := scl_sum k t
    unfold sclR at i1 i2 ⊢
    rw [List.map_cons, sxR, sxR, syR, syR, i1, i2]
    simp only
    grind
theorem scl_zero {k : Int} (hk : 1 ≤ k) (l : List Ry) : (sxR (sclR k l) = 0 ∧ syR (sclR k l) = 0) ↔ (sxR l = 0 ∧ syR l = 0) := by
  obtain ⟨i1, i2⟩ := scl_sum k l
  rw [i1, i2, Int.mul_eq_zero, Int.mul_eq_zero]
  omega
/-! ### mapped -/
def mapR (a b c d : Int) (r : Ry) : Ry := ⟨a * r.x + b * r.y, c * r.x + d * r.y, r.w⟩
theorem map_sum (a b c d : Int) : ∀ l : List Ry, sxR (l.map (mapR a b c d)) = a * sxR l + b * syR l ∧ syR (l.map (mapR a b c d)) = c * sxR l + d * syR l
  | [] => by simp [sxR, syR]
  | r :: t => by
    obtain ⟨i1, i2⟩ := map_sum a b c d t
    rw [List.map_cons, sxR, sxR, syR, syR, i1, i2]
    unfold mapR
    simp only
    grind
theorem det_zero {a b c d x y : Int} (hd : a * d - b * c = 1 ∨ a * d - b * c = -1) : (a * x + b * y = 0 ∧ c * x + d * y = 0) ↔ (x = 0 ∧ y = 0) := by
  constructor
  · rintro ⟨h1, h2⟩
    have e1 : d * (a * x + b * y) - b * (c * x + d * y) = (a * d - b * c) * x := by grind
    have e2 : a * (c * x + d * y) - c * (a * x + b * y) = (a * d - b * c) * y := by grind
    rw [h1, h2, Int.mul_zero, Int.mul_zero] at e1 e2
    rcases hd with h | h
    · rw [h] at e1 e2; omega
    · rw [h] at e1 e2; omega
  · rintro ⟨rfl, rfl⟩
    simp
theorem map_inj {a b c d : Int} (hd : a * d - b * c = 1 ∨ a * d - b * c = -1) {p q : Ry} (h : sameD (mapR a b c d p) (mapR a b c d q)) : sameD p q := by
  unfold sameD mapR at *
  simp only at h
  have := (det_zero (x := p.x - q.x) (y := p.y - q.y) hd).1 ⟨by grind, by grind⟩
  omega
/-- The map of a strict list has each direction once: put in one by one, or sorted, it is the same. -/
theorem map_put {a b c d : Int} (hd : a * d - b * c = 1 ∨ a * d - b * c = -1) {l s : List Ry} (hl : StrictR l) (hs : SortedR s) (hp : s.Perm (l.map (mapR a b c d))) : s = (l.map (mapR a b c d)).foldl (fun l r => putR r l) [] := by
  have hns : (l.map (mapR a b c d)).Pairwise (fun p q => ¬ sameD p q) := by
    refine List.pairwise_map.2 (hl.imp (fun {p q} h e => ?_))
    have := map_inj hd e
    unfold bef sameD at *
    omega
  have hns2 : s.Pairwise (fun p q => ¬ sameD p q) := hp.symm.pairwise hns (fun {p q} h e => h (by unfold sameD at *; omega))
  have hst : StrictR s := (hs.and hns2).imp (fun {p q} h => by
    rcases bef_three p q with h3 | h3 | h3
    · exact h3
    · exact absurd h3 h.2
    · exact absurd h3 h.1)
  obtain ⟨j1, j2, j3⟩ := put_all (l.map (mapR a b c d)) [] List.Pairwise.nil
  refine strict_ext hst j1 (fun dx dy => ?_) (fun dx dy => ?_)
  · rw [j3, hasD_perm hp]
    constructor
    · exact Or.inr
    · rintro (⟨c, hc, _⟩ | h)
      · simp at hc
      · exact h
  · rw [j2, wtR_perm hp]
    simp [wtR]
/-! ### primitive rays -/
def primR (x y : Int) : Ry := ⟨Int.tdiv x (gcdN x y), Int.tdiv y (gcdN x y), gcdN x y⟩
theorem prim_back (x y : Int) : (primR x y).w * (primR x y).x = x ∧ (primR x y).w * (primR x y).y = y := by
  unfold primR gcdN
  simp only
  exact ⟨Int.mul_tdiv_cancel' (Int.gcd_dvd_left ..), Int.mul_tdiv_cancel' (Int.gcd_dvd_right ..)⟩
theorem gcdN_neg (x y : Int) : gcdN (-x) (-y) = gcdN x y := by
  unfold gcdN
  rw [Int.neg_gcd, Int.gcd_neg]
/-- A star with its missing ray is balanced. -/
theorem miss_sum (l : List Ry) : sxR ([primR (-(sxR l)) (-(syR l))].foldl (fun l r => putR r l) l) = 0 ∧ syR ([primR (-(sxR l)) (-(syR l))].foldl (fun l r => putR r l) l) = 0 := by
  obtain ⟨i1, i2⟩ := puts_sum [primR (-(sxR l)) (-(syR l))] l
  obtain ⟨j1, j2⟩ := prim_back (-(sxR l)) (-(syR l))
  rw [i1, i2, sxR, sxR, syR, syR, j1, j2]
  omega
/-! ### valid rays and stars -/
def ryB (r : Ry) : Bool := (inB r.x (-20) 20 && inB r.y (-20) 20) && (decide (gcdN r.x r.y = 1) && inB r.w 1 20)
def upB : List Ry → Bool
  | a :: b :: t => decide (bef a b) && upB (b :: t)
  | _ => true
def starB (l : List Ry) : Bool := decide (l.length ≤ 10) && (l.all ryB && upB l)
theorem upB_strict : ∀ {l : List Ry}, upB l = true → StrictR l
  | [], _ => List.Pairwise.nil
  | [a], _ => by simp [StrictR]
  | a :: b :: t, h => by
    rw [upB, Bool.and_eq_true, decide_eq_true_eq] at h
    have ih := upB_strict h.2
    obtain ⟨h1, h2⟩ := List.pairwise_cons.1 ih
    refine List.pairwise_cons.2 ⟨fun c hc => ?_, ih⟩
    rcases List.mem_cons.1 hc with rfl | hc
    · exact h.1
    · exact bef_trans h.1 (h1 c hc)

theorem upB_snoc : ∀ (l : List Ry) (a r : Ry), upB (l ++ [a]) = true → bef a r → upB (l ++ [a] ++ [r]) = true
  | [], a, r, _, h => by simp [upB, h]
  | [b], a, r, h, h2 => by
    simp only [List.cons_append, List.nil_append, upB, Bool.and_true, decide_eq_true_eq, Bool.and_eq_true] at h ⊢
    exact ⟨h, h2⟩
  | b :: c :: t, a, r, h, h2 => by
    simp only [List.cons_append, upB, decide_eq_true_eq, Bool.and_eq_true] at h ⊢
    exact ⟨h.1, upB_snoc (c :: t) a r h.2 h2⟩
/-- The first k rays are a star's. -/
def GdR (l : List Ry) (k : Nat) : Prop := (l.take k).all ryB = true ∧ upB (l.take k) = true
theorem gd_zero (l : List Ry) : GdR l 0 := by simp [GdR, upB]
theorem takeR_snoc (l : List Ry) (k : Nat) (h : k < l.length) : l.take (k + 1) = l.take k ++ [l.getD k default] := by
  rw [List.take_succ_eq_append_getElem h, List.getD_eq_getElem?_getD, List.getElem?_eq_getElem h, Option.getD_some]
theorem gd_next {l : List Ry} {k : Nat} (hk : k < l.length) (h : GdR l k) (h1 : ryB (l.getD k default) = true) (h2 : k = 0 ∨ bef (l.getD (k - 1) default) (l.getD k default)) : GdR l (k + 1) := by
  obtain ⟨g1, g2⟩ := h
  unfold GdR
  rw [takeR_snoc l k hk]
  refine ⟨by rw [List.all_append, g1, List.all_cons, h1]; rfl, ?_⟩
  rcases Nat.eq_zero_or_pos k with h0 | h0
  · subst h0; simp [upB]
  · have hb := h2.resolve_left (by omega)
    have e := takeR_snoc l (k - 1) (by omega)
    rw [show k - 1 + 1 = k by omega] at e
    rw [e] at g2 ⊢
    exact upB_snoc _ _ _ g2 hb
theorem gd_all {l : List Ry} (h : GdR l l.length) : starB l = decide (l.length ≤ 10) := by
  unfold GdR at h
  rw [List.take_length] at h
  unfold starB
  rw [h.1, h.2]
  simp
theorem star_ray {l : List Ry} {k : Nat} (hk : k < l.length) (h : ryB (l.getD k default) = false) : starB l = false := by
  cases e : starB l with
  | false => rfl
  | true =>
    unfold starB at e
    rw [Bool.and_eq_true, Bool.and_eq_true] at e
    have := List.all_eq_true.1 e.2.1 (l.getD k default) (by
      rw [List.getD_eq_getElem?_getD, List.getElem?_eq_getElem hk, Option.getD_some]
      exact List.getElem_mem _)
    rw [this] at h
    cases h
theorem star_bef {l : List Ry} {k : Nat} (hk : k + 1 < l.length) (h : ¬ bef (l.getD k default) (l.getD (k + 1) default)) : starB l = false := by
  cases e : starB l with
  | false => rfl
  | true =>
    unfold starB at e
    rw [Bool.and_eq_true, Bool.and_eq_true] at e
    have := List.pairwise_iff_getElem.1 (upB_strict e.2.2) k (k + 1) (by omega) hk (by omega)
    refine absurd ?_ h
    rw [List.getD_eq_getElem?_getD, List.getD_eq_getElem?_getD, List.getElem?_eq_getElem hk, List.getElem?_eq_getElem (show k < l.length by omega), Option.getD_some, Option.getD_some]
    exact this
theorem star_long {l : List Ry} (h : 10 < l.length) : starB l = false := by
  unfold starB
  rw [decide_eq_false (by omega)]
  rfl
theorem star_of {l : List Ry} (h : starB l = true) : l.length ≤ 10 ∧ (∀ r ∈ l, ryB r = true) ∧ StrictR l := by
  unfold starB at h
  rw [Bool.and_eq_true, Bool.and_eq_true, decide_eq_true_eq] at h
  exact ⟨h.1, List.all_eq_true.1 h.2.1, upB_strict h.2.2⟩
theorem ry_of {r : Ry} (h : ryB r = true) : (-20 ≤ r.x ∧ r.x ≤ 20) ∧ (-20 ≤ r.y ∧ r.y ≤ 20) ∧ (1 ≤ r.w ∧ r.w ≤ 20) ∧ gcdN r.x r.y = 1 := by
  unfold ryB inB at h
  simp only [Bool.and_eq_true, decide_eq_true_eq] at h
  omega
theorem strict_up : ∀ {l : List Ry}, StrictR l → upB l = true
  | [], _ => rfl
  | [a], _ => rfl
  | a :: b :: t, h => by
    obtain ⟨h1, h2⟩ := List.pairwise_cons.1 h
    rw [upB, strict_up h2, decide_eq_true (h1 b List.mem_cons_self)]
    rfl
/-- The sums of a star are small. -/
theorem sum_b : ∀ {l : List Ry}, (∀ r ∈ l, ryB r = true) → (-(400 * (l.length : Int)) ≤ sxR l ∧ sxR l ≤ 400 * (l.length : Int)) ∧ -(400 * (l.length : Int)) ≤ syR l ∧ syR l ≤ 400 * (l.length : Int)
  | [], _ => by simp [sxR, syR]
  | r :: t, h => by
    have ih := sum_b (l := t) (fun r hr => h r (List.mem_cons_of_mem _ hr))
    obtain ⟨h1, h2, h3, _⟩ := ry_of (h r List.mem_cons_self)
    have k1 := mulbS (k := r.w) (m := r.x) (K := 20) (M := 20) (by omega) (by omega) (by omega)
    have k2 := mulbS (k := r.w) (m := r.y) (K := 20) (M := 20) (by omega) (by omega) (by omega)
    rw [sxR, syR, List.length_cons]
    omega

end Go.Proofs.Ytlplodkabeiimaa
