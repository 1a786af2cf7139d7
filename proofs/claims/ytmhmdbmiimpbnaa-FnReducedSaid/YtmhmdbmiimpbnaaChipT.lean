/-
  Chips on a graph, plainly: sums, what firing does, potentials, the least script, burning. No program in sight.
-/
import Derived.Test.YtmhmdbmiimpbnaaConn
namespace Go.Proofs.Ytmhmdbmiimpbnaa

/-! ### Sums over 0..N-1 -/
def sm : Nat → (Nat → Int) → Int
  | 0, _ => 0
  | k + 1, f => sm k f + f k
theorem sm_congr : ∀ {N : Nat} {f g : Nat → Int}, (∀ i, i < N → f i = g i) → sm N f = sm N g
  | 0, _, _, _ => rfl
  | k + 1, f, g, h => by simp only [sm]; rw [sm_congr (fun i hi => h i (by omega)), h k (by omega)]
theorem sm_add (N : Nat) (f g : Nat → Int) : sm N (fun i => f i + g i) = sm N f + sm N g := by
  induction N with
  | zero => rfl
  | succ k ih => simp only [sm, ih]; omega
theorem sm_sub (N : Nat) (f g : Nat → Int) : sm N (fun i => f i - g i) = sm N f - sm N g := by
  induction N with
  | zero => rfl
  | succ k ih => simp only [sm, ih]; omega
theorem sm_mul (N : Nat) (c : Int) (f : Nat → Int) : sm N (fun i => c * f i) = c * sm N f := by
  induction N with
  | zero => simp [sm]
  | succ k ih => simp only [sm, ih, Int.mul_add]
theorem sm_mul_right (N : Nat) (c : Int) (f : Nat → Int) : sm N (fun i => f i * c) = sm N f * c := by
  rw [sm_congr (g := fun i => c * f i) (fun i _ => Int.mul_comm _ _), sm_mul, Int.mul_comm]
theorem sm_mono : ∀ {N : Nat} {f g : Nat → Int}, (∀ i, i < N → f i ≤ g i) → sm N f ≤ sm N g
  | 0, _, _, _ => Int.le_refl _
  | k + 1, f, g, h => by
    have := sm_mono (N := k) (f := f) (g := g) (fun i hi => h i (by omega))
    have := h k (by omega)
    simp only [sm]; omega
theorem sm_zero (N : Nat) : sm N (fun _ => 0) = 0 := by
  induction N with
  | zero => rfl
  | succ k ih => simp only [sm, ih]; rfl
theorem sm_nonneg {N : Nat} {f : Nat → Int} (h : ∀ i, i < N → 0 ≤ f i) : 0 ≤ sm N f := by
  have := sm_mono (N := N) (f := fun _ => 0) (g := f) h
  rwa [sm_zero] at this
theorem sm_const (N : Nat) (c : Int) : sm N (fun _ => c) = N * c := by
  induction N with
  | zero => simp [sm]
  | succ k ih => simp only [sm, ih]; rw [Int.natCast_add, Int.add_mul]; omega
theorem sm_one (N v : Nat) (x : Int) : sm N (fun i => if i = v then x else 0) = if v < N then x else 0 := by
  induction N with
  | zero => rfl
  | succ k ih =>
    simp only [sm, ih]
    by_cases e : k = v
    · subst e; simp
    · rw [if_neg e]
      by_cases h : v < k
      · rw [if_pos h, if_pos (by omega)]; omega
      · rw [if_neg h, if_neg (by omega)]; rfl
theorem sm_swap (N M : Nat) (f : Nat → Nat → Int) : sm N (fun i => sm M (fun j => f i j)) = sm M (fun j => sm N (fun i => f i j)) := by
  induction N with
  | zero => simp only [sm]; rw [sm_zero]
  | succ k ih => simp only [sm, ih]; rw [sm_add]
theorem sm_at {N : Nat} {f : Nat → Int} {v : Nat} (hv : v < N) (h : ∀ i, i < N → 0 ≤ f i) : f v ≤ sm N f := by
  have h1 := sm_one N v (f v)
  rw [if_pos hv] at h1
  rw [← h1]
  exact sm_mono fun i hi => by
    by_cases e : i = v
    · subst e; rw [if_pos rfl]; exact Int.le_refl _
    · rw [if_neg e]; exact h i hi
/-- One place changed. -/
theorem sm_upd {N : Nat} {f : Nat → Int} {v : Nat} (hv : v < N) (x : Int) : sm N (fun i => if i = v then x else f i) = sm N f + (x - f v) := by
  have : sm N (fun i => if i = v then x else f i) = sm N (fun i => f i + if i = v then x - f v else 0) := sm_congr fun i _ => by
    by_cases e : i = v
    · subst e; rw [if_pos rfl, if_pos rfl]; omega
    · rw [if_neg e, if_neg e]; omega
  rw [this, sm_add, sm_one, if_pos hv]
theorem outF_sm (bet : Nat → Nat → Int) (m : List Int) (v : Nat) : ∀ k, outF bet m v k = sm k fun u => if m.getD u 0 = 0 then bet v u else 0
  | 0 => rfl
  | k + 1 => by rw [outF_succ, outF_sm bet m v k]; rfl

/-! ### Graphs -/
structure Gr (N : Nat) (bet : Nat → Nat → Int) (val : Nat → Int) : Prop where
  sym : ∀ i j, bet i j = bet j i
  nn : ∀ i j, 0 ≤ bet i j
  le : ∀ i j, bet i j ≤ 5
  dg : ∀ i, bet i i = 0
  vs : ∀ i, i < N → val i = sm N (bet i)

theorem valF_sm {n : Int} {ls : List Lk} {N : Nat} (hn : n = N) (hg : goodL n ls = true) (v : Nat) (hv : v < N) : ∀ k, k ≤ ls.length → valF (ls.take k) v = sm N (betF (ls.take k) v)
  | 0, _ => by
    rw [List.take_zero, valF_nil, sm_congr (g := fun _ => 0) (fun i _ => betF_nil _ _), sm_zero]
  | k + 1, hk => by
    have ih := valF_sm hn hg v hv k (by omega)
    obtain ⟨x, hx⟩ : ∃ x, ls.getD k Lk.z = x := ⟨_, rfl⟩
    have hgl := good_lk hg (k := k) (by omega) hx
    rw [take_snoc ls k Lk.z (by omega), hx, valF_snoc, ih, sm_congr (fun i _ => betF_snoc _ _ _ _), sm_add]
    congr 1
    obtain ⟨a, ha⟩ : ∃ a : Nat, x.a = a := ⟨x.a.toNat, by omega⟩
    obtain ⟨b, hb⟩ : ∃ b : Nat, x.b = b := ⟨x.b.toNat, by omega⟩
    rw [ha, hb]
    have e : ∀ i, i < N → (if ((a : Int) = (v : Int) ∧ (b : Int) = (i : Int)) ∨ ((a : Int) = (i : Int) ∧ (b : Int) = (v : Int)) then x.n else 0) = (if i = b then (if (a : Int) = v then x.n else 0) else 0) + (if i = a then (if (b : Int) = v then x.n else 0) else 0) := by
      intro i hi
      by_cases e1 : i = b
      · by_cases e2 : i = a
        · omega
        · subst e1
          rw [if_pos rfl, if_neg e2]
          by_cases e3 : (a : Int) = v
          · rw [if_pos e3, if_pos (Or.inl ⟨e3, rfl⟩)]; omega
          · rw [if_neg e3, if_neg (by omega)]; rfl
      · by_cases e2 : i = a
        · subst e2
          rw [if_neg e1, if_pos rfl]
          by_cases e3 : (b : Int) = v
          · rw [if_pos e3, if_pos (Or.inr ⟨rfl, e3⟩)]; omega
          · rw [if_neg e3, if_neg (by omega)]; rfl
        · rw [if_neg e1, if_neg e2, if_neg (by omega)]; rfl
    rw [sm_congr e, sm_add, sm_one, sm_one, if_pos (show b < N by omega), if_pos (show a < N by omega), Int.add_comm]

theorem gr_of {n : Int} {ls : List Lk} {N : Nat} (hn : n = N) (hg : goodL n ls = true) : Gr N (betF ls) (valF ls) := by
  have hb := fun i j => betF_bound hg ls.length i j
  rw [List.take_length] at hb
  refine ⟨betF_symm ls, fun i j => (hb i j).1, fun i j => (hb i j).2, fun i => ?_, fun i hi => ?_⟩
  · have hp := betF_pos_iff hg ls.length (Nat.le_refl _) i i
    rw [List.take_length] at hp
    have h0 := (hb i i).1
    by_cases h : 0 < betF ls i i
    · obtain ⟨m, hm, h'⟩ := hp.1 h
      obtain ⟨x, hx⟩ : ∃ x, ls.getD m Lk.z = x := ⟨_, rfl⟩
      have hgl := good_lk hg hm hx
      rw [hx] at h'
      omega
    · omega
  · have := valF_sm hn hg i hi ls.length (Nat.le_refl _)
    rwa [List.take_length] at this

section
variable {N : Nat} {bet : Nat → Nat → Int} {val : Nat → Int}

theorem Gr.val_nn (g : Gr N bet val) {i : Nat} (hi : i < N) : 0 ≤ val i := by rw [g.vs i hi]; exact sm_nonneg fun j _ => g.nn i j
theorem Gr.val_le (g : Gr N bet val) (hN : N ≤ 8) {i : Nat} (hi : i < N) : val i ≤ 35 := by
  rw [g.vs i hi]
  have e : sm N (bet i) ≤ sm N (fun j => 5 - if j = i then 5 else 0) := sm_mono fun j _ => by
    by_cases q : j = i
    · subst q; rw [g.dg, if_pos rfl]; omega
    · rw [if_neg q]; have := g.le i j; omega
  rw [sm_sub, sm_const, sm_one, if_pos hi] at e
  omega
theorem lap_sym (g : Gr N bet val) (i j : Nat) : lapE bet val i j = lapE bet val j i := by
  unfold lapE
  by_cases e : i = j
  · subst e; rfl
  · rw [if_neg e, if_neg (Ne.symm e), g.sym]
/-- A row's sum with weights. -/
theorem lap_row (g : Gr N bet val) {v : Nat} (hv : v < N) (f : Nat → Int) : sm N (fun j => lapE bet val v j * f j) = sm N (fun j => bet v j * (f v - f j)) := by
  have e : sm N (fun j => lapE bet val v j * f j) = sm N (fun j => (if j = v then val v * f v else 0) - bet v j * f j) := sm_congr fun j _ => by
    unfold lapE
    by_cases q : j = v
    · subst q; rw [if_pos rfl, if_pos rfl, g.dg]; omega
    · rw [if_neg (Ne.symm q), if_neg q, Int.neg_mul]; omega
  rw [e, sm_sub, sm_one, if_pos hv, sm_congr (g := fun j => bet v j * f v - bet v j * f j) (fun j _ => Int.mul_sub _ _ _), sm_sub, sm_mul_right, ← g.vs v hv]
theorem lap_zero (g : Gr N bet val) {v : Nat} (hv : v < N) : sm N (fun j => lapE bet val v j) = 0 := by
  have := lap_row g hv (fun _ => 1)
  rw [sm_congr (g := fun j => lapE bet val v j) (fun j _ => Int.mul_one _), sm_congr (g := fun _ => 0) (N := N) (f := fun j => bet v j * (1 - 1)) (fun j _ => by simp), sm_zero] at this
  exact this

/-- What a script takes away at place j. -/
def ap (N : Nat) (bet : Nat → Nat → Int) (val : Nat → Int) (s : Nat → Int) (j : Nat) : Int := sm N fun v => s v * lapE bet val v j
theorem ap_congr {s t : Nat → Int} (h : ∀ v, v < N → s v = t v) (j : Nat) : ap N bet val s j = ap N bet val t j := sm_congr fun v hv => by rw [h v hv]
theorem ap_zero (j : Nat) : ap N bet val (fun _ => 0) j = 0 := by
  unfold ap
  rw [sm_congr (g := fun _ => 0) (fun v _ => Int.zero_mul _), sm_zero]
theorem ap_add (s t : Nat → Int) (j : Nat) : ap N bet val (fun v => s v + t v) j = ap N bet val s j + ap N bet val t j := by
  unfold ap
  rw [sm_congr (fun v _ => Int.add_mul _ _ _), sm_add]
theorem ap_upd {v : Nat} (hv : v < N) (s : Nat → Int) (k : Int) (j : Nat) : ap N bet val (fun i => if i = v then s v + k else s i) j = ap N bet val s j + k * lapE bet val v j := by
  unfold ap
  have : sm N (fun i => (if i = v then s v + k else s i) * lapE bet val i j) = sm N (fun i => s i * lapE bet val i j + if i = v then k * lapE bet val v j else 0) := sm_congr fun i _ => by
    by_cases e : i = v
    · subst e; rw [if_pos rfl, if_pos rfl, Int.add_mul]
    · rw [if_neg e, if_neg e]; omega
  rw [this, sm_add, sm_one, if_pos hv]
theorem ap_eq (g : Gr N bet val) {j : Nat} (hj : j < N) (s : Nat → Int) : ap N bet val s j = s j * val j - sm N (fun u => s u * bet u j) := by
  unfold ap
  have : sm N (fun v => s v * lapE bet val v j) = sm N (fun v => (if v = j then s j * val j else 0) - s v * bet v j) := sm_congr fun v _ => by
    unfold lapE
    by_cases e : v = j
    · subst e; rw [if_pos rfl, if_pos rfl, g.dg]; omega
    · rw [if_neg e, if_neg e, Int.mul_neg]; omega
  rw [this, sm_sub, sm_one, if_pos hj]
theorem ap_le {s t : Nat → Int} (g : Gr N bet val) {j : Nat} (hj : j < N) (h : ∀ v, v < N → s v ≤ t v) (e : s j = t j) : ap N bet val t j ≤ ap N bet val s j := by
  rw [ap_eq g hj, ap_eq g hj, e]
  have := sm_mono (N := N) (f := fun u => s u * bet u j) (g := fun u => t u * bet u j) fun u hu => Int.mul_le_mul_of_nonneg_right (h u hu) (g.nn u j)
  omega
theorem ap_sum (g : Gr N bet val) (s : Nat → Int) : sm N (fun j => ap N bet val s j) = 0 := by
  unfold ap
  rw [sm_swap]
  rw [sm_congr (g := fun _ => 0) (fun v hv => ?_), sm_zero]
  rw [sm_mul, lap_zero g hv, Int.mul_zero]
theorem ap_pot (f s : Nat → Int) : sm N (fun j => f j * ap N bet val s j) = sm N (fun v => s v * sm N (fun j => lapE bet val v j * f j)) := by
  unfold ap
  rw [sm_congr (g := fun j => sm N (fun v => f j * (s v * lapE bet val v j))) (fun j _ => (sm_mul _ _ _).symm), sm_swap]
  refine sm_congr fun v _ => ?_
  rw [← sm_mul]
  refine sm_congr fun j _ => ?_
  rw [Int.mul_left_comm, Int.mul_comm (f j)]

/-! ### A potential that every firing away from q lowers -/
structure Pot (N : Nat) (bet : Nat → Nat → Int) (val : Nat → Int) (q : Nat) (f : Nat → Int) : Prop where
  q0 : f q = 0
  nn : ∀ v, 0 ≤ f v
  pos : ∀ v, v < N → v ≠ q → 1 ≤ f v
  up : ∀ v, f v ≤ 100000000000
  lap : ∀ v, v < N → v ≠ q → 1 ≤ sm N (fun j => lapE bet val v j * f j)

def gG : Nat → Int
  | 0 => 0
  | k + 1 => 36 * gG k + 1
theorem gG_nn : ∀ k, 0 ≤ gG k
  | 0 => Int.le_refl _
  | k + 1 => by have := gG_nn k; simp only [gG]; omega
theorem gG_mono : ∀ {k m : Nat}, k ≤ m → gG k ≤ gG m
  | k, 0, h => by rw [show k = 0 by omega]; exact Int.le_refl _
  | k, m + 1, h => by
    by_cases e : k = m + 1
    · subst e; exact Int.le_refl _
    · have := gG_mono (k := k) (m := m) (by omega)
      have := gG_nn m
      simp only [gG]; omega
theorem gG_8 : gG 8 ≤ 100000000000 := by simp [gG]

theorem pot_of {q : Nat} (g : Gr N bet val) (hN : N ≤ 8) (r : Nat → Nat) (hq : r q = 0) (hr : ∀ v, v < N → v ≠ q → r v < 8 ∧ ∃ u, u < N ∧ 0 < bet v u ∧ r u < r v) : Pot N bet val q (fun v => gG 8 - gG (8 - r v)) := by
  refine ⟨by simp [hq], fun v => ?_, fun v hv hvq => ?_, fun v => ?_, fun v hv hvq => ?_⟩
  · have := gG_mono (k := 8 - r v) (m := 8) (by omega); omega
  · obtain ⟨h8, u, hu, _, hlt⟩ := hr v hv hvq
    have h1 := gG_mono (k := 8 - r v + 1) (m := 8) (by omega)
    have := gG_nn (8 - r v)
    simp only [gG] at h1 ⊢; omega
  · have := gG_nn (8 - r v); have := gG_8; omega
  · obtain ⟨h8, u, hu, hb, hlt⟩ := hr v hv hvq
    rw [lap_row g hv]
    have hm := gG_nn (8 - r v)
    generalize hG : gG (8 - r v) = G at hm
    have hu1 : 36 * G + 1 ≤ gG (8 - r u) := by
      have := gG_mono (k := 8 - r v + 1) (m := 8 - r u) (by omega)
      simp only [gG] at this
      rwa [hG] at this
    have low : sm N (fun j => bet v j * (-G) + if j = u then bet v u * (36 * G + 1) else 0) ≤ sm N (fun j => bet v j * ((gG 8 - G) - (gG 8 - gG (8 - r j)))) := sm_mono fun j _ => by
      have hn := g.nn v j
      by_cases e : j = u
      · subst e
        rw [if_pos rfl, ← Int.mul_add]
        exact Int.mul_le_mul_of_nonneg_left (by omega) hn
      · rw [if_neg e, Int.add_zero]
        have := gG_nn (8 - r j)
        exact Int.mul_le_mul_of_nonneg_left (by omega) hn
    rw [sm_add, sm_mul_right, sm_one, if_pos hu, ← g.vs v hv] at low
    have hvl := g.val_le hN hv
    have h1 : val v * (-G) ≥ 35 * (-G) := Int.mul_le_mul_of_nonpos_right hvl (by omega)
    have h2 : 1 * (36 * G + 1) ≤ bet v u * (36 * G + 1) := Int.mul_le_mul_of_nonneg_right (by omega) (by omega)
    omega
end

end Go.Proofs.Ytmhmdbmiimpbnaa
