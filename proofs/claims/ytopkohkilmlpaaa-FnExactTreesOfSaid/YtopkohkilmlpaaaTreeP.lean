/-
  Spanning trees, plainly: leaving a link out or drawing it together, and the determinant, for five vertices or fewer. No program in sight.
-/
import Derived.Test.YtopkohkilmlpaaaChipT
namespace Go.Proofs.Ytopkohkilmlpaaa

def replL (g : List Int) (b a : Int) : List Int := g.map fun x => if x = b then a else x
def treesL : List Int → List Lk → Int
  | g, [] => if g.all (fun x => x == g.getD 0 0) then 1 else 0
  | g, x :: l => treesL g l + if g.getD x.a.toNat 0 = g.getD x.b.toNat 0 then 0 else x.n * treesL (replL g (g.getD x.b.toNat 0) (g.getD x.a.toNat 0)) l
def sg (c : Nat) : Int := if c % 2 = 0 then 1 else -1
theorem sg_succ (c : Nat) : sg (c + 1) = - sg c := by
  unfold sg
  by_cases h : c % 2 = 0
  · rw [if_pos h, if_neg (by omega)]
  · rw [if_neg h, if_pos (by omega)]; rfl
def minF (m : Nat → Nat → Int) (c : Nat) (i j : Nat) : Int := m (i + 1) (if j < c then j else j + 1)
def detF : Nat → (Nat → Nat → Int) → Int
  | 0, _ => 1
  | k + 1, m => sm (k + 1) fun c => sg c * m 0 c * detF k (minF m c)
theorem detF_congr : ∀ {k : Nat} {m m' : Nat → Nat → Int}, (∀ i j, i < k → j < k → m i j = m' i j) → detF k m = detF k m'
  | 0, _, _, _ => rfl
  | k + 1, m, m', h => sm_congr fun c hc => by
    rw [h 0 c (by omega) hc, detF_congr (m := minF m c) (m' := minF m' c) (fun i j hi hj => by
      unfold minF
      exact h _ _ (by omega) (by split <;> omega))]
def dB : Nat → Int
  | 0 => 1
  | k + 1 => (k + 1) * (20 * dB k)
theorem dB_nn : ∀ k, 0 ≤ dB k
  | 0 => by simp [dB]
  | k + 1 => Int.mul_nonneg (by omega) (Int.mul_nonneg (by omega) (dB_nn k))
theorem mul_bd {a b A B : Int} (ha : -A ≤ a ∧ a ≤ A) (hb : -B ≤ b ∧ b ≤ B) : -(A * B) ≤ a * b ∧ a * b ≤ A * B := by
  have hA : 0 ≤ A := by omega
  have hB : 0 ≤ B := by omega
  by_cases h : 0 ≤ a
  · have h1 := Int.mul_le_mul_of_nonneg_left hb.2 h
    have h2 := Int.mul_le_mul_of_nonneg_left hb.1 h
    have h3 := Int.mul_le_mul_of_nonneg_right ha.2 hB
    rw [Int.mul_neg] at h2
    omega
  · have h1 := Int.mul_le_mul_of_nonpos_left (show a ≤ 0 by omega) hb.2
    have h2 := Int.mul_le_mul_of_nonpos_left (show a ≤ 0 by omega) hb.1
    have h3 := Int.mul_le_mul_of_nonneg_right ha.1 hB
    rw [Int.mul_neg] at h2
    rw [Int.neg_mul] at h3
    omega
theorem sm_bd {N : Nat} {f : Nat → Int} {B : Int} (h : ∀ i, i < N → -B ≤ f i ∧ f i ≤ B) : ∀ k, k ≤ N → -(k * B) ≤ sm k f ∧ sm k f ≤ k * B := fun k hk => by
  have h1 := sm_mono (N := k) (f := f) (g := fun _ => B) (fun i hi => (h i (by omega)).2)
  have h2 := sm_mono (N := k) (f := fun _ => -B) (g := f) (fun i hi => (h i (by omega)).1)
  rw [sm_const] at h1 h2
  rw [Int.mul_neg] at h2
  omega
theorem det_term {k : Nat} {m : Nat → Nat → Int} (hm : ∀ i j, i < k + 1 → j < k + 1 → -20 ≤ m i j ∧ m i j ≤ 20) (hd : ∀ c, c < k + 1 → -dB k ≤ detF k (minF m c) ∧ detF k (minF m c) ≤ dB k) (c : Nat) (hc : c < k + 1) :
    (-20 ≤ sg c * m 0 c ∧ sg c * m 0 c ≤ 20) ∧ -(20 * dB k) ≤ sg c * m 0 c * detF k (minF m c) ∧ sg c * m 0 c * detF k (minF m c) ≤ 20 * dB k := by
  have h1 := hm 0 c (by omega) hc
  have h2 : -20 ≤ sg c * m 0 c ∧ sg c * m 0 c ≤ 20 := by
    unfold sg
    split <;> omega
  exact ⟨h2, mul_bd h2 (hd c hc)⟩
theorem detF_bd : ∀ {k : Nat} {m : Nat → Nat → Int}, (∀ i j, i < k → j < k → -20 ≤ m i j ∧ m i j ≤ 20) → -dB k ≤ detF k m ∧ detF k m ≤ dB k
  | 0, _, _ => by simp [detF, dB]
  | k + 1, m, h => by
    have ih := fun c (_ : c < k + 1) => detF_bd (k := k) (m := minF m c) (fun i j hi hj => by
      unfold minF
      exact h _ _ (by omega) (by split <;> omega))
    have := sm_bd (N := k + 1) (f := fun c => sg c * m 0 c * detF k (minF m c)) (B := 20 * dB k) (fun c hc => (det_term h ih c hc).2) (k + 1) (Nat.le_refl _)
    have e : ((k + 1 : Nat) : Int) * (20 * dB k) = dB (k + 1) := by simp [dB]
    rw [e] at this
    exact this

/-! ### All pairs -/
def fullL (N : Nat) (w : Nat → Nat → Int) : List Lk := (List.range N).flatMap fun a => (List.range (N - a - 1)).map fun i => ⟨(a : Int), ((a + 1 + i : Nat) : Int), w a (a + 1 + i)⟩
theorem mem_fullL {N : Nat} {w : Nat → Nat → Int} {x : Lk} : x ∈ fullL N w ↔ ∃ a b : Nat, a < b ∧ b < N ∧ x = ⟨a, b, w a b⟩ := by
  unfold fullL
  simp only [List.mem_flatMap, List.mem_map, List.mem_range]
  constructor
  · rintro ⟨a, ha, i, hi, rfl⟩
    exact ⟨a, a + 1 + i, by omega, by omega, rfl⟩
  · rintro ⟨a, b, hab, hb, rfl⟩
    refine ⟨a, by omega, b - a - 1, by omega, ?_⟩
    rw [show a + 1 + (b - a - 1) = b by omega]
def slt (x y : Lk) : Prop := x.a < y.a ∨ (x.a = y.a ∧ x.b < y.b)
theorem fullL_sorted (N : Nat) (w : Nat → Nat → Int) : (fullL N w).Pairwise slt := by
  unfold fullL
  rw [List.pairwise_flatMap]
  refine ⟨fun a _ => ?_, ?_⟩
  · rw [List.pairwise_map]
    exact List.pairwise_lt_range.imp fun h => Or.inr ⟨rfl, by simp only; omega⟩
  · refine List.pairwise_lt_range.imp fun {a b} h x hx y hy => ?_
    obtain ⟨i, _, rfl⟩ := List.mem_map.1 hx
    obtain ⟨j, _, rfl⟩ := List.mem_map.1 hy
    exact Or.inl (by simp only; omega)
theorem sorted_ext : ∀ {l1 l2 : List Lk}, l1.Pairwise slt → l2.Pairwise slt → (∀ x, x ∈ l1 ↔ x ∈ l2) → l1 = l2
  | [], [], _, _, _ => rfl
  | [], y :: s, _, _, h => absurd ((h y).2 List.mem_cons_self) (by simp)
  | x :: t, [], _, _, h => absurd ((h x).1 List.mem_cons_self) (by simp)
  | x :: t, y :: s, h1, h2, h => by
    rw [List.pairwise_cons] at h1 h2
    have hxy : x = y := by
      rcases List.mem_cons.1 ((h x).1 List.mem_cons_self) with e | e
      · exact e
      · rcases List.mem_cons.1 ((h y).2 List.mem_cons_self) with e' | e'
        · exact e'.symm
        · have a1 := h2.1 x e
          have a2 := h1.1 y e'
          unfold slt at a1 a2
          omega
    subst hxy
    rw [sorted_ext h1.2 h2.2 fun z => ?_]
    constructor
    · intro hz
      rcases List.mem_cons.1 ((h z).1 (List.mem_cons_of_mem _ hz)) with e | e
      · subst e
        have := h1.1 z hz
        unfold slt at this
        omega
      · exact e
    · intro hz
      rcases List.mem_cons.1 ((h z).2 (List.mem_cons_of_mem _ hz)) with e | e
      · subst e
        have := h2.1 z hz
        unfold slt at this
        omega
      · exact e
theorem treesL_filter : ∀ (l : List Lk) (g : List Int), treesL g (l.filter fun x => x.n ≠ 0) = treesL g l
  | [], _ => rfl
  | x :: l, g => by
    by_cases h : x.n = 0
    · rw [List.filter_cons_of_neg (by simpa using h), treesL_filter l g]
      simp only [treesL, h]
      split <;> omega
    · rw [List.filter_cons_of_pos (by simpa using h)]
      simp only [treesL]
      rw [treesL_filter l g, treesL_filter l]
theorem betF_mem {n : Int} {ls : List Lk} (hg : goodL n ls = true) {x : Lk} (hx : x ∈ ls) : betF ls x.a.toNat x.b.toNat = x.n := by
  obtain ⟨m, hm, e⟩ := List.getElem_of_mem hx
  have hxm : ls.getD m Lk.z = x := by simp [List.getD, hm, e]
  have hgl := good_lk hg hm hxm
  obtain ⟨a, ha⟩ : ∃ a : Nat, x.a = a := ⟨x.a.toNat, by omega⟩
  obtain ⟨b, hb⟩ : ∃ b : Nat, x.b = b := ⟨x.b.toNat, by omega⟩
  have key : ∀ k, m < k → k ≤ ls.length → betF (ls.take k) a b = x.n := by
    intro k
    induction k with
    | zero => intro h; omega
    | succ k ih =>
      intro h1 h2
      obtain ⟨y, hy⟩ : ∃ y, ls.getD k Lk.z = y := ⟨_, rfl⟩
      have hgy := good_lk hg (k := k) (by omega) hy
      rw [betF_step hg (by omega) hy]
      by_cases e : k = m
      · subst e
        rw [hxm] at hy
        subst hy
        rw [if_pos (Or.inl ⟨ha, hb⟩)]
      · have hlt := good_lt hg (i := m) (k := k) (by omega) (by omega)
        rw [hxm, hy] at hlt
        simp only [lkLt, decide_eq_true_eq] at hlt
        rw [if_neg (by omega)]
        exact ih (by omega) (by omega)
  have := key ls.length hm (Nat.le_refl _)
  rw [List.take_length] at this
  rw [ha, hb, Int.toNat_natCast, Int.toNat_natCast]
  exact this
theorem links_full {n : Int} {ls : List Lk} {N : Nat} (hn : n = N) (hg : goodL n ls = true) : ls = (fullL N (betF ls)).filter fun x => x.n ≠ 0 := by
  refine sorted_ext ?_ ((fullL_sorted N _).filter _) fun x => ?_
  · rw [List.pairwise_iff_getElem]
    intro i j hi hj hij
    have := good_lt hg hij hj
    simp only [lkLt, decide_eq_true_eq, List.getD, List.getElem?_eq_getElem hi, List.getElem?_eq_getElem hj, Option.getD_some] at this
    exact this
  · rw [List.mem_filter, mem_fullL]
    constructor
    · intro hx
      have h1 := good_mem hg hx
      have h2 := betF_mem hg hx
      refine ⟨⟨x.a.toNat, x.b.toNat, by omega, by omega, ?_⟩, by simp; omega⟩
      rw [h2, Int.toNat_of_nonneg (by omega), Int.toNat_of_nonneg (by omega)]
    · rintro ⟨⟨a, b, hab, hb, rfl⟩, hne⟩
      have hb0 := betF_bound hg ls.length a b
      rw [List.take_length] at hb0
      simp at hne
      have hp := betF_pos_iff hg ls.length (Nat.le_refl _) a b
      rw [List.take_length] at hp
      obtain ⟨m, hm, h'⟩ := hp.1 (by omega)
      obtain ⟨y, hy⟩ : ∃ y, ls.getD m Lk.z = y := ⟨_, rfl⟩
      have hgl := good_lk hg hm hy
      rw [hy] at h'
      have hym : y ∈ ls := by rw [← hy]; simp [List.getD, hm]
      have h2 := betF_mem hg hym
      have ea : y.a = a := by omega
      have eb : y.b = b := by omega
      rw [ea, eb, Int.toNat_natCast, Int.toNat_natCast] at h2
      have : y = ⟨a, b, betF ls a b⟩ := by
        obtain ⟨ya, yb, yn⟩ := y
        simp only at ea eb h2
        rw [ea, eb, h2]
      rw [← this]
      exact hym
theorem treesL_bd : ∀ (l : List Lk) (g : List Int), (∀ x ∈ l, 0 ≤ x.n ∧ x.n ≤ 5) → 0 ≤ treesL g l ∧ treesL g l ≤ 6 ^ l.length
  | [], g, _ => by simp only [treesL]; split <;> simp
  | x :: l, g, h => by
    have hx := h x List.mem_cons_self
    have ih := treesL_bd l g (fun y hy => h y (List.mem_cons_of_mem _ hy))
    have ih2 := treesL_bd l (replL g (g.getD x.b.toNat 0) (g.getD x.a.toNat 0)) (fun y hy => h y (List.mem_cons_of_mem _ hy))
    simp only [treesL, List.length_cons, Int.pow_succ]
    have h1 := Int.mul_nonneg hx.1 ih2.1
    have h2 := Int.mul_le_mul hx.2 ih2.2 ih2.1 (by omega)
    split <;> omega

/-! ### The determinant counts the trees -/
def idL (N : Nat) : List Int := tab N fun i => (i : Int)
set_option maxHeartbeats 4000000 in
set_option maxRecDepth 100000 in
theorem tree_det2 (bet : Nat → Nat → Int) (val : Nat → Int) (hs : ∀ i j, bet i j = bet j i) (hd : ∀ i, bet i i = 0) (hv : ∀ i, i < 2 → val i = 0 + bet i 0 + bet i 1) :
    treesL [0,1] [⟨0,1,bet 0 1⟩] = detF 1 (fun i j => lapE bet val (i+1) (j+1)) := by
  have h1 : val 1 = bet 0 1 := by rw [hv 1 (by omega), hd 1, hs 1 0]; omega
  simp [detF, sm, sg, lapE, h1]
  clear h1 hv hs hd
  generalize bet 0 1 = a
  simp [treesL, replL]
set_option maxHeartbeats 4000000 in
set_option maxRecDepth 100000 in
theorem tree_det3 (bet : Nat → Nat → Int) (val : Nat → Int) (hs : ∀ i j, bet i j = bet j i) (hd : ∀ i, bet i i = 0) (hv : ∀ i, i < 3 → val i = 0 + bet i 0 + bet i 1 + bet i 2) :
    treesL [0,1,2] [⟨0,1,bet 0 1⟩,⟨0,2,bet 0 2⟩,⟨1,2,bet 1 2⟩] = detF 2 (fun i j => lapE bet val (i+1) (j+1)) := by
  have h1 : val 1 = bet 0 1 + bet 1 2 := by rw [hv 1 (by omega), hd 1, hs 1 0]; omega
  have h2 : val 2 = bet 0 2 + bet 1 2 := by rw [hv 2 (by omega), hd 2, hs 2 0, hs 2 1]; omega
  have e21 := hs 2 1
  simp [detF, minF, sm, sg, lapE, e21, h1, h2]
  clear e21 h1 h2 hv hs hd
  generalize bet 0 1 = a
  generalize bet 0 2 = b
  generalize bet 1 2 = c
  simp [treesL, replL]
  grind
set_option maxHeartbeats 4000000 in
set_option maxRecDepth 100000 in
theorem tree_det4 (bet : Nat → Nat → Int) (val : Nat → Int) (hs : ∀ i j, bet i j = bet j i) (hd : ∀ i, bet i i = 0) (hv : ∀ i, i < 4 → val i = 0 + bet i 0 + bet i 1 + bet i 2 + bet i 3) :
    treesL [0,1,2,3] [⟨0,1,bet 0 1⟩,⟨0,2,bet 0 2⟩,⟨0,3,bet 0 3⟩,⟨1,2,bet 1 2⟩,⟨1,3,bet 1 3⟩,⟨2,3,bet 2 3⟩] = detF 3 (fun i j => lapE bet val (i+1) (j+1)) := by
  have h1 : val 1 = bet 0 1 + bet 1 2 + bet 1 3 := by rw [hv 1 (by omega), hd 1, hs 1 0]; omega
  have h2 : val 2 = bet 0 2 + bet 1 2 + bet 2 3 := by rw [hv 2 (by omega), hd 2, hs 2 0, hs 2 1]; omega
  have h3 : val 3 = bet 0 3 + bet 1 3 + bet 2 3 := by rw [hv 3 (by omega), hd 3, hs 3 0, hs 3 1, hs 3 2]; omega
  have e21 := hs 2 1
  have e31 := hs 3 1
  have e32 := hs 3 2
  simp [detF, minF, sm, sg, lapE, e21, e31, e32, h1, h2, h3]
  clear e21 e31 e32 h1 h2 h3 hv hs hd
  generalize bet 0 1 = a
  generalize bet 0 2 = b
  generalize bet 0 3 = c
  generalize bet 1 2 = d
  generalize bet 1 3 = e
  generalize bet 2 3 = f
  simp [treesL, replL]
  grind
set_option maxHeartbeats 4000000 in
set_option maxRecDepth 100000 in
theorem tree_det5 (bet : Nat → Nat → Int) (val : Nat → Int) (hs : ∀ i j, bet i j = bet j i) (hd : ∀ i, bet i i = 0) (hv : ∀ i, i < 5 → val i = 0 + bet i 0 + bet i 1 + bet i 2 + bet i 3 + bet i 4) :
    treesL [0,1,2,3,4] [⟨0,1,bet 0 1⟩,⟨0,2,bet 0 2⟩,⟨0,3,bet 0 3⟩,⟨0,4,bet 0 4⟩,⟨1,2,bet 1 2⟩,⟨1,3,bet 1 3⟩,⟨1,4,bet 1 4⟩,⟨2,3,bet 2 3⟩,⟨2,4,bet 2 4⟩,⟨3,4,bet 3 4⟩] = detF 4 (fun i j => lapE bet val (i+1) (j+1)) := by
  have h1 : val 1 = bet 0 1 + bet 1 2 + bet 1 3 + bet 1 4 := by rw [hv 1 (by omega), hd 1, hs 1 0]; omega
  have h2 : val 2 = bet 0 2 + bet 1 2 + bet 2 3 + bet 2 4 := by rw [hv 2 (by omega), hd 2, hs 2 0, hs 2 1]; omega
  have h3 : val 3 = bet 0 3 + bet 1 3 + bet 2 3 + bet 3 4 := by rw [hv 3 (by omega), hd 3, hs 3 0, hs 3 1, hs 3 2]; omega
  have h4 : val 4 = bet 0 4 + bet 1 4 + bet 2 4 + bet 3 4 := by rw [hv 4 (by omega), hd 4, hs 4 0, hs 4 1, hs 4 2, hs 4 3]; omega
  have e21 := hs 2 1
  have e31 := hs 3 1
  have e41 := hs 4 1
  have e32 := hs 3 2
  have e42 := hs 4 2
  have e43 := hs 4 3
  simp [detF, minF, sm, sg, lapE, e21, e31, e41, e32, e42, e43, h1, h2, h3, h4]
  clear e21 e31 e41 e32 e42 e43 h1 h2 h3 h4 hv hs hd
  generalize bet 0 1 = a
  generalize bet 0 2 = b
  generalize bet 0 3 = c
  generalize bet 0 4 = d
  generalize bet 1 2 = e
  generalize bet 1 3 = f
  generalize bet 1 4 = g
  generalize bet 2 3 = h
  generalize bet 2 4 = i
  generalize bet 3 4 = j
  simp [treesL, replL]
  grind

theorem trees_det {n : Int} {ls : List Lk} {N : Nat} (hn : n = N) (hg : goodL n ls = true) (h5 : N ≤ 5) : treesL (idL N) ls = detF (N - 1) (fun i j => lapE (betF ls) (valF ls) (i + 1) (j + 1)) := by
  have g := gr_of hn hg
  have hgn := good_n hg
  have hl : treesL (idL N) ls = treesL (idL N) (fullL N (betF ls)) := by
    have := treesL_filter (fullL N (betF ls)) (idL N)
    rwa [← links_full hn hg] at this
  rw [hl]
  clear hl
  generalize betF ls = bet at g ⊢
  generalize valF ls = val at g ⊢
  have h15 : N = 1 ∨ N = 2 ∨ N = 3 ∨ N = 4 ∨ N = 5 := by omega
  rcases h15 with rfl | rfl | rfl | rfl | rfl
  · rfl
  · exact tree_det2 bet val g.sym g.dg (fun i hi => g.vs i hi)
  · exact tree_det3 bet val g.sym g.dg (fun i hi => g.vs i hi)
  · exact tree_det4 bet val g.sym g.dg (fun i hi => g.vs i hi)
  · exact tree_det5 bet val g.sym g.dg (fun i hi => g.vs i hi)

end Go.Proofs.Ytopkohkilmlpaaa
