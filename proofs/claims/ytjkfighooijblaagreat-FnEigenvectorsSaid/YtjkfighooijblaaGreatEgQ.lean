/-
  Some texts of this proof in one: EgQ EgR EgS EgT. Each part tells what it proves. By an AI agent.
-/
import Derived.Test.YtjkfighooijblaaGreatWzP
import Derived.Test.YtjkfighooijblaaGreatAsP
import Derived.Test.YtjkfighooijblaaGreatEgP

/-
  Least lengths of ways to nodes that have lengths of their own, by relaxing in place: plain. By an AI agent.
-/
namespace Go.Proofs.YtjkfighooijblaaGreat

section
variable {n : Nat} {F : Nat → Nat → Int} {E : Nat → Int}

/-- each arc shorter by a number. -/
def shF (m : Nat → Nat → Int) (x : Int) (i k : Nat) : Int := prodZ (m i k) (-x)
theorem shF_bd {m : Nat → Nat → Int} {x : Int} (hm : ∀ a b, a < n → b < n → numB (m a b) = true) (hx : -1000000 ≤ x ∧ x ≤ 1000000) : bd2 n (shF m x) := fun a b ha hb => by
  have h := numB_t (hm a b ha hb)
  unfold shF
  rcases h with h | h
  · right
    rw [prodZ_fin (by omega) (by omega)]
    omega
  · left
    exact prodZ_inf (Or.inl h)
theorem shF_ne {m : Nat → Nat → Int} {x : Int} {i k : Nat} (hx : -1000000 ≤ x ∧ x ≤ 1000000) (h : numB (m i k) = true) : (shF m x i k ≠ 1000000000 ↔ m i k ≠ 1000000000) ∧ (m i k ≠ 1000000000 → shF m x i k = m i k - x) := by
  have h := numB_t h
  unfold shF
  constructor
  · constructor
    · exact fun g => (prodZ_ne g).1
    · intro g
      rw [prodZ_fin g (by omega)]
      omega
  · intro g
    rw [prodZ_fin g (by omega)]
    omega

theorem Wk.rev {i k s : Nat} {c : Int} (h : Wk n F i k c s) : Wk n (fun a b => F b a) k i c s := by
  induction h with
  | nil h => exact Wk.nil h
  | snoc hw hk hne ih => exact ((Wk.one (m := fun a b => F b a) hk hw.last hne).append ih).cast (by omega) (by omega)
/-- the least of what ways lead to. -/
structure LstE (n : Nat) (F : Nat → Nat → Int) (E : Nat → Int) (j : Nat) (U : Int) : Prop where
  is : U = 1000000000 ∨ ∃ k c s, k < n ∧ E k ≠ 1000000000 ∧ Wk n F j k c s ∧ U = c + E k
  le : ∀ k c s, k < n → E k ≠ 1000000000 → Wk n F j k c s → U ≠ 1000000000 ∧ U ≤ c + E k
theorem LstE.uniq {j : Nat} {U V : Int} (h : LstE n F E j U) (g : LstE n F E j V) : U = V := by
  rcases h.is with h1 | ⟨k, c, s, a1, a2, a3, a4⟩
  · rcases g.is with g1 | ⟨k, c, s, a1, a2, a3, a4⟩
    · omega
    · exact absurd h1 (h.le k c s a1 a2 a3).1
  · have := (g.le k c s a1 a2 a3)
    rcases g.is with g1 | ⟨k', c', s', b1, b2, b3, b4⟩
    · exact absurd g1 this.1
    · have := (h.le k' c' s' b1 b2 b3)
      omega

/-! ### relaxing in place -/
def rw1 (F : Nat → Nat → Int) (G : Nat → Int) (i k : Nat) : Nat → Int := fun b => if b = i then leastZ (G i) (prodZ (F i k) (G k)) else G b
def rwK (F : Nat → Nat → Int) (i : Nat) (G : Nat → Int) : Nat → Nat → Int
  | 0 => G
  | k + 1 => rw1 F (rwK F i G k) i k
def rwI (n : Nat) (F : Nat → Nat → Int) (G : Nat → Int) : Nat → Nat → Int
  | 0 => G
  | i + 1 => rwK F i (rwI n F G i) n
def rwR (n : Nat) (F : Nat → Nat → Int) (E : Nat → Int) : Nat → Nat → Int
  | 0 => E
  | r + 1 => rwI n F (rwR n F E r) n
theorem rw1_le (F : Nat → Nat → Int) (G : Nat → Int) (i k b : Nat) : rw1 F G i k b ≤ G b := by
  unfold rw1 leastZ
  split
  · rename_i e
    subst e
    split <;> omega
  · exact Int.le_refl _
theorem rwK_le (F : Nat → Nat → Int) (i : Nat) (G : Nat → Int) (b : Nat) {s t : Nat} (h : s ≤ t) : rwK F i G t b ≤ rwK F i G s b := by
  induction t with
  | zero => rw [show s = 0 by omega]; exact Int.le_refl _
  | succ t ih =>
    by_cases e : s = t + 1
    · subst e; exact Int.le_refl _
    · exact Int.le_trans (rw1_le F _ i t b) (ih (by omega))
theorem rwI_le (F : Nat → Nat → Int) (G : Nat → Int) (b : Nat) {s t : Nat} (h : s ≤ t) : rwI n F G t b ≤ rwI n F G s b := by
  induction t with
  | zero => rw [show s = 0 by omega]; exact Int.le_refl _
  | succ t ih =>
    by_cases e : s = t + 1
    · subst e; exact Int.le_refl _
    · exact Int.le_trans (rwK_le F t _ b (Nat.zero_le n)) (ih (by omega))
/-- what numbers are on the way: of ways with at most so many arcs. -/
def SndE (n : Nat) (F : Nat → Nat → Int) (E : Nat → Int) (T : Nat) (G : Nat → Int) : Prop := ∀ j, j < n → G j = 1000000000 ∨ ((-(2000000 * (T : Int)) ≤ G j ∧ G j ≤ 2000000 * (T : Int)) ∧ ∃ k c s, k < n ∧ E k ≠ 1000000000 ∧ Wk n F j k c s ∧ G j = c + E k)
theorem SndE.mono {T U : Nat} {G : Nat → Int} (h : SndE n F E T G) (hT : T ≤ U) : SndE n F E U G := fun j hj => by
  rcases h j hj with h | ⟨h1, h2⟩
  · exact Or.inl h
  · exact Or.inr ⟨by omega, h2⟩
theorem rw1_snd (hF : bd2 n F) {T : Nat} {G : Nat → Int} {i k : Nat} (hi : i < n) (hk : k < n) (hT : T ≤ 400) (h : SndE n F E T G) : SndE n F E (T + 1) (rw1 F G i k) := by
  intro b hb
  unfold rw1
  split
  · rename_i e
    subst e
    unfold leastZ
    split
    · exact h.mono (Nat.le_succ T) b hb
    · rename_i hlt
      by_cases hne : prodZ (F b k) (G k) = 1000000000
      · exact Or.inl hne
      · obtain ⟨h1, h2, h3⟩ := prodZ_ne hne
        have h4 := hF b k hb hk
        rcases h k hk with g | ⟨g1, k', c, s, g2, g3, g4, g5⟩
        · exact absurd g h2
        · right
          rw [h3]
          refine ⟨by omega, k', F b k + c, 1 + s, g2, g3, (Wk.one hb hk h1).append g4, by omega⟩
  · exact h.mono (Nat.le_succ T) b hb
theorem rwK_snd (hF : bd2 n F) {T : Nat} {G : Nat → Int} {i : Nat} (hi : i < n) (h : SndE n F E T G) : ∀ {k}, k ≤ n → T + k ≤ 400 → SndE n F E (T + k) (rwK F i G k)
  | 0, _, _ => h
  | k + 1, hk, hT => rw1_snd hF hi (by omega) (by show T + k ≤ 400; omega) (rwK_snd hF hi h (by omega) (by omega))
theorem rwI_snd (hF : bd2 n F) {T : Nat} {G : Nat → Int} (hn : n ≤ 6) (h : SndE n F E T G) : ∀ {i}, i ≤ n → T + 6 * i ≤ 400 → SndE n F E (T + 6 * i) (rwI n F G i)
  | 0, _, _ => h
  | i + 1, hi, hT => (rwK_snd hF (show i < n by omega) (rwI_snd hF hn h (i := i) (by omega) (by omega)) (Nat.le_refl _) (by omega)).mono (by omega)
theorem rwR_snd (hF : bd2 n F) (hn : n ≤ 6) (hE : ∀ k, k < n → E k = 0 ∨ E k = 1000000000) : ∀ r, r ≤ 6 → SndE n F E (36 * r) (rwR n F E r)
  | 0, _ => fun j hj => by
    rcases hE j hj with e | e
    · right
      show (_ ≤ E j ∧ E j ≤ _) ∧ _
      exact ⟨by omega, j, 0, 0, hj, by omega, Wk.nil hj, by show E j = _; omega⟩
    · exact Or.inl e
  | r + 1, hr => (rwI_snd hF hn (rwR_snd hF hn hE r (by omega)) (Nat.le_refl _) (by omega)).mono (by omega)
theorem rwR_all (hF : bd2 n F) (hn : n ≤ 6) (hE : ∀ k, k < n → E k = 0 ∨ E k = 1000000000) {k j s : Nat} {c : Int} (hk : E k ≠ 1000000000) (h : Wk n (fun a b => F b a) k j c s) : ∀ {r : Nat}, s ≤ r → r ≤ 6 → rwR n F E r j ≠ 1000000000 ∧ rwR n F E r j ≤ c + E k := by
  have hfin : ∀ {r j : Nat}, r ≤ 6 → j < n → rwR n F E r j ≤ 1000000000 := fun {r j} hr hj => by
    rcases rwR_snd hF hn hE r hr j hj with e | ⟨e, _⟩ <;> omega
  induction h with
  | nil hi =>
    intro r _ hr
    have h1 : ∀ r, rwR n F E r k ≤ E k := fun r => by
      induction r with
      | zero => exact Int.le_refl _
      | succ r ih => exact Int.le_trans (rwI_le F _ k (Nat.zero_le n)) ih
    have h2 := h1 r
    have h3 := hE k hi
    omega
  | snoc hw hq hne ih =>
    rename_i p q s c
    intro r hs hr
    obtain ⟨r, rfl⟩ : ∃ r', r = r' + 1 := ⟨r - 1, by omega⟩
    have h1 := ih (r := r) (by omega) (by omega)
    have hp := hw.last
    have h2 : rwR n F E (r + 1) q ≤ rwI n F (rwR n F E r) (q + 1) q := rwI_le F _ q (by omega)
    have h3 : rwI n F (rwR n F E r) (q + 1) q ≤ rwK F q (rwI n F (rwR n F E r) q) (p + 1) q := rwK_le F q _ q (by omega)
    have h4 : rwK F q (rwI n F (rwR n F E r) q) p p ≤ rwR n F E r p := Int.le_trans (rwK_le F q _ p (Nat.zero_le p)) (rwI_le F _ p (Nat.zero_le q))
    have h5 : rwK F q (rwI n F (rwR n F E r) q) (p + 1) q = leastZ (rwK F q (rwI n F (rwR n F E r) q) p q) (prodZ (F q p) (rwK F q (rwI n F (rwR n F E r) q) p p)) := by
      show rw1 F (rwK F q (rwI n F (rwR n F E r) q) p) q p q = _
      unfold rw1
      rw [if_pos rfl]
    have h7 := hF q p hq hp
    have h8 := hfin (r := r) (by omega) hp
    have h12 : -432000000 ≤ rwK F q (rwI n F (rwR n F E r) q) p p ∧ rwK F q (rwI n F (rwR n F E r) q) p p ≤ 432000000 := by
      have g1 := rwR_snd hF hn hE r (by omega)
      have g2 := rwI_snd hF hn g1 (i := q) (by omega) (by omega)
      have g3 := rwK_snd hF hq g2 (k := p) (by omega) (by omega) p hp
      rcases g3 with g3 | ⟨g3, -⟩
      · have := h1.1; have := rwR_snd hF hn hE r (by omega) p hp
        rcases this with g | ⟨g, -⟩
        · exact absurd g h1.1
        · omega
      · omega
    have h9 : prodZ (F q p) (rwK F q (rwI n F (rwR n F E r) q) p p) = F q p + rwK F q (rwI n F (rwR n F E r) q) p p := prodZ_fin hne (by omega)
    have h10 : rwK F q (rwI n F (rwR n F E r) q) (p + 1) q ≤ F q p + rwK F q (rwI n F (rwR n F E r) q) p p := by
      rw [h5, h9]
      unfold leastZ
      split <;> omega
    have h11 := hE k hw.first
    omega
theorem rwR_least (hF : bd2 n F) (hn : n ≤ 6) (hc : ∀ x c s, Wk n F x x c s → 0 ≤ c) (hE : ∀ k, k < n → E k = 0 ∨ E k = 1000000000) {j : Nat} (hj : j < n) : LstE n F E j (rwR n F E n j) := by
  refine ⟨?_, fun k c s hk he h => ?_⟩
  · rcases rwR_snd hF hn hE n (by omega) j hj with e | ⟨_, k, c, s, h1, h2, h3, h4⟩
    · exact Or.inl e
    · exact Or.inr ⟨k, c, s, h1, h2, h3, h4⟩
  · obtain ⟨c', s', g1, g2, g3⟩ := Wk.short hc _ h
    have := rwR_all hF hn hE he g1.rev (r := n) (by omega) (by omega)
    exact ⟨this.1, by omega⟩
/-- the program's: a column of the least lengths. -/
theorem bf_colE (hF : bd2 n F) (hn : n ≤ 6) (hc : ∀ x c s, Wk n F x x c s → 0 ≤ c) {j k : Nat} (hj : j < n) (hk : k < n) : LstE n F (fun t => if t = k then 0 else 1000000000) j (bf n F n j k) := by
  refine ⟨?_, fun t c s ht he h => ?_⟩
  · by_cases e : bf n F n j k = 1000000000
    · exact Or.inl e
    · obtain ⟨s, _, h⟩ := bf_sound n hj hk e
      exact Or.inr ⟨k, _, s, hk, by rw [if_pos rfl]; omega, h, by rw [if_pos rfl]; omega⟩
  · have et : t = k := by
      by_cases e : t = k
      · exact e
      · exact absurd (if_neg e) he
    subst et
    obtain ⟨c', s', g1, g2, g3⟩ := Wk.short hc _ h
    obtain ⟨h1, h2⟩ := bf_le2 hF g1 (by omega)
    have h3 := bf_mono (n := n) (m := F) (show s' ≤ n by omega) j t
    have h4 := bf_bd2 hF (s := s') hj ht
    simp only [if_true]
    omega
end
end Go.Proofs.YtjkfighooijblaaGreat

/-
  Means of circuits, potentials and eigenvectors: plain. By an AI agent.
-/
namespace Go.Proofs.YtjkfighooijblaaGreat

section
variable {n : Nat} {m : Nat → Nat → Int} {x : Int}

theorem smN_const (x : Int) : ∀ s, smN (fun _ => x) s = x * (s : Int)
  | 0 => by simp [smN]
  | s + 1 => by
    show smN (fun _ => x) s + x = _
    rw [smN_const x s, Int.natCast_add, Int.mul_add]
    omega
theorem Cir.lt (c : List Int) (h : Cir n m c) {t : Nat} (ht : t < c.length) : vx c t < n ∧ nxV c t < n := by
  refine ⟨(vt_at h.pth.vt ht).2, ?_⟩
  unfold nxV
  split
  · exact (vt_at h.pth.vt (by omega)).2
  · exact h.pth.hd
theorem sumC_sh (hm : ∀ a b, a < n → b < n → numB (m a b) = true) (hx : -1000000 ≤ x ∧ x ≤ 1000000) {c : List Int} (h : Cir n m c) : sumC (shF m x) c = sumC m c - x * (c.length : Int) := by
  have e : sumC (shF m x) c = smN (fun t => m (vx c t) (nxV c t) - x) c.length := smN_congr fun t ht => by
    have h1 := h.lt c ht
    exact (shF_ne hx (hm _ _ h1.1 h1.2)).2 (h.arc ht)
  rw [e, smN_sub (fun t => m (vx c t) (nxV c t)) (fun _ => x), smN_const]
  rfl
/-- no closed walk is negative where each arc is shorter by a number: no circuit has a less mean than it. -/
theorem closed_iff (hm : ∀ a b, a < n → b < n → numB (m a b) = true) (hx : -1000000 ≤ x ∧ x ≤ 1000000) : (∀ y c s, Wk n (shF m x) y y c s → 0 ≤ c) ↔ ∀ l, Cir n m l → x * (l.length : Int) ≤ sumC m l := by
  have hne := fun i k (hi : i < n) (hk : k < n) => (shF_ne hx (hm i k hi hk)).1
  constructor
  · intro h l hl
    have h1 := hl.congr (F := shF m x) (fun i k hi hk g => (hne i k hi hk).2 g)
    have h2 := h1.walk l.length (Nat.le_refl _)
    rw [if_neg (Nat.lt_irrefl _)] at h2
    have h3 := h _ _ _ h2
    have h4 := sumC_sh hm hx hl
    unfold sumC at h4 ⊢
    omega
  · intro h y c s hw
    rcases Int.lt_or_le c 0 with hc | hc
    · obtain ⟨l, h1, h2⟩ := neg_cir hw hc
      have h3 := h1.congr (F := m) (fun i k hi hk g => (hne i k hi hk).1 g)
      have h4 := sumC_sh hm hx h3
      have h5 := h l h3
      omega
    · exact hc
/-- a vector that proves a mean. -/
def prvP (n : Nat) (m : Nat → Nat → Int) (x : Int) (v : Nat → Int) : Prop := ∀ i k, i < n → k < n → m i k ≠ 1000000000 → x + v i ≤ m i k + v k
theorem proves_cir {v : Nat → Int} (hp : prvP n m x v) {c : List Int} (h : Cir n m c) : x * (c.length : Int) ≤ sumC m c := by
  have h1 : smN (fun t => x + (v (vx c t) - v (nxV c t))) c.length ≤ sumC m c := smN_le fun t ht => by
    have g1 := h.lt c ht
    have g2 := hp _ _ g1.1 g1.2 (h.arc ht)
    omega
  rw [smN_add (fun _ => x) (fun t => v (vx c t) - v (nxV c t)), smN_const, smN_sub (fun t => v (vx c t)) (fun t => v (nxV c t))] at h1
  have h2 := smN_tele (fun t => if t < c.length then v (vx c t) else v (vx c 0)) c.length
  have hp0 := h.pth.pos
  simp only [Nat.lt_irrefl, if_false] at h2
  rw [if_pos (show 0 < c.length from hp0)] at h2
  have h3 : smN (fun t => if t + 1 < c.length then v (vx c (t + 1)) else v (vx c 0)) c.length = smN (fun t => v (nxV c t)) c.length := smN_congr fun t _ => by
    unfold nxV
    split <;> rfl
  have h4 : smN (fun t => if t < c.length then v (vx c t) else v (vx c 0)) c.length = smN (fun t => v (vx c t)) c.length := smN_congr fun t ht => by rw [if_pos ht]
  omega

/-! ### potentials and eigenvectors -/
theorem wk_cons {F : Nat → Nat → Int} {i k s : Nat} {c : Int} (h : Wk n F i k c (s + 1)) : ∃ p, p < n ∧ F i p ≠ 1000000000 ∧ ∃ c', Wk n F p k c' s ∧ c = F i p + c' := by
  obtain ⟨v, P, v0, vs, P0, Ps, hv, hw⟩ := h.split
  have h1 := wk_arc ((hw 0 1 (by omega) (by omega)).cast rfl (by omega))
  rw [v0] at h1
  refine ⟨v 1, hv 1 (by omega), h1.1, P (s + 1) - P 1, ?_, ?_⟩
  · have := hw 1 (s + 1) (by omega) (Nat.le_refl _)
    rw [vs] at this
    exact this.cast rfl (by omega)
  · rw [← h1.2, P0, Ps]; omega
/-- least lengths are not beyond an arc and the length from there. -/
theorem lst_tri {F : Nat → Nat → Int} {E V : Nat → Int} (hV : ∀ j, j < n → LstE n F E j (V j)) {i k : Nat} (hi : i < n) (hk : k < n) (ha : F i k ≠ 1000000000) (hf : V k ≠ 1000000000) : V i ≠ 1000000000 ∧ V i ≤ F i k + V k := by
  rcases (hV k hk).is with h | ⟨p, c, s, h1, h2, h3, h4⟩
  · exact absurd h hf
  · have := (hV i hi).le p _ _ h1 h2 ((Wk.one hi hk ha).append h3)
    exact ⟨this.1, by omega⟩
/-- numbers that are finite prove the mean. -/
theorem lst_proves (hm : ∀ a b, a < n → b < n → numB (m a b) = true) (hx : -1000000 ≤ x ∧ x ≤ 1000000) {E V : Nat → Int} (hV : ∀ j, j < n → LstE n (shF m x) E j (V j)) (hf : ∀ j, j < n → V j ≠ 1000000000) : prvP n m x V := fun i k hi hk ha => by
  have h1 := shF_ne hx (hm i k hi hk)
  have h2 := (lst_tri hV hi hk (h1.1.2 ha) (hf k hk)).2
  rw [h1.2 ha] at h2
  omega
/-- a node in a circuit with the least mean, and a way to it from each: its lengths are an eigenvector. -/
theorem lst_eigen (hm : ∀ a b, a < n → b < n → numB (m a b) = true) (hx : -1000000 ≤ x ∧ x ≤ 1000000) (hc : ∀ l, Cir n m l → x * (l.length : Int) ≤ sumC m l) {l : List Int} (hl : Cir n m l) (he : sumC m l = x * (l.length : Int)) {t : Nat} (ht : t < l.length) {V : Nat → Int} (hV : ∀ j, j < n → LstE n (shF m x) (fun k => if k = vx l t then 0 else 1000000000) j (V j)) (hf : ∀ j, j < n → V j ≠ 1000000000) {i : Nat} (hi : i < n) : ∃ k, k < n ∧ m i k ≠ 1000000000 ∧ m i k + V k = x + V i := by
  have hne := fun i k (hi : i < n) (hk : k < n) => shF_ne hx (hm i k hi hk)
  have hcl := (closed_iff hm hx).2 hc
  have hpr := lst_proves hm hx hV hf
  have hq := (hl.lt l ht).1
  have step : ∀ {c : Int} {s : Nat}, Wk n (shF m x) i (vx l t) c (s + 1) → c ≤ V i → ∃ k, k < n ∧ m i k ≠ 1000000000 ∧ m i k + V k = x + V i := fun {c s} hw hcv => by
    obtain ⟨p, h1, h2, c', h3, h4⟩ := wk_cons hw
    have h5 := ((hV p h1).le (vx l t) c' s hq (by rw [if_pos rfl]; omega) h3).2
    rw [if_pos rfl] at h5
    have h6 := hne i p hi h1
    have h7 := h6.1.1 h2
    have h8 := hpr i p hi h1 h7
    rw [h6.2 h7] at h4
    exact ⟨p, h1, h7, by omega⟩
  rcases (hV i hi).is with h | ⟨k, c, s, h1, h2, h3, h4⟩
  · exact absurd h (hf i hi)
  have ek : k = vx l t := by
    by_cases e : k = vx l t
    · exact e
    · exact absurd (if_neg e) h2
  subst ek
  rw [if_pos rfl] at h4
  cases s with
  | succ s => exact step h3 (by omega)
  | zero =>
    cases h3
    have hF := hl.congr (F := shF m x) (fun a b ha hb g => (hne a b ha hb).1.2 g)
    have hz : sumC (shF m x) l = 0 := by rw [sumC_sh hm hx hl, he]; omega
    have w1 := hF.walk t (by omega)
    rw [if_pos ht] at w1
    have w2 := hF.walk l.length (Nat.le_refl _)
    rw [if_neg (Nat.lt_irrefl _)] at w2
    have w3 : ∃ d, Wk n (shF m x) (vx l t) (vx l 0) d (l.length - t) ∧ d = sumC (shF m x) l - smN (fun t => shF m x (vx l t) (nxV l t)) t := by
      have key : ∀ q, t + q ≤ l.length → Wk n (shF m x) (vx l t) (if t + q < l.length then vx l (t + q) else vx l 0) (smN (fun t => shF m x (vx l t) (nxV l t)) (t + q) - smN (fun t => shF m x (vx l t) (nxV l t)) t) q := by
        intro q
        induction q with
        | zero => intro _; rw [Nat.add_zero, if_pos ht]; exact (Wk.nil hq).cast (by omega) rfl
        | succ q ih =>
          intro hqq
          have g := ih (by omega)
          rw [if_pos (by omega)] at g
          have g2 := Wk.snoc g (hF.lt l (show t + q < l.length by omega)).2 (hF.arc (by omega))
          have e1 : nxV l (t + q) = if t + (q + 1) < l.length then vx l (t + (q + 1)) else vx l 0 := rfl
          rw [e1] at g2
          refine g2.cast ?_ rfl
          show _ = smN (fun t => shF m x (vx l t) (nxV l t)) (t + q) + shF m x (vx l (t + q)) (nxV l (t + q)) - _
          rw [e1]
          omega
      have := key (l.length - t) (by omega)
      rw [show t + (l.length - t) = l.length by omega, if_neg (Nat.lt_irrefl _)] at this
      exact ⟨_, this, rfl⟩
    obtain ⟨d, w3, hd⟩ := w3
    have w4 := w3.append w1
    obtain ⟨q, hq2⟩ : ∃ q, l.length - t + t = q + 1 := ⟨l.length - 1, by omega⟩
    exact step (w4.cast rfl hq2) (by omega)
end
end Go.Proofs.YtjkfighooijblaaGreat

/-
  The first circuit with the least mean, and the nodes of all with it: plain. By an AI agent.
-/
namespace Go.Proofs.YtjkfighooijblaaGreat

theorem cross {s1 s2 s3 l1 l2 l3 : Int} (h1 : 0 < l1) (h2 : 0 < l2) (h3 : 0 < l3) (a : s1 * l2 < s2 * l1) (b : s2 * l3 ≤ s3 * l2) : s1 * l3 < s3 * l1 := by
  rcases Int.lt_or_le (s1 * l3) (s3 * l1) with h | h
  · exact h
  · have a1 := Int.mul_lt_mul_of_pos_right a h3
    have b1 := Int.mul_le_mul_of_nonneg_right b (Int.le_of_lt h1)
    have c1 := Int.mul_le_mul_of_nonneg_right h (Int.le_of_lt h2)
    have e1 : s1 * l2 * l3 = s1 * l3 * l2 := Int.mul_right_comm _ _ _
    have e2 : s2 * l1 * l3 = s2 * l3 * l1 := Int.mul_right_comm _ _ _
    have e3 : s3 * l2 * l1 = s3 * l1 * l2 := Int.mul_right_comm _ _ _
    omega
/-- of a less mean. -/
def ltC (m : Nat → Nat → Int) (a b : List Int) : Prop := sumC m a * (b.length : Int) < sumC m b * (a.length : Int)
instance (m : Nat → Nat → Int) (a b : List Int) : Decidable (ltC m a b) := by unfold ltC; exact inferInstance
def eqC (m : Nat → Nat → Int) (a b : List Int) : Prop := sumC m a * (b.length : Int) = sumC m b * (a.length : Int)
def pkM (m : Nat → Nat → Int) (b c : List Int) : List Int := if b = [] ∨ ltC m c b then c else b
def mnC (m : Nat → Nat → Int) (L : List (List Int)) : List Int := L.foldl (pkM m) []
def MnP (m : Nat → Nat → Int) (R : List (List Int)) (b : List Int) : Prop := (b = [] ∧ R = []) ∨ (b ∈ R ∧ ∀ c ∈ R, ¬ ltC m c b)
def mkP (m : Nat → Nat → Int) (R : List (List Int)) (b : List Int) (k : Nat) : Prop := ∃ c ∈ R, eqC m c b ∧ (k : Int) ∈ c
theorem len_pos {c : List Int} (h : c ≠ []) : (0 : Int) < (c.length : Int) := by
  have := List.length_pos_iff.2 h
  omega
theorem eqC_refl (m : Nat → Nat → Int) (a : List Int) : eqC m a a := rfl
theorem ltC_irr (m : Nat → Nat → Int) (a : List Int) : ¬ ltC m a a := Int.lt_irrefl _
/-- one circuit more. -/
theorem mn_step {m : Nat → Nat → Int} {R : List (List Int)} {b c : List Int} (h : MnP m R b) (hR : ∀ x ∈ R, x ≠ []) (hc : c ≠ []) :
    MnP m (R ++ [c]) (pkM m b c) ∧ ((b = [] ∨ ltC m c b) → ∀ k, mkP m (R ++ [c]) (pkM m b c) k ↔ (k : Int) ∈ c) ∧ (¬ (b = [] ∨ ltC m c b) → ∀ k, mkP m (R ++ [c]) (pkM m b c) k ↔ mkP m R b k ∨ (eqC m c b ∧ (k : Int) ∈ c)) := by
  have hcp := len_pos hc
  unfold pkM
  by_cases hs : b = [] ∨ ltC m c b
  · rw [if_pos hs]
    have key : ∀ x ∈ R, ltC m c x := fun x hx => by
      rcases h with ⟨_, h⟩ | ⟨h1, h2⟩
      · rw [h] at hx; cases hx
      · rcases hs with hs | hs
        · exact absurd hs (hR b h1)
        · have h3 := h2 x hx
          unfold ltC at h3 hs ⊢
          exact cross hcp (len_pos (hR b h1)) (len_pos (hR x hx)) hs (by omega)
    refine ⟨Or.inr ⟨by simp, fun x hx => ?_⟩, fun _ k => ⟨?_, fun hk => ⟨c, by simp, eqC_refl m c, hk⟩⟩, fun hn => absurd hs hn⟩
    · rcases List.mem_append.1 hx with hx | hx
      · have := key x hx
        unfold ltC at this ⊢
        omega
      · rw [List.mem_singleton.1 hx]; exact ltC_irr m c
    · rintro ⟨x, hx, he, hk⟩
      rcases List.mem_append.1 hx with hx | hx
      · have := key x hx
        unfold ltC at this
        unfold eqC at he
        omega
      · rw [← List.mem_singleton.1 hx]; exact hk
  · rw [if_neg hs]
    have hb : b ≠ [] := fun e => hs (Or.inl e)
    rcases h with ⟨h, _⟩ | ⟨h1, h2⟩
    · exact absurd h hb
    · refine ⟨Or.inr ⟨List.mem_append_left _ h1, fun x hx => ?_⟩, fun hp => absurd hp hs, fun _ k => ⟨?_, ?_⟩⟩
      · rcases List.mem_append.1 hx with hx | hx
        · exact h2 x hx
        · rw [List.mem_singleton.1 hx]; exact fun e => hs (Or.inr e)
      · rintro ⟨x, hx, he, hk⟩
        rcases List.mem_append.1 hx with hx | hx
        · exact Or.inl ⟨x, hx, he, hk⟩
        · have ex := List.mem_singleton.1 hx
          subst ex
          exact Or.inr ⟨he, hk⟩
      · rintro (⟨x, hx, he, hk⟩ | ⟨he, hk⟩)
        · exact ⟨x, List.mem_append_left _ hx, he, hk⟩
        · exact ⟨c, by simp, he, hk⟩
theorem mn_fold {m : Nat → Nat → Int} : ∀ (L R : List (List Int)) (b : List Int), MnP m R b → (∀ x ∈ R, x ≠ []) → (∀ x ∈ L, x ≠ []) → MnP m (R ++ L) (L.foldl (pkM m) b)
  | [], R, b, h, _, _ => by rw [List.append_nil]; exact h
  | c :: L, R, b, h, hR, hL => by
    have hc := hL c (by simp)
    have := mn_fold L (R ++ [c]) (pkM m b c) (mn_step h hR hc).1 (fun x hx => by
      rcases List.mem_append.1 hx with hx | hx
      · exact hR x hx
      · rw [List.mem_singleton.1 hx]; exact hc) (fun x hx => hL x (List.mem_cons_of_mem _ hx))
    rw [List.append_assoc] at this
    exact this
theorem mnC_spec {m : Nat → Nat → Int} {L : List (List Int)} (hL : ∀ x ∈ L, x ≠ []) : MnP m L (mnC m L) := mn_fold L [] [] (Or.inl ⟨rfl, rfl⟩) (fun x hx => by cases hx) hL
/-- the least mean, whole: no circuit is less. -/
theorem mn_least {n : Nat} {m : Nat → Nat → Int} {x : Int} (hb : mnC m (allC n m n) ≠ []) (he : sumC m (mnC m (allC n m n)) = x * ((mnC m (allC n m n)).length : Int)) (hL : ∀ x ∈ allC n m n, x ≠ []) : ∀ l, Cir n m l → x * (l.length : Int) ≤ sumC m l := fun l hl => by
  rcases mnC_spec (m := m) hL with ⟨h, _⟩ | ⟨h1, h2⟩
  · exact absurd h hb
  · have h3 := h2 l (allC_all hl)
    have hp := len_pos hb
    unfold ltC at h3
    rw [he] at h3
    generalize ((mnC m (allC n m n)).length : Int) = q at h3 hp
    have h4 : x * q * (l.length : Int) = x * (l.length : Int) * q := Int.mul_right_comm _ _ _
    rw [h4] at h3
    exact Int.le_of_mul_le_mul_right (by omega) hp
end Go.Proofs.YtjkfighooijblaaGreat

/-
  Connected matrices: plain. By an AI agent.
-/
namespace Go.Proofs.YtjkfighooijblaaGreat

/-- the matrix whose arcs are 0. -/
def zeF (m : Nat → Nat → Int) (i k : Nat) : Int := if m i k = 1000000000 then 1000000000 else 0
/-- a way leads from each to each. -/
def strP (n : Nat) (m : Nat → Nat → Int) : Prop := ∀ i k, i < n → k < n → ∃ c s, Wk n m i k c s
theorem zeF_ne {m : Nat → Nat → Int} {i k : Nat} : zeF m i k ≠ 1000000000 ↔ m i k ≠ 1000000000 := by
  unfold zeF
  split
  · rename_i h; exact ⟨fun g => absurd rfl g, fun g => absurd h g⟩
  · rename_i h; exact ⟨fun _ => h, fun _ => by omega⟩
theorem zeF_num (n : Nat) (m : Nat → Nat → Int) : ∀ a b, a < n → b < n → numB (zeF m a b) = true := fun a b _ _ => by
  unfold zeF
  split <;> decide
theorem zeF_walk {n : Nat} {m : Nat → Nat → Int} {i k s : Nat} {c : Int} (h : Wk n (zeF m) i k c s) : c = 0 ∧ ∃ d, Wk n m i k d s := by
  induction h with
  | nil h => exact ⟨rfl, 0, Wk.nil h⟩
  | snoc hw hk hne ih =>
    rename_i j k s c
    obtain ⟨h1, d, h2⟩ := ih
    have hz : zeF m j k = 0 := by
      unfold zeF at hne ⊢
      split
      · rename_i h; rw [if_pos h] at hne; exact absurd rfl hne
      · rfl
    exact ⟨by omega, _, Wk.snoc h2 hk (zeF_ne.1 hne)⟩
theorem walk_zeF {n : Nat} {m : Nat → Nat → Int} {i k s : Nat} {d : Int} (h : Wk n m i k d s) : ∃ c, Wk n (zeF m) i k c s := by
  induction h with
  | nil h => exact ⟨0, Wk.nil h⟩
  | snoc hw hk hne ih =>
    obtain ⟨c, h1⟩ := ih
    exact ⟨_, Wk.snoc h1 hk (zeF_ne.2 hne)⟩
theorem zeF_closed {n : Nat} {m : Nat → Nat → Int} : ∀ y c s, Wk n (zeF m) y y c s → 0 ≤ c := fun _ _ _ h => by
  have := (zeF_walk h).1
  omega
/-- no cost is infinite in the zero matrix: a way is there. -/
theorem ze_reach {n : Nat} {m : Nat → Nat → Int} (hn : n ≤ 6) {i k : Nat} (hi : i < n) (hk : k < n) : bf n (zeF m) n i k ≠ 1000000000 ↔ ∃ c s, Wk n m i k c s := by
  constructor
  · intro h
    obtain ⟨s, _, hw⟩ := bf_sound n hi hk h
    obtain ⟨_, d, g⟩ := zeF_walk hw
    exact ⟨d, s, g⟩
  · rintro ⟨c, s, h⟩
    obtain ⟨c0, h0⟩ := walk_zeF h
    obtain ⟨c', s', g1, g2, g3⟩ := Wk.short zeF_closed _ h0
    have h1 := bf_le (zeF_num n m) g1 (by omega)
    have h2 := bf_mono (n := n) (m := zeF m) (show s' ≤ n by omega) i k
    have h3 := (zeF_walk g1).1
    omega
theorem ze_strong {n : Nat} {m : Nat → Nat → Int} (hn : n ≤ 6) : (∀ i k, i < n → k < n → bf n (zeF m) n i k ≠ 1000000000) ↔ strP n m := ⟨fun h i k hi hk => (ze_reach hn hi hk).1 (h i k hi hk), fun h i k hi hk => (ze_reach hn hi hk).2 (h i k hi hk)⟩

/-! ### least lengths where all is connected -/
theorem sh_walk {n : Nat} {m : Nat → Nat → Int} {x : Int} (hm : ∀ a b, a < n → b < n → numB (m a b) = true) (hx : -1000000 ≤ x ∧ x ≤ 1000000) {i k s : Nat} {c : Int} (h : Wk n m i k c s) : ∃ d, Wk n (shF m x) i k d s := by
  induction h with
  | nil h => exact ⟨0, Wk.nil h⟩
  | snoc hw hk hne ih =>
    obtain ⟨d, h1⟩ := ih
    exact ⟨_, Wk.snoc h1 hk ((shF_ne hx (hm _ _ hw.last hk)).1.2 hne)⟩
theorem lst_fin {n : Nat} {m : Nat → Nat → Int} {x : Int} (hm : ∀ a b, a < n → b < n → numB (m a b) = true) (hx : -1000000 ≤ x ∧ x ≤ 1000000) (hs : strP n m) {q : Nat} (hq : q < n) {V : Nat → Int} (hV : ∀ j, j < n → LstE n (shF m x) (fun k => if k = q then 0 else 1000000000) j (V j)) {j : Nat} (hj : j < n) : V j ≠ 1000000000 := by
  obtain ⟨c, s, h⟩ := hs j q hj hq
  obtain ⟨d, h2⟩ := sh_walk hm hx h
  exact ((hV j hj).le q d s hq (by rw [if_pos rfl]; omega) h2).1
/-- lengths to any node: none is infinite, and all are at most 0. -/
theorem lst_zero {n : Nat} {F : Nat → Nat → Int} {V : Nat → Int} (hV : ∀ j, j < n → LstE n F (fun _ => 0) j (V j)) {j : Nat} (hj : j < n) : V j ≠ 1000000000 ∧ V j ≤ 0 := by
  have := (hV j hj).le j 0 0 hj (by omega) (Wk.nil hj)
  exact ⟨this.1, by omega⟩
/-- the program's potentials: the least of a row. -/
theorem row_least {n : Nat} {F : Nat → Nat → Int} (hF : bd2 n F) (hn : n ≤ 6) (hc : ∀ x c s, Wk n F x x c s → 0 ≤ c) {j : Nat} (hj : j < n) : LstE n F (fun _ => 0) j (mnF 1000000000 (fun k => bf n F n j k) n) := by
  constructor
  · rcases mnF_at 1000000000 (fun k => bf n F n j k) n with e | ⟨k, hk, e⟩
    · exact Or.inl e
    · by_cases g : bf n F n j k = 1000000000
      · exact Or.inl (by rw [e]; exact g)
      · obtain ⟨s, _, h⟩ := bf_sound n hj hk g
        exact Or.inr ⟨k, _, s, hk, by omega, h, by rw [e]; omega⟩
  · intro k c s hk _ h
    have h1 := (bf_colE hF hn hc hj hk).le k c s hk (by rw [if_pos rfl]; omega) h
    rw [if_pos rfl] at h1
    have h2 : mnF 1000000000 (fun k => bf n F n j k) n ≤ bf n F n j k := mnF_le 1000000000 (fun k => bf n F n j k) hk
    have h3 := bf_bd2 hF (s := n) hj hk
    omega
end Go.Proofs.YtjkfighooijblaaGreat
