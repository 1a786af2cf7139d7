/-
  Some texts of this proof in one: AsQ AsR AsD AsE AsF AsG AsH AsI AsJ. Each part tells what it proves. By an AI agent.
-/
import Derived.Test.YtnbenpalneodlaaAsP
import Derived.Test.YtnbenpalneodlaaAsC
import Derived.Test.YtnbenpalneodlaaWyG
import Derived.Test.YtnbenpalneodlaaMxC

/-
  Assignments, plain: sums over permutations; a best assignment leaves no negative circuit of exchanges. By an AI agent.
-/
namespace Go.Proofs.Ytnbenpalneodlaa

/-! ### sums -/
theorem smN_congr {f g : Nat → Int} : ∀ {n : Nat}, (∀ i, i < n → f i = g i) → smN f n = smN g n
  | 0, _ => rfl
  | n + 1, h => by unfold smN; rw [smN_congr (fun i hi => h i (by omega)), h n (by omega)]
theorem smN_add (f g : Nat → Int) : ∀ n, smN (fun i => f i + g i) n = smN f n + smN g n
  | 0 => rfl
  | n + 1 => by unfold smN; rw [smN_add f g n]; omega
theorem smN_sub (f g : Nat → Int) : ∀ n, smN (fun i => f i - g i) n = smN f n - smN g n
  | 0 => rfl
  | n + 1 => by unfold smN; rw [smN_sub f g n]; omega
theorem smN_le {f g : Nat → Int} : ∀ {n : Nat}, (∀ i, i < n → f i ≤ g i) → smN f n ≤ smN g n
  | 0, _ => Int.le_refl _
  | n + 1, h => by
    have := smN_le (n := n) (fun i hi => h i (by omega))
    have := h n (by omega)
    unfold smN
    omega
theorem smN_lt {f g : Nat → Int} {x : Nat} : ∀ {n : Nat}, (∀ i, i < n → f i ≤ g i) → x < n → f x < g x → smN f n < smN g n
  | n + 1, h, hx, hl => by
    unfold smN
    by_cases e : x = n
    · subst e
      have := smN_le (n := x) (fun i hi => h i (by omega))
      omega
    · have := smN_lt (n := n) (fun i hi => h i (by omega)) (by omega) hl
      have := h n (by omega)
      omega
theorem smN_zero {f : Nat → Int} : ∀ {n : Nat}, (∀ i, i < n → f i = 0) → smN f n = 0
  | 0, _ => rfl
  | n + 1, h => by unfold smN; rw [smN_zero (fun i hi => h i (by omega)), h n (by omega)]; rfl
theorem smN_point (f : Nat → Int) {x : Nat} : ∀ {n : Nat}, x < n → smN (fun y => if y = x then f y else 0) n = f x
  | n + 1, h => by
    unfold smN
    by_cases e : n = x
    · subst e
      rw [smN_zero (fun i hi => if_neg (by omega)), if_pos rfl, Int.zero_add]
    · rw [smN_point f (show x < n by omega), if_neg e, Int.add_zero]
def hitB (w : Nat → Nat) : Nat → Nat → Bool
  | 0, _ => false
  | t + 1, x => hitB w t x || decide (w t = x)
theorem hitB_t {w : Nat → Nat} {x : Nat} : ∀ {k : Nat}, hitB w k x = true ↔ ∃ t, t < k ∧ w t = x
  | 0 => by simp [hitB]
  | k + 1 => by
    unfold hitB
    rw [Bool.or_eq_true, hitB_t, decide_eq_true_eq]
    constructor
    · rintro (⟨t, h1, h2⟩ | h)
      · exact ⟨t, by omega, h2⟩
      · exact ⟨k, by omega, h⟩
    · rintro ⟨t, h1, h2⟩
      by_cases e : t = k
      · subst e; exact Or.inr h2
      · exact Or.inl ⟨t, by omega, h2⟩
theorem hitB_succ (w : Nat → Nat) (t x : Nat) : hitB w (t + 1) x = (hitB w t x || decide (w t = x)) := rfl
theorem smN_hits {n : Nat} (w : Nat → Nat) (h : Nat → Int) : ∀ {k : Nat}, (∀ t, t < k → w t < n) → (∀ i j, i < j → j < k → w i ≠ w j) → smN (fun x => if hitB w k x = true then h x else 0) n = smN (fun t => h (w t)) k
  | 0, _, _ => smN_zero (fun i _ => rfl)
  | k + 1, h1, h2 => by
    have ih := smN_hits (n := n) w h (k := k) (fun t ht => h1 t (by omega)) (fun i j hij hj => h2 i j hij (by omega))
    have hp := smN_point (n := n) h (h1 k (by omega))
    have : smN (fun x => if hitB w (k + 1) x = true then h x else 0) n = smN (fun x => (if hitB w k x = true then h x else 0) + (if x = w k then h x else 0)) n := smN_congr fun x _ => by
      by_cases e : x = w k
      · have hn : hitB w k x = false := by
          rw [Bool.eq_false_iff]
          intro hh
          obtain ⟨t, g1, g2⟩ := hitB_t.1 hh
          exact h2 t k g1 (by omega) (by rw [g2, e])
        rw [hitB_succ, hn, e]
        simp
      · have hd : decide (w k = x) = false := decide_eq_false (fun h => e h.symm)
        rw [hitB_succ, hd, Bool.or_false, if_neg e, Int.add_zero]
    rw [this, smN_add, ih, hp]
    rfl
theorem hit_all {n : Nat} (a : Nat → Nat) (h1 : ∀ t, t < n → a t < n) (h2 : ∀ i j, i < j → j < n → a i ≠ a j) {x : Nat} (hx : x < n) : hitB a n x = true := by
  cases hh : hitB a n x with
  | true => rfl
  | false =>
    have g1 := smN_hits (n := n) a (fun _ => 1) h1 h2
    have g2 := smN_lt (n := n) (f := fun x => if hitB a n x = true then (1 : Int) else 0) (g := fun _ => 1) (fun i _ => by split <;> omega) hx (by simp [hh])
    rw [g1] at g2
    omega
theorem smN_perm {n : Nat} (a : Nat → Nat) (h : Nat → Int) (h1 : ∀ t, t < n → a t < n) (h2 : ∀ i j, i < j → j < n → a i ≠ a j) : smN (fun t => h (a t)) n = smN h n := by
  rw [← smN_hits (n := n) a h h1 h2]
  exact smN_congr fun x hx => by rw [hit_all a h1 h2 hx, if_pos rfl]
theorem smN_tele (b : Nat → Int) : ∀ s, smN (fun t => b (t + 1)) s = smN b s + b s - b 0
  | 0 => by simp [smN]
  | s + 1 => by unfold smN; rw [smN_tele b s]; omega

/-! ### exchanges -/
def stA (m : Nat → Nat → Int) (A : List Int) : Nat → Nat → Int := fun i j => prodZ (m j (vx A i)) (-(m i (vx A i)))
section
variable {n : Nat} {m : Nat → Nat → Int} {A : List Int}
theorem Ndp.at {l : List Int} (h : Ndp n l) (hl : l.length = n) : (∀ t, t < n → vx l t < n) ∧ ∀ i j, i < j → j < n → vx l i ≠ vx l j := ⟨fun t ht => (vt_at h.vt (by omega)).2, fun i j h1 h2 => h.nd i j h1 (by omega)⟩
/-- a list by its numbers. -/
theorem vx_tab {g : Nat → Nat} {t : Nat} (h : t < n) : vx (tab n fun x => ((g x : Nat) : Int)) t = g t := by
  unfold vx
  rw [tab_getD h]
  rfl
theorem ndp_tab {g : Nat → Nat} (h1 : ∀ t, t < n → g t < n) (h2 : ∀ i j, i < j → j < n → g i ≠ g j) : Ndp n (tab n fun x => ((g x : Nat) : Int)) :=
  ⟨allB_t.2 fun t ht => by
    rw [tab_length] at ht
    rw [tab_getD ht]
    have := h1 t ht
    omega, fun i j hij hj => by
    rw [tab_length] at hj
    rw [vx_tab (by omega), vx_tab hj]
    exact h2 i j hij hj⟩
theorem stA_ne {i j : Nat} (h : stA m A i j ≠ 1000000000) : m j (vx A i) ≠ 1000000000 ∧ stA m A i j = m j (vx A i) - m i (vx A i) := by
  unfold stA at h ⊢
  obtain ⟨h1, h2, h3⟩ := prodZ_ne h
  exact ⟨h1, by rw [h3]; omega⟩
theorem no_neg (hm : ∀ a b, a < n → b < n → numB (m a b) = true) (hn : 1 ≤ n ∧ n ≤ 6) (hA : Ndp n A) (hl : A.length = n) (hf : finP m A = true) (opt : ∀ c, Ndp n c → c.length = n → finP m c = true → costP m A ≤ costP m c) :
    ∀ (s : Nat) {x : Nat} {c : Int}, Wk n (stA m A) x x c s → 0 ≤ c := by
  intro s
  induction s using Nat.strongRecOn with
  | ind s ih =>
    intro x c h
    obtain ⟨v, P, h1, h2, h3, h4, h5, h6⟩ := h.split
    by_cases hrep : ∃ a b, a < b ∧ b ≤ s ∧ v a = v b ∧ b - a < s
    · obtain ⟨a, b, g1, g2, g3, g4⟩ := hrep
      have w1 := h6 0 a (Nat.zero_le _) (by omega)
      have w2 := h6 a b (by omega) (by omega)
      have w3 := h6 b s g2 (Nat.le_refl _)
      rw [← g3] at w2 w3
      have q2 := ih _ g4 w2
      have w5 := w1.append w3
      rw [h1, h2] at w5
      have q5 := ih _ (by omega) w5
      rw [h3, h4] at q5
      omega
    · by_cases hs0 : s = 0
      · subst hs0
        rw [h3] at h4
        omega
      · have hdis : ∀ a b, a < b → b < s → v a ≠ v b := fun a b g1 g2 e => hrep ⟨a, b, g1, by omega, e, by omega⟩
        have hvs : v s = v 0 := by rw [h1, h2]
        obtain ⟨a1, a2⟩ := hA.at hl
        have hfin := fun i (hi : i < n) => fnB_t.1 hf i (by omega)
        have hnum := fun i (hi : i < n) => numB_t (hm i (vx A i) hi (a1 i hi))
        have hstep : ∀ t, t < s → m (v (t + 1)) (vx A (v t)) ≠ 1000000000 ∧ P (t + 1) - P t = m (v (t + 1)) (vx A (v t)) - m (v t) (vx A (v t)) := fun t ht => by
          have w := h6 t (t + 1) (by omega) (by omega)
          obtain ⟨_, _, e1, e2⟩ := (w.cast rfl (show t + 1 - t = 1 by omega)).inv1
          have hvt := h5 t (by omega)
          have := hnum (v t) hvt
          have := stA_ne e1
          exact ⟨this.1, by rw [e2]; exact this.2⟩
        -- the exchanged assignment
        let w : Nat → Nat := fun t => v (t + 1)
        have hwn : ∀ t, t < s → w t < n := fun t ht => h5 (t + 1) (by omega)
        have hwd : ∀ i j, i < j → j < s → w i ≠ w j := fun i j g1 g2 e => by
          by_cases e2 : j + 1 = s
          · have e3 : v (i + 1) = v 0 := by
              have : v (i + 1) = v (j + 1) := e
              rw [this, e2, hvs]
            exact hdis 0 (i + 1) (by omega) (by omega) e3.symm
          · exact hdis (i + 1) (j + 1) (by omega) (by omega) e
        let g : Nat → Nat := fun y => if fstN (fun t => decide (w t = y)) s 0 < s then vx A (v (fstN (fun t => decide (w t = y)) s 0)) else vx A y
        have hg1 : ∀ t, t < s → g (w t) = vx A (v t) := fun t ht => by
          have e : fstN (fun q => decide (w q = w t)) s 0 = t := fst_eq ht (by simp) (fun i hi => by simpa using hwd i t hi ht)
          simp only [g, e, if_pos ht]
        have hg2 : ∀ y, hitB w s y = false → g y = vx A y := fun y hy => by
          have : ¬ fstN (fun q => decide (w q = y)) s 0 < s := fun hlt => by
            have hsp : ∀ (p : Nat → Bool) (f k : Nat), fstN p f k < k + f → p (fstN p f k) = true := by
              intro p f
              induction f with
              | zero => intro k hk; unfold fstN at hk; omega
              | succ f ihf =>
                intro k hk
                unfold fstN at hk ⊢
                split
                · rename_i hp; exact hp
                · rename_i hp
                  rw [if_neg hp] at hk
                  exact ihf (k + 1) (by omega)
            have := hsp (fun q => decide (w q = y)) s 0 (by omega)
            have h9 : hitB w s y = true := hitB_t.2 ⟨_, hlt, by simpa using this⟩
            rw [hy] at h9; cases h9
          simp only [g, if_neg this]
        have hgn : ∀ y, y < n → g y < n := fun y hy => by
          cases hh : hitB w s y with
          | false => rw [hg2 y hh]; exact a1 y hy
          | true =>
            obtain ⟨t, g1, rfl⟩ := hitB_t.1 hh
            rw [hg1 t g1]
            exact a1 _ (h5 t (by omega))
        have ainj : ∀ i j, i < n → j < n → vx A i = vx A j → i = j := fun i j hi hj e => by
          rcases Nat.lt_trichotomy i j with q | q | q
          · exact absurd e (a2 i j q hj)
          · exact q
          · exact absurd e.symm (a2 j i q hi)
        have vhit : ∀ t, t < s → hitB w s (v t) = true := fun t ht => by
          cases t with
          | zero => exact hitB_t.2 ⟨s - 1, by omega, by show v (s - 1 + 1) = v 0; rw [show s - 1 + 1 = s by omega, hvs]⟩
          | succ t => exact hitB_t.2 ⟨t, by omega, rfl⟩
        have hgi : ∀ i j, i < n → j < n → g i = g j → i = j := fun i j hi hj e => by
          cases hhi : hitB w s i with
          | false =>
            cases hhj : hitB w s j with
            | false => rw [hg2 i hhi, hg2 j hhj] at e; exact ainj i j hi hj e
            | true =>
              obtain ⟨t, g1, rfl⟩ := hitB_t.1 hhj
              rw [hg2 i hhi, hg1 t g1] at e
              have := ainj i (v t) hi (h5 t (by omega)) e
              rw [this, vhit t g1] at hhi
              cases hhi
          | true =>
            obtain ⟨q, g0, rfl⟩ := hitB_t.1 hhi
            cases hhj : hitB w s j with
            | false =>
              rw [hg1 q g0, hg2 j hhj] at e
              have := ainj (v q) j (h5 q (by omega)) hj e
              rw [← this, vhit q g0] at hhj
              cases hhj
            | true =>
              obtain ⟨t, g1, rfl⟩ := hitB_t.1 hhj
              rw [hg1 q g0, hg1 t g1] at e
              have e2 := ainj (v q) (v t) (h5 q (by omega)) (h5 t (by omega)) e
              have : q = t := by
                rcases Nat.lt_trichotomy q t with z | z | z
                · exact absurd e2 (hdis q t z g1)
                · exact z
                · exact absurd e2.symm (hdis t q z g0)
              rw [this]
        have hG := ndp_tab hgn (fun i j h1 h2 e => absurd (hgi i j (by omega) h2 e) (by omega))
        have hGl := tab_length n (fun x => ((g x : Nat) : Int))
        have hGv : ∀ i, i < n → vx (tab n fun x => ((g x : Nat) : Int)) i = g i := fun i hi => vx_tab hi
        have hGf : finP m (tab n fun x => ((g x : Nat) : Int)) = true := fnB_t.2 fun i hi => by
          rw [hGl] at hi
          rw [hGv i hi]
          cases hh : hitB w s i with
          | false => rw [hg2 i hh]; exact hfin i hi
          | true =>
            obtain ⟨t, g1, rfl⟩ := hitB_t.1 hh
            rw [hg1 t g1]
            exact (hstep t g1).1
        have hopt := opt _ hG hGl hGf
        obtain ⟨_, c1⟩ := prm_cost hm hn hA hl
        obtain ⟨_, c2⟩ := prm_cost hm hn hG hGl
        rcases c1 with ⟨c1, _⟩ | ⟨_, _, c1, _⟩
        · rw [hf] at c1; cases c1
        rcases c2 with ⟨c2, _⟩ | ⟨_, _, c2, _⟩
        · rw [hGf] at c2; cases c2
        rw [c1, c2] at hopt
        have e1 : smN (fun i => m i (vx (tab n fun x => ((g x : Nat) : Int)) i)) n - smN (fun i => m i (vx A i)) n = smN (fun t => m (v (t + 1)) (vx A (v t)) - m (v (t + 1)) (vx A (v (t + 1)))) s := by
          rw [← smN_sub, show (fun t => m (v (t + 1)) (vx A (v t)) - m (v (t + 1)) (vx A (v (t + 1)))) = (fun t => (fun y => m y (vx A (v t)) - m y (vx A y)) (w t)) from rfl]
          have e2 : smN (fun t => (fun y => m y (vx A (v t)) - m y (vx A y)) (w t)) s = smN (fun t => (fun y => m y (g y) - m y (vx A y)) (w t)) s := smN_congr fun t ht => by
            simp only [hg1 t ht]
          rw [e2, ← smN_hits (n := n) w (fun y => m y (g y) - m y (vx A y)) hwn hwd]
          exact smN_congr fun y hy => by
            rw [hGv y hy]
            cases hh : hitB w s y with
            | true => rw [if_pos rfl]
            | false => rw [if_neg (by simp), hg2 y hh]; omega
        have e3 : c = smN (fun t => P (t + 1) - P t) s := by
          rw [smN_sub, smN_tele, h3, h4]
          omega
        have e4 : smN (fun t => P (t + 1) - P t) s = smN (fun t => m (v (t + 1)) (vx A (v t)) - m (v t) (vx A (v t))) s := smN_congr fun t ht => (hstep t ht).2
        have e34 := e3.trans e4
        rw [smN_sub] at e1 e34
        have e5 := smN_tele (fun t => m (v t) (vx A (v t))) s
        simp only [hvs] at e5
        omega
end
end Go.Proofs.Ytnbenpalneodlaa

/-
  Prices, plain: the least lengths of exchanges, in place (the program) and by matrices (the reference), are the same; they are prices and prove the best. By an AI agent.
-/
namespace Go.Proofs.Ytnbenpalneodlaa

def bd2 (n : Nat) (F : Nat → Nat → Int) : Prop := ∀ a b, a < n → b < n → F a b = 1000000000 ∨ (-2000000 ≤ F a b ∧ F a b ≤ 2000000)
section
variable {n : Nat} {F : Nat → Nat → Int}
theorem Wk.bd2 (hF : bd2 n F) {i k s : Nat} {c : Int} (h : Wk n F i k c s) : -(2000000 * (s : Int)) ≤ c ∧ c ≤ 2000000 * (s : Int) := by
  induction h with
  | nil _ => simp
  | snoc h hk hne ih =>
    have := hF _ _ h.last hk
    rw [Int.natCast_add, Int.mul_add]
    omega
theorem bf_bd2 (hF : bd2 n F) {s i k : Nat} (hi : i < n) (hk : k < n) : bf n F s i k = 1000000000 ∨ (-(2000000 * (s : Int)) ≤ bf n F s i k ∧ bf n F s i k ≤ 2000000 * (s : Int)) := by
  by_cases h : bf n F s i k = 1000000000
  · exact Or.inl h
  · obtain ⟨t, h1, h2⟩ := bf_sound s hi hk h
    have := h2.bd2 hF
    exact Or.inr (by omega)
theorem bf_le2 (hF : bd2 n F) {i k s : Nat} {c : Int} (h : Wk n F i k c s) (hs : s < 400) : bf n F s i k ≠ 1000000000 ∧ bf n F s i k ≤ c := by
  induction h with
  | nil _ => unfold bf; rw [if_pos rfl]; omega
  | snoc hw hk hne ih =>
    rename_i j k s c
    obtain ⟨h1, h2⟩ := ih (by omega)
    have h3 := mnF_le (bf n F s i k) (fun j => prodZ (bf n F s i j) (F j k)) hw.last
    rw [prodZ_fin h1 hne] at h3
    have h4 := bf_bd2 hF (s := s) hw.first hw.last
    have h5 := hF _ _ hw.last hk
    rw [bf]
    omega
/-- the least cost of walks to j. -/
def LeastW (n : Nat) (F : Nat → Nat → Int) (j : Nat) (U : Int) : Prop := (∃ i s, Wk n F i j U s) ∧ ∀ i c s, Wk n F i j c s → U ≤ c
theorem LeastW.uniq {j : Nat} {U V : Int} (h : LeastW n F j U) (g : LeastW n F j V) : U = V := by
  obtain ⟨⟨i, s, h1⟩, h2⟩ := h
  obtain ⟨⟨a, t, g1⟩, g2⟩ := g
  have := h2 _ _ _ g1
  have := g2 _ _ _ h1
  omega
theorem LeastW.bd (hF : bd2 n F) (hn : n ≤ 6) (hc : ∀ x c s, Wk n F x x c s → 0 ≤ c) {j : Nat} {U : Int} (hj : j < n) (h : LeastW n F j U) : -12000000 ≤ U ∧ U ≤ 0 := by
  obtain ⟨⟨i, s, h1⟩, h2⟩ := h
  obtain ⟨c', s', g1, g2, g3⟩ := Wk.short hc _ h1
  have g4 := g1.bd2 hF
  have g5 := h2 _ _ _ (Wk.nil hj)
  omega
/-! the reference's -/
def uR (n : Nat) (F : Nat → Nat → Int) (j : Nat) : Int := mnF 0 (fun i => bf n F n i j) n
theorem uR_least (hF : bd2 n F) (hn : n ≤ 6) (hc : ∀ x c s, Wk n F x x c s → 0 ≤ c) {j : Nat} (hj : j < n) : LeastW n F j (uR n F j) := by
  unfold uR
  refine ⟨?_, fun i c s h => ?_⟩
  · have h0 := mnF_start 0 (fun i => bf n F n i j) n
    rcases mnF_at 0 (fun i => bf n F n i j) n with e | ⟨i, hi, e⟩
    · rw [e]; exact ⟨j, 0, Wk.nil hj⟩
    · rw [e] at h0 ⊢
      obtain ⟨t, _, h1⟩ := bf_sound n hi hj (show bf n F n i j ≠ 1000000000 by omega)
      exact ⟨i, t, h1⟩
  · obtain ⟨c', s', g1, g2, g3⟩ := Wk.short hc _ h
    have g4 := (bf_le2 hF g1 (by omega)).2
    have g5 := bf_mono (n := n) (m := F) (show s' ≤ n by omega) i j
    have g6 : mnF 0 (fun i => bf n F n i j) n ≤ bf n F n i j := mnF_le 0 (fun i => bf n F n i j) h.first
    omega
/-! the program's, in place -/
def relx (F : Nat → Nat → Int) (G : Nat → Int) (i j : Nat) : Nat → Int := fun b => if b = j then leastZ (G j) (prodZ (G i) (F i j)) else G b
def rxJ (F : Nat → Nat → Int) (i : Nat) (G : Nat → Int) : Nat → Nat → Int
  | 0 => G
  | j + 1 => relx F (rxJ F i G j) i j
def rxI (n : Nat) (F : Nat → Nat → Int) (G : Nat → Int) : Nat → Nat → Int
  | 0 => G
  | i + 1 => rxJ F i (rxI n F G i) n
def rxR (n : Nat) (F : Nat → Nat → Int) : Nat → Nat → Int
  | 0 => fun _ => 0
  | r + 1 => rxI n F (rxR n F r) n
theorem relx_le (F : Nat → Nat → Int) (G : Nat → Int) (i j b : Nat) : relx F G i j b ≤ G b := by
  unfold relx leastZ
  split
  · rename_i h; subst h; split <;> omega
  · exact Int.le_refl _
theorem rxJ_le (F : Nat → Nat → Int) (i : Nat) (G : Nat → Int) (b : Nat) {s t : Nat} (h : s ≤ t) : rxJ F i G t b ≤ rxJ F i G s b := by
  induction t with
  | zero => rw [show s = 0 by omega]; exact Int.le_refl _
  | succ t ih =>
    by_cases e : s = t + 1
    · rw [e]; exact Int.le_refl _
    · exact Int.le_trans (relx_le _ _ _ _ _) (ih (by omega))
theorem rxI_le (F : Nat → Nat → Int) (G : Nat → Int) (b : Nat) {s t : Nat} (h : s ≤ t) : rxI n F G t b ≤ rxI n F G s b := by
  induction t with
  | zero => rw [show s = 0 by omega]; exact Int.le_refl _
  | succ t ih =>
    by_cases e : s = t + 1
    · rw [e]; exact Int.le_refl _
    · exact Int.le_trans (rxJ_le F t _ b (Nat.zero_le n)) (ih (by omega))
/-- each is the cost of a walk, and at most 0. -/
def SndG (n : Nat) (F : Nat → Nat → Int) (G : Nat → Int) : Prop := ∀ j, j < n → G j ≤ 0 ∧ ∃ i s, Wk n F i j (G j) s
theorem relx_snd {G : Nat → Int} {i j : Nat} (hi : i < n) (hj : j < n) (h : SndG n F G) : SndG n F (relx F G i j) := by
  intro b hb
  refine ⟨Int.le_trans (relx_le _ _ _ _ _) (h b hb).1, ?_⟩
  unfold relx
  split
  · rename_i e
    subst e
    unfold leastZ
    split
    · exact (h b hb).2
    · rename_i hlt
      have h0 := (h b hb).1
      have hne : prodZ (G i) (F i b) ≠ 1000000000 := by omega
      obtain ⟨h1, h2, h3⟩ := prodZ_ne hne
      obtain ⟨a, s, hw⟩ := (h i hi).2
      rw [h3]
      exact ⟨a, s + 1, Wk.snoc hw hb h2⟩
  · exact (h b hb).2
theorem rxJ_snd {G : Nat → Int} {i : Nat} (hi : i < n) (h : SndG n F G) : ∀ {j}, j ≤ n → SndG n F (rxJ F i G j)
  | 0, _ => h
  | j + 1, hj => relx_snd hi (by omega) (rxJ_snd hi h (by omega))
theorem rxI_snd {G : Nat → Int} (h : SndG n F G) : ∀ {i}, i ≤ n → SndG n F (rxI n F G i)
  | 0, _ => h
  | i + 1, hi => rxJ_snd (by omega) (rxI_snd h (by omega)) (Nat.le_refl _)
theorem rxR_snd : ∀ r, SndG n F (rxR n F r)
  | 0 => fun j hj => ⟨Int.le_refl _, j, 0, Wk.nil hj⟩
  | r + 1 => rxI_snd (rxR_snd r) (Nat.le_refl _)
theorem snd_bd (hF : bd2 n F) (hn : n ≤ 6) (hc : ∀ x c s, Wk n F x x c s → 0 ≤ c) {G : Nat → Int} (h : SndG n F G) {j : Nat} (hj : j < n) : -12000000 ≤ G j ∧ G j ≤ 0 := by
  obtain ⟨h0, i, s, h1⟩ := h j hj
  obtain ⟨c', s', g1, g2, g3⟩ := Wk.short hc _ h1
  have g4 := g1.bd2 hF
  omega
theorem rxR_all {i j s : Nat} {c : Int} (h : Wk n F i j c s) : ∀ {r : Nat}, s ≤ r → rxR n F r j ≤ c := by
  induction h with
  | nil hi => exact fun {r} _ => (rxR_snd r _ hi).1
  | snoc hw hk hne ih =>
    rename_i p q s c
    intro r hr
    obtain ⟨r, rfl⟩ : ∃ r', r = r' + 1 := ⟨r - 1, by omega⟩
    have h1 := ih (r := r) (by omega)
    have hp := hw.last
    have h2 : rxR n F (r + 1) q ≤ rxI n F (rxR n F r) (p + 1) q := rxI_le F _ q (by omega)
    have h3 : rxI n F (rxR n F r) (p + 1) q ≤ rxJ F p (rxI n F (rxR n F r) p) (q + 1) q := rxJ_le F p _ q (by omega)
    have h4 : rxJ F p (rxI n F (rxR n F r) p) q p ≤ rxR n F r p := Int.le_trans (rxJ_le F p _ p (Nat.zero_le q)) (rxI_le F _ p (Nat.zero_le p))
    have h5 : rxJ F p (rxI n F (rxR n F r) p) (q + 1) q = leastZ (rxJ F p (rxI n F (rxR n F r) p) q q) (prodZ (rxJ F p (rxI n F (rxR n F r) p) q p) (F p q)) := by
      show relx F (rxJ F p (rxI n F (rxR n F r) p) q) p q q = _
      unfold relx
      rw [if_pos rfl]
    have h6 := (rxJ_snd (F := F) (j := q) hp (rxI_snd (rxR_snd r) (Nat.le_of_lt hp)) (by omega) p hp).1
    rw [prodZ_fin (by omega) hne] at h5
    have h7 : leastZ (rxJ F p (rxI n F (rxR n F r) p) q q) (rxJ F p (rxI n F (rxR n F r) p) q p + F p q) ≤ rxJ F p (rxI n F (rxR n F r) p) q p + F p q := by unfold leastZ; split <;> omega
    omega
theorem uI_least (hc : ∀ x c s, Wk n F x x c s → 0 ≤ c) {j : Nat} (hj : j < n) : LeastW n F j (rxR n F n j) := by
  refine ⟨(rxR_snd n j hj).2, fun i c s h => ?_⟩
  obtain ⟨c', s', g1, g2, g3⟩ := Wk.short hc _ h
  have := rxR_all g1 (r := n) (by omega)
  omega
theorem uI_uR (hF : bd2 n F) (hn : n ≤ 6) (hc : ∀ x c s, Wk n F x x c s → 0 ≤ c) {j : Nat} (hj : j < n) : rxR n F n j = uR n F j := (uI_least hc hj).uniq (uR_least hF hn hc hj)
end

/-! ### prices -/
section
variable {n : Nat} {m : Nat → Nat → Int} {A : List Int}
/-- A best assignment. -/
structure BstA (n : Nat) (m : Nat → Nat → Int) (A : List Int) : Prop where
  num : ∀ a b, a < n → b < n → numB (m a b) = true
  n6 : 1 ≤ n ∧ n ≤ 6
  nd : Ndp n A
  len : A.length = n
  fin : finP m A = true
  opt : ∀ c, Ndp n c → c.length = n → finP m c = true → costP m A ≤ costP m c
theorem BstA.at (h : BstA n m A) {i : Nat} (hi : i < n) : vx A i < n ∧ m i (vx A i) ≠ 1000000000 ∧ -1000000 ≤ m i (vx A i) ∧ m i (vx A i) ≤ 1000000 := by
  have h1 := (h.nd.at h.len).1 i hi
  have h2 := fnB_t.1 h.fin i (by rw [h.len]; exact hi)
  have h3 := numB_t (h.num i (vx A i) hi h1)
  exact ⟨h1, h2, by omega, by omega⟩
theorem BstA.bd (h : BstA n m A) : bd2 n (stA m A) := fun a b ha hb => by
  have h1 := h.at ha
  have h2 := numB_t (h.num b (vx A a) hb h1.1)
  unfold stA
  by_cases e : m b (vx A a) = 1000000000
  · exact Or.inl (prodZ_inf (Or.inl e))
  · rw [prodZ_fin e (by omega)]
    exact Or.inr (by omega)
theorem BstA.cyc (h : BstA n m A) : ∀ x c s, Wk n (stA m A) x x c s → 0 ≤ c := fun _ _ s hw => no_neg h.num h.n6 h.nd h.len h.fin h.opt s hw
def prU (n : Nat) (m : Nat → Nat → Int) (A : List Int) : Nat → Int := uR n (stA m A)
def invA (n : Nat) (A : List Int) (k : Nat) : Nat := fstN (fun i => decide (vx A i = k)) n 0
def prV (n : Nat) (m : Nat → Nat → Int) (A : List Int) (k : Nat) : Int := m (invA n A k) k - prU n m A (invA n A k)
theorem BstA.inv (h : BstA n m A) {i : Nat} (hi : i < n) : invA n A (vx A i) = i := fst_eq hi (by simp) (fun t ht => by simpa using (h.nd.at h.len).2 t i ht hi)
theorem BstA.hit (h : BstA n m A) {k : Nat} (hk : k < n) : ∃ i, i < n ∧ vx A i = k := hitB_t.1 (hit_all (vx A) (h.nd.at h.len).1 (h.nd.at h.len).2 hk)
theorem BstA.U (h : BstA n m A) {i : Nat} (hi : i < n) : -12000000 ≤ prU n m A i ∧ prU n m A i ≤ 0 := (uR_least h.bd h.n6.2 h.cyc hi).bd h.bd h.n6.2 h.cyc hi
theorem BstA.V (h : BstA n m A) {i : Nat} (hi : i < n) : prV n m A (vx A i) = m i (vx A i) - prU n m A i := by unfold prV; rw [h.inv hi]
theorem BstA.Vb (h : BstA n m A) {k : Nat} (hk : k < n) : -1000000 ≤ prV n m A k ∧ prV n m A k ≤ 13000000 := by
  obtain ⟨i, hi, rfl⟩ := h.hit hk
  rw [h.V hi]
  have := h.at hi
  have := h.U hi
  omega
/-- they are prices. -/
theorem BstA.prices (h : BstA n m A) {i k : Nat} (hi : i < n) (hk : k < n) : prU n m A i + prV n m A k ≤ m i k := by
  obtain ⟨p, hp, rfl⟩ := h.hit hk
  have h1 := h.V hp
  have h2 := h.U hi
  have h3 := h.Vb hk
  have h4 := numB_t (h.num i (vx A p) hi hk)
  by_cases e : m i (vx A p) = 1000000000
  · omega
  · have h5 := h.at hp
    have e2 : stA m A p i = m i (vx A p) - m p (vx A p) := by unfold stA; rw [prodZ_fin e (by omega)]; omega
    obtain ⟨⟨a, s, hw⟩, _⟩ := uR_least h.bd h.n6.2 h.cyc hp
    have hw2 := Wk.snoc hw hi (show stA m A p i ≠ 1000000000 by omega)
    have h6 := (uR_least h.bd h.n6.2 h.cyc hi).2 _ _ _ hw2
    rw [e2] at h6
    unfold prU at h1 ⊢
    omega
/-- together they make up the best cost. -/
theorem BstA.sum (h : BstA n m A) : smN (prU n m A) n + smN (prV n m A) n = costP m A := by
  obtain ⟨_, c1⟩ := prm_cost h.num h.n6 h.nd h.len
  rcases c1 with ⟨c1, _⟩ | ⟨_, _, c1, _⟩
  · rw [h.fin] at c1; cases c1
  rw [c1, ← smN_perm (n := n) (vx A) (prV n m A) (h.nd.at h.len).1 (h.nd.at h.len).2, ← smN_add]
  exact smN_congr fun i hi => by rw [h.V hi]; omega
end
/-- prices of any kind are no more than what an assignment costs. -/
theorem weak_dual {n : Nat} {m : Nat → Nat → Int} (hm : ∀ a b, a < n → b < n → numB (m a b) = true) (hn : 1 ≤ n ∧ n ≤ 6) {u v : Nat → Int} (h : ∀ i k, i < n → k < n → u i + v k ≤ m i k) {c : List Int} (hc : Ndp n c) (hl : c.length = n) (hf : finP m c = true) : smN u n + smN v n ≤ costP m c := by
  obtain ⟨_, c1⟩ := prm_cost hm hn hc hl
  rcases c1 with ⟨c1, _⟩ | ⟨_, _, c1, _⟩
  · rw [hf] at c1; cases c1
  rw [c1, ← smN_perm (n := n) (vx c) v (hc.at hl).1 (hc.at hl).2, ← smN_add]
  exact smN_le fun i hi => h i (vx c i) hi ((hc.at hl).1 i hi)
end Go.Proofs.Ytnbenpalneodlaa

/-
  The best assignment and the prices of rows and columns: the program's. By an AI agent.
-/
namespace Go.Proofs.Ytnbenpalneodlaa
open Go.RowKit

theorem bst_of {M : List (List Int)} (h : bsB M = true) : BstA M.length (entM M) (bstA M.length (entM M)).2 ∧ (bstA M.length (entM M)).1 = costP (entM M) (bstA M.length (entM M)).2 := by
  unfold bsB at h
  simp only [Bool.and_eq_true, Bool.not_eq_true', decide_eq_false_iff_not] at h
  obtain ⟨hn, _, hnum⟩ := sq_facts h.1
  rcases best_spec (m := entM M) hnum hn with ⟨h3, _⟩ | ⟨h3, h4, h5, h6, h7⟩
  · rw [h3] at h; exact absurd rfl h.2
  · exact ⟨⟨hnum, hn, h3, h4, h5, fun c g1 g2 g3 => by rw [← h6]; exact h7 c g1 g2 g3⟩, h6⟩

end Go.Proofs.Ytnbenpalneodlaa

/-
  The best assignment and the prices, the program's: what it tells. By an AI agent.
-/
namespace Go.Proofs.Ytnbenpalneodlaa
open Go.RowKit

def bsL (M : List (List Int)) : List Int := (bstA M.length (entM M)).2
def bsC (M : List (List Int)) : Int := (bstA M.length (entM M)).1
def rpL (M : List (List Int)) : List Int := tab M.length (prU M.length (entM M) (bsL M))
def cpL (M : List (List Int)) : List Int := tab M.length (prV M.length (entM M) (bsL M))
def baB (M : List (List Int)) : Bool := bsB M && numB (bsC M)
def rpB (M : List (List Int)) : Bool := bsB M && (rpL M).all numB
def cpB (M : List (List Int)) : Bool := bsB M && (cpL M).all numB
def BesR (B : Bool) (A : List Int) (c : Int) (w : World) (e : Ending) (w' : World) : Prop := ∃ ad cap, e = .returned (.tuple #[.slice ad (onL B A).length cap, .int .i64 (if B = true then c else 0), .bool B]) ∧ RdI w' ad (onL B A) ∧ Below w.heap.size w w'

end Go.Proofs.Ytnbenpalneodlaa

/-
  The prices of columns: the program's. By an AI agent.
-/
namespace Go.Proofs.Ytnbenpalneodlaa
open Go.RowKit

def colF (n : Nat) (m : Nat → Nat → Int) (A : List Int) (i k : Nat) : Int := if hitB (vx A) i k = true then prV n m A k else 0
theorem colF_succ {n : Nat} {m : Nat → Nat → Int} {A : List Int} {i : Nat} (k : Nat) : (if k = vx A i then prV n m A (vx A i) else colF n m A i k) = colF n m A (i + 1) k := by
  unfold colF
  rw [hitB_succ]
  by_cases e : k = vx A i
  · subst e; simp
  · have : decide (vx A i = k) = false := decide_eq_false (fun h => e h.symm)
    rw [if_neg e, this, Bool.or_false]
theorem RdI.chgF {w w' : World} {c b off : Nat} {xs : List Int} (h : RdI w (some ⟨b, off, none⟩) xs) (hc : Chg c w w') (ho : b ≠ c) : RdI w' (some ⟨b, off, none⟩) xs := h.chg hc (fun o e => by
  injection e with e
  injection e with e _ _
  exact ho e)

end Go.Proofs.Ytnbenpalneodlaa

/-
  Prices and assignments are tested: the program's. By an AI agent.
-/
namespace Go.Proofs.Ytnbenpalneodlaa
open Go.RowKit

def prcQ (n : Nat) (m : Nat → Nat → Int) (u v : List Int) : Bool := (List.range n).all fun i => (List.range n).all fun k => decide (u.getD i 0 + v.getD k 0 ≤ m i k)
theorem prcQ_t {n : Nat} {m : Nat → Nat → Int} {u v : List Int} : prcQ n m u v = true ↔ ∀ i k, i < n → k < n → u.getD i 0 + v.getD k 0 ≤ m i k := by
  unfold prcQ
  simp only [List.all_eq_true, List.mem_range, decide_eq_true_eq]
  exact ⟨fun h i k hi hk => h i hi k hk, fun h i hi k hk => h i k hi hk⟩

def lsm (l : List Int) : Int := smN (fun i => l.getD i 0) l.length
theorem smN_bd {f : Nat → Int} {K : Int} : ∀ {t : Nat}, (∀ i, i < t → -K ≤ f i ∧ f i ≤ K) → -(K * (t : Int)) ≤ smN f t ∧ smN f t ≤ K * (t : Int)
  | 0, _ => by simp [smN]
  | t + 1, h => by
    have h1 := smN_bd (t := t) (fun i hi => h i (by omega))
    have h2 := h t (by omega)
    unfold smN
    rw [Int.natCast_add, Int.mul_add]
    constructor
    · have : K * ((1 : Nat) : Int) = K := by simp
      omega
    · have : K * ((1 : Nat) : Int) = K := by simp
      omega
end Go.Proofs.Ytnbenpalneodlaa

/-
  Whether a list is an assignment; proved assignments: the program's. By an AI agent.
-/
namespace Go.Proofs.Ytnbenpalneodlaa
open Go.RowKit

def ndF (n : Nat) (a : List Int) : Nat → Bool
  | 0 => true
  | t + 1 => ndF n a t && (inB (a.getD t 0) 0 ((n : Int) - 1) && !(a.take t).contains (a.getD t 0))
def asgB (n : Nat) (a : List Int) : Bool := decide (a.length = n) && ndF n a a.length
theorem take_vx {a : List Int} {t i : Nat} (h : i < t) (_ht : t ≤ a.length) : vx (a.take t) i = vx a i := by
  unfold vx
  rw [List.getD_eq_getElem?_getD, List.getElem?_take, if_pos h, ← List.getD_eq_getElem?_getD]
theorem take_snocA {a : List Int} {t : Nat} (h : t < a.length) : a.take (t + 1) = a.take t ++ [a.getD t 0] := by
  rw [List.take_succ_eq_append_getElem h, List.getD_eq_getElem?_getD, List.getElem?_eq_getElem h, Option.getD_some]
theorem ndF_ndp {n : Nat} {a : List Int} : ∀ {t : Nat}, t ≤ a.length → ndF n a t = true → Ndp n (a.take t)
  | 0, _, _ => by rw [List.take_zero]; exact Ndp.nil n
  | t + 1, ht, h => by
    unfold ndF at h
    simp only [Bool.and_eq_true, Bool.not_eq_true'] at h
    obtain ⟨h1, h2, h3⟩ := h
    have h4 := inB_t.1 h2
    have ih := ndF_ndp (t := t) (by omega) h1
    rw [take_snocA (by omega)]
    obtain ⟨k, hk⟩ : ∃ k : Nat, a.getD t 0 = (k : Int) := ⟨(a.getD t 0).toNat, by omega⟩
    rw [hk] at h3 h4 ⊢
    exact ih.ext (by omega) (by simpa using h3)
theorem asg_ndp {n : Nat} {a : List Int} (h : asgB n a = true) : a.length = n ∧ Ndp n a := by
  unfold asgB at h
  rw [Bool.and_eq_true, decide_eq_true_eq] at h
  have := ndF_ndp (Nat.le_refl _) h.2
  rw [List.take_length] at this
  exact ⟨h.1, this⟩
theorem ndF_mono {n : Nat} {a : List Int} {s t : Nat} (h : s ≤ t) (ht : ndF n a t = true) : ndF n a s = true := by
  induction t with
  | zero => rw [show s = 0 by omega]; rfl
  | succ t ih =>
    by_cases e : s = t + 1
    · rw [e]; exact ht
    · unfold ndF at ht
      rw [Bool.and_eq_true] at ht
      exact ih (by omega) ht.1

end Go.Proofs.Ytnbenpalneodlaa

/-
  Prices, proved assignments, costs of assignments: the program's. By an AI agent.
-/
namespace Go.Proofs.Ytnbenpalneodlaa
open Go.RowKit

def oneP (M : List (List Int)) (u : List Int) : Bool := decide (u.length = M.length) && u.all finB
def askP (M : List (List Int)) (u v : List Int) : Bool := sqB M && (oneP M u && oneP M v)
def prcB (M : List (List Int)) (u v : List Int) : Bool := askP M u v && prcQ M.length (entM M) u v
def pvX (M : List (List Int)) (a u v : List Int) : Bool := askP M u v && (asgB M.length a && finP (entM M) a)
def pvB (M : List (List Int)) (a u v : List Int) : Bool := pvX M a u v && (prcQ M.length (entM M) u v && decide (lsm u + lsm v = costP (entM M) a))
def cgB (M : List (List Int)) (a : List Int) : Bool := sqB M && (asgB M.length a && finP (entM M) a)
theorem oneP_t {M : List (List Int)} {u : List Int} (h : oneP M u = true) : u.length = M.length ∧ ∀ i, i < M.length → -1000000 ≤ u.getD i 0 ∧ u.getD i 0 ≤ 1000000 := by
  unfold oneP at h
  rw [Bool.and_eq_true, decide_eq_true_eq, List.all_eq_true] at h
  refine ⟨h.1, fun i hi => ?_⟩
  have := h.2 (u.getD i 0) (by rw [List.getD_eq_getElem?_getD, List.getElem?_eq_getElem (by omega)]; exact List.getElem_mem _)
  exact inB_t.1 this
theorem askP_t {M : List (List Int)} {u v : List Int} (h : askP M u v = true) : sqB M = true ∧ oneP M u = true ∧ oneP M v = true := by
  unfold askP at h
  simp only [Bool.and_eq_true] at h
  exact h
theorem fin_cost {M : List (List Int)} {a : List Int} (hs : sqB M = true) (h : asgB M.length a = true) : (costP (entM M) a == 1000000000) = !finP (entM M) a ∧ (finP (entM M) a = true → -6000000 ≤ costP (entM M) a ∧ costP (entM M) a ≤ 6000000) := by
  obtain ⟨hn, _, hnum⟩ := sq_facts hs
  obtain ⟨h1, h2⟩ := asg_ndp h
  rcases (prm_cost (m := entM M) hnum hn h2 h1).2 with ⟨g1, g2⟩ | ⟨g1, g2, _, g3⟩
  · exact ⟨by rw [g1, g2]; rfl, fun h => by rw [g1] at h; cases h⟩
  · exact ⟨by rw [g1]; exact beq_eq_false_iff_ne.2 (by omega), fun _ => g3⟩

end Go.Proofs.Ytnbenpalneodlaa

/-
  Proved assignments: the program's. By an AI agent.
-/
namespace Go.Proofs.Ytnbenpalneodlaa
open Go.RowKit

end Go.Proofs.Ytnbenpalneodlaa
