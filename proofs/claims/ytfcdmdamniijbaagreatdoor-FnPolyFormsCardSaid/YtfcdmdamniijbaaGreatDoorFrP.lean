/-
  Fractions, plain: lowest terms, quotients undo products, floors, means, texts and their readings. No program in sight.
-/
import Derived.Test.YtfcdmdamniijbaaGreatDoorLineP
import Derived.Test.YtfcdmdamniijbaaGreatDoorFrG
import Derived.Test.YtfcdmdamniijbaaGreatDoorGraphP
namespace Go.Proofs.YtfcdmdamniijbaaGreatDoor
open Lib (decDigits decFrom digitVal)

structure Fr where
  n : Int
  d : Int
def Fr.z : Fr := ⟨0, 0⟩
def frV (f : Fr) : Value := .agg #[.int .i64 f.n, .int .i64 f.d]
def frB (f : Fr) : Bool := inB f.n (-1000000000) 1000000000 && (inB f.d 1 1000000000 && decide (gcdN f.n f.d = 1))
theorem frB_t {f : Fr} : frB f = true ↔ (-1000000000 ≤ f.n ∧ f.n ≤ 1000000000) ∧ (1 ≤ f.d ∧ f.d ≤ 1000000000) ∧ gcdN f.n f.d = 1 := by
  unfold frB
  rw [Bool.and_eq_true_iff, Bool.and_eq_true_iff, inB_t, inB_t, decide_eq_true_iff]
def sgG (n d : Int) : Int := if d < 0 then -gcdN n d else gcdN n d
def lowF (n d : Int) : Fr := ⟨Int.tdiv n (sgG n d), Int.tdiv d (sgG n d)⟩
theorem low_spec {n d : Int} (hd : d ≠ 0) : ∃ s : Int, s = sgG n d ∧ s ≠ 0 ∧ n = s * (lowF n d).n ∧ d = s * (lowF n d).d ∧ 1 ≤ (lowF n d).d ∧ gcdN (lowF n d).n (lowF n d).d = 1 := by
  have hg : 0 < Int.gcd n d := Nat.pos_of_ne_zero (fun h => hd (Int.gcd_eq_zero_iff.1 h).2)
  obtain ⟨a, ha⟩ : (Int.gcd n d : Int) ∣ n := Int.gcd_dvd_left ..
  obtain ⟨b, hb⟩ : (Int.gcd n d : Int) ∣ d := Int.gcd_dvd_right ..
  have hab : Int.gcd a b = 1 := by
    have h := Int.gcd_mul_left (m := (Int.gcd n d : Int)) (n := a) (k := b)
    rw [← ha, ← hb, Int.natAbs_natCast] at h
    exact Nat.eq_of_mul_eq_mul_left hg (by omega)
  obtain ⟨g, hgg⟩ : ∃ g, Int.gcd n d = g := ⟨_, rfl⟩
  have hgc : gcdN n d = (g : Int) := by unfold gcdN; rw [hgg]
  rw [hgg] at ha hb hg
  refine ⟨sgG n d, rfl, ?_⟩
  have hs : sgG n d = if d < 0 then -(g : Int) else g := by unfold sgG; rw [hgc]
  unfold lowF
  rw [hs]
  by_cases hdn : d < 0
  · rw [if_pos hdn]
    have hbn : b < 0 := by
      rcases Int.lt_or_le b 0 with h | h
      · exact h
      · have := Int.mul_nonneg (show (0 : Int) ≤ (g : Int) by omega) h
        omega
    have h1 : Int.tdiv n (-(g : Int)) = -a := by
      rw [ha, show (g : Int) * a = -(g : Int) * (-a) by rw [Int.neg_mul_neg]]
      exact Int.mul_tdiv_cancel_left _ (by omega)
    have h2 : Int.tdiv d (-(g : Int)) = -b := by
      rw [hb, show (g : Int) * b = -(g : Int) * (-b) by rw [Int.neg_mul_neg]]
      exact Int.mul_tdiv_cancel_left _ (by omega)
    simp only [h1, h2]
    refine ⟨by omega, by rw [Int.neg_mul_neg]; exact ha, by rw [Int.neg_mul_neg]; exact hb, by omega, ?_⟩
    unfold gcdN
    rw [Int.neg_gcd, Int.gcd_neg, hab]; rfl
  · rw [if_neg hdn]
    have hbn : 0 < b := by
      rcases Int.lt_or_le 0 b with h | h
      · exact h
      · have h3 := Int.mul_le_mul_of_nonneg_left h (show (0 : Int) ≤ (g : Int) by omega)
        rw [Int.mul_zero] at h3
        omega
    have h1 : Int.tdiv n (g : Int) = a := by rw [ha]; exact Int.mul_tdiv_cancel_left _ (by omega)
    have h2 : Int.tdiv d (g : Int) = b := by rw [hb]; exact Int.mul_tdiv_cancel_left _ (by omega)
    simp only [h1, h2]
    refine ⟨by omega, ha, hb, by omega, ?_⟩
    unfold gcdN
    rw [hab]; rfl
theorem cancelL {s a b : Int} (hs : s ≠ 0) (h : s * a = s * b) : a = b := Int.eq_of_mul_eq_mul_left hs h
theorem low_cross {n d : Int} (hd : d ≠ 0) : (lowF n d).n * d = (lowF n d).d * n := by
  obtain ⟨s, _, hs, h1, h2, _⟩ := low_spec (n := n) hd
  generalize (lowF n d).n = x at *
  generalize (lowF n d).d = y at *
  subst h1
  rw [h2, Int.mul_left_comm, Int.mul_left_comm y s x, Int.mul_comm x y]
theorem dvd_cop {a b c : Int} (h : a ∣ b * c) (g : Int.gcd a b = 1) : a ∣ c := by
  have h1 := Int.natAbs_dvd_natAbs.2 h
  rw [Int.natAbs_mul] at h1
  exact Int.natAbs_dvd_natAbs.1 (Nat.Coprime.dvd_of_dvd_mul_left (show Nat.Coprime a.natAbs b.natAbs from g) h1)
/-- A fraction in lowest terms is told by its quotient. -/
theorem low_unique {n d : Int} {f : Fr} (hd : d ≠ 0) (hf : frB f = true) (h : n * f.d = d * f.n) : lowF n d = f := by
  obtain ⟨s, _, hs, h1, h2, hy, hg⟩ := low_spec (n := n) hd
  obtain ⟨_, hfd, hfg⟩ := frB_t.1 hf
  generalize lowF n d = l at *
  obtain ⟨x, y⟩ := l
  obtain ⟨p, q⟩ := f
  simp only at h h1 h2 hy hg hfd hfg ⊢
  have hxq : x * q = y * p := by
    apply cancelL hs
    rw [← Int.mul_assoc, ← Int.mul_assoc, ← h1, ← h2]
    exact h
  have hgn : Int.gcd x y = 1 := by unfold gcdN at hg; omega
  have hfn : Int.gcd p q = 1 := by unfold gcdN at hfg; omega
  have d1 : y ∣ q := dvd_cop (b := x) (by rw [hxq]; exact Int.dvd_mul_right ..) (by rw [Int.gcd_comm]; exact hgn)
  have d2 : q ∣ y := dvd_cop (b := p) (by rw [Int.mul_comm, ← hxq]; exact Int.dvd_mul_left ..) (by rw [Int.gcd_comm]; exact hfn)
  have hyq : y = q := Int.le_antisymm (Int.le_of_dvd (by omega) d1) (Int.le_of_dvd (by omega) d2)
  subst hyq
  have hxp : x = p := cancelL (s := y) (by omega) (by rw [Int.mul_comm]; exact hxq)
  rw [hxp]
def mkB (n d : Int) : Bool := decide (d ≠ 0) && frB (lowF n d)
theorem mkB_t {n d : Int} : mkB n d = true ↔ d ≠ 0 ∧ frB (lowF n d) = true := by
  unfold mkB
  rw [Bool.and_eq_true_iff, decide_eq_true_iff]
def mulB (a b : Fr) : Bool := (frB a && frB b) && mkB (a.n * b.n) (a.d * b.d)
def divB (a b : Fr) : Bool := (frB a && frB b) && mkB (a.n * b.d) (a.d * b.n)
theorem mul_ne {a b : Int} (ha : a ≠ 0) (hb : b ≠ 0) : a * b ≠ 0 := Int.mul_ne_zero ha hb
/-- WHAT IS MULTIPLIED CAN BE DIVIDED AGAIN. -/
theorem mul_undo {a b : Fr} (h : mulB a b = true) (hb : b.n ≠ 0) :
    divB (lowF (a.n * b.n) (a.d * b.d)) b = true ∧ lowF ((lowF (a.n * b.n) (a.d * b.d)).n * b.d) ((lowF (a.n * b.n) (a.d * b.d)).d * b.n) = a := by
  unfold mulB at h
  obtain ⟨h1, h2⟩ := Bool.and_eq_true_iff.1 h
  obtain ⟨ha, hbb⟩ := Bool.and_eq_true_iff.1 h1
  obtain ⟨hne, hp⟩ := mkB_t.1 h2
  have hc := low_cross (n := a.n * b.n) hne
  have hpb := frB_t.1 hp
  have hab := frB_t.1 ha
  have hbt := frB_t.1 hbb
  unfold divB
  rw [hp, hbb]
  generalize lowF (a.n * b.n) (a.d * b.d) = p at *
  have hD : p.d * b.n ≠ 0 := mul_ne (by omega) hb
  have e : lowF (p.n * b.d) (p.d * b.n) = a := by
    apply low_unique hD ha
    rw [Int.mul_assoc, Int.mul_comm b.d a.d, hc, Int.mul_assoc, Int.mul_comm a.n b.n]
  refine ⟨?_, e⟩
  rw [mkB_t.2 ⟨hD, by rw [e]; exact ha⟩]
  rfl

/-! ### Floors -/
def floZ (n d : Int) : Int := n / d
def ceiZ (n d : Int) : Int := -(floZ (-n) d)
theorem flo_tdiv {n d : Int} (hd : 0 < d) : (if Int.tmod n d < 0 then Int.tdiv n d - 1 else Int.tdiv n d) = floZ n d := by
  have h1 := Int.mul_tdiv_add_tmod n d
  have h2 := Int.tmod_lt_of_pos n hd
  have h3 : -d < Int.tmod n d := by
    have := Int.natAbs_tmod n d
    have h4 : n.natAbs % d.natAbs < d.natAbs := Nat.mod_lt _ (by omega)
    omega
  have e1 := Int.mul_ediv_add_emod n d
  have e2 := Int.emod_nonneg n (show d ≠ 0 by omega)
  have e3 := Int.emod_lt_of_pos n hd
  unfold floZ
  generalize n / d = q at *
  generalize n % d = r at *
  generalize Int.tmod n d = s at *
  generalize Int.tdiv n d = t at *
  have key : ∀ t' s' : Int, d * t' + s' = n → 0 ≤ s' → s' < d → t' = q := fun t' s' k1 k2 k3 => by
    have k4 : d * (t' - q) = r - s' := by rw [Int.mul_sub]; omega
    rcases Int.lt_trichotomy (t' - q) 0 with h | h | h
    · have := Int.mul_le_mul_of_nonneg_left (show t' - q ≤ -1 by omega) (show 0 ≤ d by omega)
      omega
    · omega
    · have := Int.mul_le_mul_of_nonneg_left (show 1 ≤ t' - q by omega) (show 0 ≤ d by omega)
      omega
  split
  · exact key _ (s + d) (by rw [Int.mul_sub]; omega) (by omega) (by omega)
  · exact key _ s h1 (by omega) h2
theorem flo_ref {n d : Int} (hd : 0 < d) : (if (decide (n < 0) && !(Int.tmod n d == 0)) = true then Int.tdiv n d - 1 else Int.tdiv n d) = floZ n d := by
  rw [← flo_tdiv hd]
  congr 1
  apply propext
  constructor
  · intro h
    obtain ⟨h1, h2⟩ := Bool.and_eq_true_iff.1 h
    have h1 := of_decide_eq_true h1
    have h3 : Int.tmod n d ≠ 0 := fun e => by rw [e] at h2; exact absurd h2 (by decide)
    have h4 : Int.tmod n d ≤ 0 := by
      have h5 : 0 ≤ Int.tmod (-n) d := Int.tmod_nonneg _ (by omega)
      rw [Int.neg_tmod] at h5
      omega
    omega
  · intro h
    have hn : n < 0 := by
      rcases Int.lt_or_le n 0 with h1 | h1
      · exact h1
      · have := Int.tmod_nonneg d h1
        omega
    rw [decide_eq_true hn, beq_eq_false_iff_ne.2 (show Int.tmod n d ≠ 0 by omega)]
    rfl
theorem flo_bd {n d : Int} (hd : 0 < d) : floZ n d * d ≤ n ∧ n < (floZ n d + 1) * d := by
  have e1 := Int.mul_ediv_add_emod n d
  have e2 := Int.emod_nonneg n (show d ≠ 0 by omega)
  have e3 := Int.emod_lt_of_pos n hd
  unfold floZ
  rw [Int.mul_comm d] at e1
  rw [Int.add_mul, Int.one_mul]
  omega
theorem flo_abs {n d : Int} (hd : 0 < d) (hn : -1000000000 ≤ n ∧ n ≤ 1000000000) : -1000000000 ≤ floZ n d ∧ floZ n d ≤ 1000000000 := by
  have h := flo_bd (n := n) hd
  generalize floZ n d = q at *
  constructor
  · rcases Int.lt_or_le q (-1000000000) with h1 | h1
    · have := Int.mul_le_mul_of_nonneg_right (show q + 1 ≤ -1000000000 by omega) (show 0 ≤ d by omega)
      omega
    · exact h1
  · rcases Int.lt_or_le 1000000000 q with h1 | h1
    · have := Int.mul_le_mul_of_nonneg_right (show 1000000001 ≤ q by omega) (show 0 ≤ d by omega)
      omega
    · exact h1
theorem ceil_flo {f : Fr} (h : frB f = true) : (ceiZ f.n f.d = floZ f.n f.d ∨ ceiZ f.n f.d = floZ f.n f.d + 1) ∧ (ceiZ f.n f.d = floZ f.n f.d ↔ f.d = 1) := by
  obtain ⟨_, hd, hg⟩ := frB_t.1 h
  have hgn : Int.gcd f.n f.d = 1 := by unfold gcdN at hg; omega
  obtain ⟨n, d⟩ := f
  simp only at hd hgn ⊢
  have h1 := flo_bd (n := n) (d := d) (by omega)
  have h2 := flo_bd (n := -n) (d := d) (by omega)
  unfold ceiZ
  generalize floZ n d = q at *
  generalize floZ (-n) d = p at *
  rw [Int.add_mul, Int.one_mul] at h1 h2
  have hs : (q + p) * d = q * d + p * d := Int.add_mul ..
  have hr : q + p = 0 ∨ q + p = -1 := by
    rcases Int.lt_or_le 0 (q + p) with h | h
    · have := Int.mul_le_mul_of_nonneg_right (show 1 ≤ q + p by omega) (show 0 ≤ d by omega)
      omega
    · rcases Int.lt_or_le (q + p) (-1) with h | h
      · have := Int.mul_le_mul_of_nonneg_right (show q + p ≤ -2 by omega) (show 0 ≤ d by omega)
        omega
      · omega
  refine ⟨by omega, ?_, ?_⟩
  · intro he
    have h0 : q + p = 0 := by omega
    rw [h0, Int.zero_mul] at hs
    have hn : n = q * d := by omega
    have hdv : d ∣ n := ⟨q, by rw [hn, Int.mul_comm]⟩
    have hdd := Int.gcd_eq_right_iff_dvd (by omega) |>.2 hdv
    omega
  · intro he
    subst he
    omega

/-! ### Means -/
def meanB (xs : List Int) : Bool := (inB xs.length 1 40 && xs.all finB') && mkB (isum xs) xs.length
theorem isum_bd {xs : List Int} (h : xs.all finB' = true) : -(1000000 * (xs.length : Int)) ≤ isum xs ∧ isum xs ≤ 1000000 * (xs.length : Int) := by
  induction xs with
  | nil => simp [isum]
  | cons x xs ih =>
    rw [List.all_cons, Bool.and_eq_true_iff] at h
    have h1 := finB'_t.1 h.1
    have h2 := ih h.2
    rw [isum_cons, List.length_cons]
    omega
/-- MEANS MAKE UP THE SUM. -/
theorem mean_sum {xs : List Int} (h : meanB xs = true) : isum xs * (lowF (isum xs) xs.length).d = (xs.length : Int) * (lowF (isum xs) xs.length).n := by
  unfold meanB at h
  obtain ⟨_, h2⟩ := Bool.and_eq_true_iff.1 h
  have hc := low_cross (n := isum xs) (mkB_t.1 h2).1
  rw [Int.mul_comm, ← hc, Int.mul_comm]

end Go.Proofs.YtfcdmdamniijbaaGreatDoor
