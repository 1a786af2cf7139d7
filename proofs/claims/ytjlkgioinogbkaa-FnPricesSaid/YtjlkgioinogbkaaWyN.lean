/-
  Some texts of this proof in one: WyN WyQ WyR. Each part tells what it proves. By an AI agent.
-/
import Derived.Test.YtjlkgioinogbkaaWyK

/-
  Whether potentials prove a way: program and reference. Printed by gen_wyN.py. By an AI agent.
-/
namespace Go.Proofs.Ytjlkgioinogbkaa
open Go.RowKit

def proX (M : List (List Int)) (p l : List Int) : Bool := hasB M p && wayB M.length (entM M) l
def proB (M : List (List Int)) (p l : List Int) : Bool := proX M p l && prB (entM M) p l (l.length - 1)

end Go.Proofs.Ytjlkgioinogbkaa

/-
  Vertices to which ways cost at most a number: program and reference. Printed by gen_wyQ.py. By an AI agent.
-/
namespace Go.Proofs.Ytjlkgioinogbkaa
open Go.RowKit

def wiL (f : Nat → Int) (mo : Int) : Nat → List Int
  | 0 => []
  | k + 1 => if f k ≤ mo then wiL f mo k ++ [(k : Int)] else wiL f mo k
theorem wiL_len (f : Nat → Int) (mo : Int) : ∀ k, (wiL f mo k).length ≤ k
  | 0 => Nat.le_refl _
  | k + 1 => by
    have := wiL_len f mo k
    unfold wiL
    split
    · rw [List.length_append, List.length_singleton]; omega
    · omega
def wiB (M : List (List Int)) (f mo : Int) : Bool := sqB M && (inB f 0 ((M.length : Int) - 1) && (finB mo && cosB M))
def wiX (M : List (List Int)) (f mo : Int) : List Int := wiL (bf M.length (entM M) M.length f.toNat) mo M.length
end Go.Proofs.Ytjlkgioinogbkaa

/-
  The first cheapest way with the fewest steps, plain: costs of so many steps, least steps, first vertices. By an AI agent.
-/
namespace Go.Proofs.Ytjlkgioinogbkaa

def exF (n : Nat) (m : Nat → Nat → Int) (tv : Nat) : Nat → Nat → Int
  | 0, v => if v = tv then 0 else 1000000000
  | s + 1, v => mnF 1000000000 (fun k => prodZ (m v k) (exF n m tv s k)) n
/-- the first index from k on (of at most f) that has it. -/
def fstN (p : Nat → Bool) : Nat → Nat → Nat
  | 0, k => k
  | f + 1, k => if p k = true then k else fstN p f (k + 1)
theorem fst_from (p : Nat → Bool) : ∀ (f k j : Nat), k ≤ j → j < k + f → p j = true → (∀ i, k ≤ i → i < j → p i = false) → fstN p f k = j
  | 0, k, j, h1, h2, _, _ => by omega
  | f + 1, k, j, h1, h2, h3, h4 => by
    unfold fstN
    by_cases e : k = j
    · subst e; rw [if_pos h3]
    · rw [if_neg (by rw [h4 k (Nat.le_refl _) (by omega)]; simp)]
      exact fst_from p f (k + 1) j (by omega) (by omega) h3 (fun i hi => h4 i (by omega))
theorem fst_eq {p : Nat → Bool} {n j : Nat} (h1 : j < n) (h2 : p j = true) (h3 : ∀ i, i < j → p i = false) : fstN p n 0 = j := fst_from p n 0 j (Nat.zero_le _) (by omega) h2 (fun i _ => h3 i)
def chK (n : Nat) (m : Nat → Nat → Int) (tv s a : Nat) : Nat := fstN (fun k => !(m a k == 1000000000) && decide (prodZ (m a k) (exF n m tv s k) = exF n m tv (s + 1) a)) n 0
def chP (n : Nat) (m : Nat → Nat → Int) (tv : Nat) : Nat → Nat → List Int
  | 0, _ => []
  | s + 1, a => (chK n m tv s a : Int) :: chP n m tv s (chK n m tv s a)
theorem chP_len (n : Nat) (m : Nat → Nat → Int) (tv : Nat) : ∀ s a, (chP n m tv s a).length = s
  | 0, _ => rfl
  | s + 1, a => by unfold chP; rw [List.length_cons, chP_len n m tv s]
def chS (n : Nat) (m : Nat → Nat → Int) (a b : Nat) : Nat := fstN (fun s => decide (exF n m b s a = bf n m n a b)) n 0
def chL (n : Nat) (m : Nat → Nat → Int) (a b : Nat) : List Int := (a : Int) :: chP n m b (chS n m a b) a
def chB (M : List (List Int)) (f t : Int) : Bool := sqB M && (inB f 0 ((M.length : Int) - 1) && (inB t 0 ((M.length : Int) - 1) && (okW M && !decide (bf M.length (entM M) M.length f.toNat t.toNat = 1000000000))))
def chX (M : List (List Int)) (f t : Int) : List Int := chL M.length (entM M) f.toNat t.toNat

section
variable {n : Nat} {m : Nat → Nat → Int}
theorem ex_sound {tv : Nat} (hto : tv < n) : ∀ (s : Nat) {v : Nat}, v < n → exF n m tv s v ≠ 1000000000 → Wk n m v tv (exF n m tv s v) s
  | 0, v, hv, h => by
    unfold exF at h ⊢
    split at h
    · rename_i e
      subst e
      rw [if_pos rfl]
      exact Wk.nil hv
    · exact absurd rfl h
  | s + 1, v, hv, h => by
    rw [exF] at h ⊢
    rcases mnF_at 1000000000 (fun k => prodZ (m v k) (exF n m tv s k)) n with e | ⟨k, hk, e⟩
    · rw [e] at h; exact absurd rfl h
    · rw [e] at h ⊢
      obtain ⟨h1, h2, h3⟩ := prodZ_ne h
      exact ((Wk.one hv hk h1).append (ex_sound hto s hk h2)).cast h3.symm (by omega)
theorem ex_bd (hm : ∀ a b, a < n → b < n → numB (m a b) = true) {tv : Nat} (hto : tv < n) {s v : Nat} (hv : v < n) : exF n m tv s v = 1000000000 ∨ (-(1000000 * (s : Int)) ≤ exF n m tv s v ∧ exF n m tv s v ≤ 1000000 * (s : Int)) := by
  by_cases h : exF n m tv s v = 1000000000
  · exact Or.inl h
  · exact Or.inr ((ex_sound hto s hv h).bd hm)
theorem Wk.inv1 {i k : Nat} {c : Int} (h : Wk n m i k c 1) : i < n ∧ k < n ∧ m i k ≠ 1000000000 ∧ c = m i k := by
  generalize hs : 1 = s at h
  cases h with
  | nil _ => cases hs
  | snoc h1 h2 h3 =>
    rename_i j s c
    obtain rfl : s = 0 := by omega
    generalize hz : 0 = z at h1
    cases h1 with
    | nil h => exact ⟨h, h2, h3, by omega⟩
    | snoc _ _ _ => cases hz
theorem ex_le (hm : ∀ a b, a < n → b < n → numB (m a b) = true) {tv : Nat} : ∀ (s : Nat) {v : Nat} {c : Int}, Wk n m v tv c s → s < 900 → exF n m tv s v ≠ 1000000000 ∧ exF n m tv s v ≤ c
  | 0, v, c, h, _ => by
    generalize hs : 0 = s at h
    cases h with
    | nil _ => unfold exF; rw [if_pos rfl]; omega
    | snoc _ _ _ => cases hs
  | s + 1, v, c, h, hs => by
    have hto := h.last
    obtain ⟨u, P, hu0, hus, hP0, hPs, _, hw⟩ := h.split
    have h1 := hw 0 1 (by omega) (by omega)
    have h2 := hw 1 (s + 1) (by omega) (Nat.le_refl _)
    rw [hu0, hP0] at h1
    rw [hus, hPs] at h2
    obtain ⟨i1, i2, i3, i4⟩ := h1.inv1
    obtain ⟨j1, j2⟩ := ex_le hm s h2 (by omega)
    have h3 := mnF_le 1000000000 (fun k => prodZ (m v k) (exF n m tv s k)) i2
    rw [prodZ_fin i3 j1] at h3
    have h4 := ex_bd hm hto (s := s) i2
    have h5 := numB_t (hm _ _ i1 i2)
    rw [exF]
    omega
/-- the cheapest cost is met by fewer than n steps. -/
theorem ex_meet (hm : ∀ a b, a < n → b < n → numB (m a b) = true) (hn6 : n ≤ 6) (hfix : ∀ i k, i < n → k < n → bf n m n i k = bf n m (n + 1) i k) {a b : Nat} (ha : a < n) (hb : b < n) (h : bf n m n a b ≠ 1000000000) : ∃ s, s < n ∧ exF n m b s a = bf n m n a b := by
  obtain ⟨t, _, h1⟩ := bf_sound n ha hb h
  obtain ⟨c, s, h2, h3, h4⟩ := h1.short (fun x c s hw => fix_closed hm hn6 hfix hw)
  obtain ⟨_, h5⟩ := fix_le hm hn6 hfix h2
  obtain ⟨h6, h7⟩ := ex_le hm s h2 (by omega)
  obtain ⟨_, h8⟩ := fix_le hm hn6 hfix (ex_sound hb s ha h6)
  exact ⟨s, h4, by omega⟩
theorem ex_next {tv s a : Nat} (h : exF n m tv (s + 1) a ≠ 1000000000) : ∃ k, k < n ∧ m a k ≠ 1000000000 ∧ exF n m tv s k ≠ 1000000000 ∧ prodZ (m a k) (exF n m tv s k) = exF n m tv (s + 1) a := by
  rw [exF] at h ⊢
  rcases mnF_at 1000000000 (fun k => prodZ (m a k) (exF n m tv s k)) n with e | ⟨k, hk, e⟩
  · rw [e] at h; exact absurd rfl h
  · rw [e] at h ⊢
    obtain ⟨h1, h2, h3⟩ := prodZ_ne h
    exact ⟨k, hk, h1, h2, rfl⟩
end
end Go.Proofs.Ytjlkgioinogbkaa
