/-
  Some texts of this proof in one: FrQ RtP FrI FrJ. Each part tells what it proves. By an AI agent.
-/
import Derived.Test.YtfcdmdamniijbaaGreatDoorFrP
import Derived.Test.YtfcdmdamniijbaaGreatDoorTxP
import Derived.StillTailTactics

/-
  Fractions' texts and their readings, plain. No program in sight.
-/
namespace Go.Proofs.YtfcdmdamniijbaaGreatDoor
open Lib (decDigits decFrom digitVal)

def frTxt (f : Fr) : List UInt8 := if f.d = 1 then Lib.itoa f.n else Lib.itoa f.n ++ 47 :: Lib.itoa f.d
/-! ### The program's reading -/
def cutP (l : List UInt8) : List UInt8 := (Lib.cut l [47]).1
def cutR (l : List UInt8) : List UInt8 := (Lib.cut l [47]).2.1
def cutK (l : List UInt8) : Bool := (Lib.cut l [47]).2.2
def denA (l : List UInt8) : Option Int := if cutK l = true then Lib.atoi (cutR l) else some 1
def parA (l : List UInt8) : Option Fr := match Lib.atoi (cutP l) with
  | some n => match denA l with
    | some d => some ⟨n, d⟩
    | none => none
  | none => none
def fitB (l : List UInt8) (f : Fr) : Bool := frB f && decide (frTxt f = l)
def fparB (l : List UInt8) : Bool := match parA l with
  | some f => fitB l f
  | none => false
def fparF (l : List UInt8) : Fr := match parA l with
  | some f => f
  | none => Fr.z
/-! ### The reference's reading -/
def frReadF (l : List UInt8) : Int := if inB l.length 1 10 = true then (match Lib.decFrom 0 l with | some n => (n : Int) | none => -1) else -1
def numW (l : List UInt8) : Int := if minusB l = true then -frReadF (l.drop 1) else frReadF l
def parW (l : List UInt8) : Fr := ⟨numW ((splitB 47 l).getD 0 []), if (splitB 47 l).length = 2 then frReadF ((splitB 47 l).getD 1 []) else 1⟩
def fparW (l : List UInt8) : Bool := decide ((splitB 47 l).length ≤ 2) && fitB l (parW l)

theorem fit_t {l : List UInt8} {f : Fr} : fitB l f = true ↔ frB f = true ∧ frTxt f = l := by
  unfold fitB
  rw [Bool.and_eq_true_iff, decide_eq_true_iff]
theorem frRead_digits {u : Nat} (h : u ≤ 1000000000) : frReadF (decDigits u) = u := by
  obtain ⟨h1, h2⟩ := digits_lenW h
  unfold frReadF
  rw [if_pos (inB_t.2 (by omega)), decFrom_digits]
theorem numW_itoa {n : Int} (h : -1000000000 ≤ n ∧ n ≤ 1000000000) : numW (Lib.itoa n) = n := by
  unfold numW Lib.itoa
  by_cases hn : n < 0
  · rw [if_pos hn]
    rw [show minusB (45 :: decDigits n.natAbs) = true from rfl, if_pos rfl, show (45 :: decDigits n.natAbs).drop 1 = decDigits n.natAbs from rfl, frRead_digits (by omega)]
    omega
  · rw [if_neg hn]
    have hh := head_digits n.toNat
    have hm : minusB (decDigits n.toNat) = false := by
      cases hc : decDigits n.toNat with
      | nil => rfl
      | cons b r =>
        rw [hc] at hh
        simp only [List.getD_cons_zero] at hh
        exact decide_eq_false (by omega)
    rw [hm, if_neg (by simp), frRead_digits (by omega)]
    omega
theorem itoa47 (n : Int) : (47 : UInt8) ∉ Lib.itoa n := itoa_no (by decide) (by decide)
theorem itoa47' (n : Int) : ∀ x ∈ Lib.itoa n, x.toNat ≠ 47 := fun x hx e => by
  have := itoa_in n x hx
  omega
/-- THE TWO READ A FRACTION'S TEXT AS THE FRACTION. -/
theorem par_txt {f : Fr} (h : frB f = true) : parA (frTxt f) = some f ∧ (splitB 47 (frTxt f)).length ≤ 2 ∧ parW (frTxt f) = f := by
  obtain ⟨hn, hd, _⟩ := frB_t.1 h
  obtain ⟨n, d⟩ := f
  simp only at hn hd
  unfold parA denA cutP cutR cutK parW frTxt
  simp only
  by_cases h1 : d = 1
  · subst h1
    rw [if_pos rfl, cut_no (itoa47 n), split_no _ (itoa47' n)]
    refine ⟨?_, by simp, ?_⟩
    · simp only [atoi_itoaW]
      rfl
    · simp [numW_itoa hn]
  · rw [if_neg h1, cut_first _ _ _ (itoa47 n), split_at _ _ _ (itoa47' n) rfl, split_no _ (itoa47' d)]
    refine ⟨?_, by simp, ?_⟩
    · simp only [atoi_itoaW, if_true]
    · have e : frReadF (Lib.itoa d) = d := by
        rw [itoa_pos (by omega), frRead_digits (by omega)]
        omega
      simp [numW_itoa hn, e]
theorem fpar_t {l : List UInt8} (h : fparB l = true) : frB (fparF l) = true ∧ frTxt (fparF l) = l := by
  unfold fparB at h
  unfold fparF
  cases hp : parA l with
  | none => rw [hp] at h; exact absurd h (by simp)
  | some f => rw [hp] at h; exact fit_t.1 h
theorem fparW_t {l : List UInt8} (h : fparW l = true) : frB (parW l) = true ∧ frTxt (parW l) = l := by
  unfold fparW at h
  exact fit_t.1 (Bool.and_eq_true_iff.1 h).2
theorem fpar_txt {f : Fr} (h : frB f = true) : fparB (frTxt f) = true ∧ fparF (frTxt f) = f := by
  obtain ⟨h1, _, _⟩ := par_txt h
  unfold fparB fparF
  rw [h1]
  exact ⟨fit_t.2 ⟨h, rfl⟩, rfl⟩
theorem fparW_txt {f : Fr} (h : frB f = true) : fparW (frTxt f) = true ∧ parW (frTxt f) = f := by
  obtain ⟨_, h2, h3⟩ := par_txt h
  unfold fparW
  rw [h3]
  exact ⟨Bool.and_eq_true_iff.2 ⟨decide_eq_true h2, fit_t.2 ⟨h, rfl⟩⟩, rfl⟩
/-- Both readings are the same. -/
theorem fpar_eq (l : List UInt8) : fparW l = fparB l ∧ (fparB l = true → parW l = fparF l) := by
  cases h : fparB l
  · refine ⟨?_, fun h => by cases h⟩
    cases g : fparW l
    · rfl
    · obtain ⟨h1, h2⟩ := fparW_t g
      have := (fpar_txt h1).1
      rw [h2, h] at this
      exact absurd this (by simp)
  · obtain ⟨h1, h2⟩ := fpar_t h
    obtain ⟨g1, g2⟩ := fparW_txt h1
    rw [h2] at g1 g2
    exact ⟨g1, fun _ => g2⟩
/-- The parts of a text are short. -/
def PF (l : List UInt8) : Prop := l.length ≤ 1000 ∧ (cutP l).length ≤ 18 ∧ (cutR l).length ≤ 18
theorem cut_lenF (l : List UInt8) : (cutP l).length ≤ l.length ∧ (cutR l).length ≤ l.length := by
  unfold cutP cutR Lib.cut
  split
  · simp
    omega
  · simp
theorem PF_short {l : List UInt8} (h : l.length ≤ 18) : PF l := ⟨by omega, by have := cut_lenF l; omega, by have := cut_lenF l; omega⟩
theorem frTxt_len {f : Fr} (h : frB f = true) : (frTxt f).length ≤ 23 := by
  obtain ⟨hn, hd, _⟩ := frB_t.1 h
  unfold frTxt
  have l1 := itoa_lenW hn
  have l2 := itoa_lenW (n := f.d) (by omega)
  split
  · omega
  · simp; omega
theorem PF_txt {f : Fr} (h : frB f = true) : PF (frTxt f) := by
  have hl := frTxt_len h
  obtain ⟨hn, hd, _⟩ := frB_t.1 h
  have l1 := itoa_lenW hn
  have l2 := itoa_lenW (n := f.d) (by omega)
  refine ⟨by omega, ?_⟩
  unfold cutP cutR frTxt
  by_cases h1 : f.d = 1
  · rw [if_pos h1, cut_no (itoa47 _)]
    exact ⟨by simp only; omega, by simp⟩
  · rw [if_neg h1, cut_first _ _ _ (itoa47 _)]
    exact ⟨by simp only; omega, by simp only; omega⟩

end Go.Proofs.YtfcdmdamniijbaaGreatDoor

/-
  Roots of a polynomial, plain: corners of the lower side of the hull, the roots between them, the value by the roots. No program in sight.
-/
namespace Go.Proofs.YtfcdmdamniijbaaGreatDoor

/-! ### The chain of corners, top first -/
/-- b stays between a and i: the way from a to b rises less than that from a to i. -/
def keepQ (c : Nat → Int) (a b i : Nat) : Bool := decide ((c b - c a) * ((i : Int) - a) < (c i - c a) * ((b : Int) - a))
theorem tdiv_bdP (n s : Int) : (Int.tdiv n s).natAbs ≤ n.natAbs := by
  rw [Int.natAbs_tdiv]
  exact Nat.div_le_self _ _
def popR (c : Nat → Int) (i : Nat) : List Nat → List Nat
  | b :: a :: t => if keepQ c a b i = true then b :: a :: t else popR c i (a :: t)
  | st => st
def corR (c : Nat → Int) (l : List Nat) : List Nat := l.foldl (fun st i => i :: popR c i st) []
theorem corR_snoc (c : Nat → Int) (l : List Nat) (i : Nat) : corR c (l ++ [i]) = i :: popR c i (corR c l) := by simp [corR]
/-- Strictly convex, strictly decreasing. -/
def OkR (c : Nat → Int) : List Nat → Prop
  | d :: b :: t => b < d ∧ (match t with | a :: _ => (c b - c a) * ((d : Int) - a) < (c d - c a) * ((b : Int) - a) | [] => True) ∧ OkR c (b :: t)
  | _ => True
theorem OkR.tail {c : Nat → Int} {d : Nat} {t : List Nat} (h : OkR c (d :: t)) : OkR c t := by
  cases t with
  | nil => trivial
  | cons b t => exact h.2.2
theorem popR_ok {c : Nat → Int} {i : Nat} : ∀ (st : List Nat), OkR c st → (∀ y ∈ st, y < i) → OkR c (i :: popR c i st)
  | [], _, _ => trivial
  | [b], _, h => ⟨h b (by simp), trivial, trivial⟩
  | b :: a :: t, ho, h => by
    rw [popR]
    split
    · rename_i hk
      exact ⟨h b (by simp), of_decide_eq_true hk, ho⟩
    · exact popR_ok (a :: t) ho.tail (fun y hy => h y (List.mem_cons_of_mem _ hy))
theorem popR_sub {c : Nat → Int} {i : Nat} : ∀ (st : List Nat), ∀ y ∈ popR c i st, y ∈ st
  | [], y, h => h
  | [b], y, h => h
  | b :: a :: t, y, h => by
    rw [popR] at h
    split at h
    · exact h
    · exact List.mem_cons_of_mem _ (popR_sub (a :: t) y h)
theorem popR_ne {c : Nat → Int} {i : Nat} : ∀ (st : List Nat), st ≠ [] → popR c i st ≠ []
  | [], h => absurd rfl h
  | [b], _ => by rw [popR]; simp; intro _ _ _ h; cases h
  | b :: a :: t, _ => by
    rw [popR]
    split
    · simp
    · exact popR_ne (a :: t) (by simp)
theorem popR_len {c : Nat → Int} {i : Nat} : ∀ (st : List Nat), (popR c i st).length ≤ st.length
  | [] => Nat.le_refl _
  | [b] => Nat.le_refl _
  | b :: a :: t => by
    rw [popR]
    split
    · exact Nat.le_refl _
    · have := popR_len (c := c) (i := i) (a :: t); simp at this ⊢; omega
/-- The bottom stays. -/
theorem popR_bottom {c : Nat → Int} {i : Nat} : ∀ (st : List Nat) (d : Nat), (popR c i st).getLastD d = st.getLastD d
  | [], d => rfl
  | [b], d => rfl
  | b :: a :: t, d => by
    rw [popR]
    split
    · rfl
    · rw [popR_bottom (a :: t) d]; simp [List.getLastD]

/-! ### The least value -/
def ev (c : Nat → Int) (x : Int) (y : Nat) : Int := c y + (y : Int) * x
def IsMin (c : Nat → Int) (x : Int) (l : List Nat) (m : Int) : Prop := (∃ y ∈ l, ev c x y = m) ∧ ∀ y ∈ l, m ≤ ev c x y
theorem keep_e (c : Nat → Int) (x : Int) (a b i : Nat) : (ev c x b - ev c x a) * ((i : Int) - a) - (ev c x i - ev c x a) * ((b : Int) - a) = (c b - c a) * ((i : Int) - a) - (c i - c a) * ((b : Int) - a) := by
  unfold ev
  grind
theorem drop_min {c : Nat → Int} {x m : Int} {a b i : Nat} (hab : a < b) (hbi : b < i) (hk : keepQ c a b i = false) (ha : m ≤ ev c x a) (hb : ev c x b = m) (hi : m ≤ ev c x i) : ev c x i = m := by
  have h1 := of_decide_eq_false hk
  have h2 := keep_e c x a b i
  have h3 : (ev c x i - ev c x a) * ((b : Int) - a) ≤ (ev c x b - ev c x a) * ((i : Int) - a) := by omega
  rw [hb] at h3
  generalize ev c x a = A at *
  generalize ev c x i = E at *
  have h4 : (m - A) * ((i : Int) - a) ≤ (m - A) * ((b : Int) - a) := by
    have := Int.mul_le_mul_of_nonpos_left (show m - A ≤ 0 by omega) (show (b : Int) - a ≤ (i : Int) - a by omega)
    exact this
  have h5 : (E - A) * ((b : Int) - a) ≤ (m - A) * ((b : Int) - a) := Int.le_trans h3 h4
  have h6 : E - A ≤ m - A := Int.le_of_mul_le_mul_right h5 (by omega)
  omega
theorem popR_min {c : Nat → Int} {x m : Int} {i : Nat} : ∀ (st : List Nat), OkR c st → (∀ y ∈ st, y < i) → IsMin c x (i :: st) m → IsMin c x (i :: popR c i st) m
  | [], _, _, h => h
  | [b], _, _, h => h
  | b :: a :: t, ho, hlt, h => by
    rw [popR]
    split
    · exact h
    · rename_i hk
      refine popR_min (a :: t) ho.tail (fun y hy => hlt y (List.mem_cons_of_mem _ hy)) ⟨?_, fun y hy => h.2 y ?_⟩
      · obtain ⟨y, hy, he⟩ := h.1
        rcases List.mem_cons.1 hy with rfl | hy
        · exact ⟨_, List.mem_cons_self .., he⟩
        · rcases List.mem_cons.1 hy with rfl | hy
          · exact ⟨i, List.mem_cons_self .., drop_min ho.1 (hlt _ (by simp)) (by simpa using hk) (h.2 a (by simp)) he (h.2 i (by simp))⟩
          · exact ⟨y, List.mem_cons_of_mem _ hy, he⟩
      · rcases List.mem_cons.1 hy with rfl | hy
        · exact List.mem_cons_self ..
        · exact List.mem_cons_of_mem _ (List.mem_cons_of_mem _ hy)
/-- Increasing lists of places. -/
def IncL (l : List Nat) : Prop := l.Pairwise (· < ·)
theorem cor_all {c : Nat → Int} (l : List Nat) (hl : IncL l) : OkR c (corR c l) ∧ (∀ y ∈ corR c l, y ∈ l) ∧ (corR c l).length ≤ l.length ∧ (l ≠ [] → corR c l ≠ [] ∧ (corR c l).headD 0 = l.getLastD 0 ∧ (corR c l).getLastD 0 = l.headD 0) ∧ ∀ x m, IsMin c x l m → IsMin c x (corR c l) m := by
  suffices H : ∀ (r l : List Nat), l = r.reverse → IncL l → OkR c (corR c l) ∧ (∀ y ∈ corR c l, y ∈ l) ∧ (corR c l).length ≤ l.length ∧ (l ≠ [] → corR c l ≠ [] ∧ (corR c l).headD 0 = l.getLastD 0 ∧ (corR c l).getLastD 0 = l.headD 0) ∧ ∀ x m, IsMin c x l m → IsMin c x (corR c l) m from H l.reverse l (List.reverse_reverse l).symm hl
  clear hl l
  intro r
  induction r with
  | nil => intro l e _; subst e; exact ⟨trivial, fun y h => h, Nat.le_refl _, fun h => absurd rfl h, fun x m h => h⟩
  | cons i r ih0 =>
    intro l0 e hl
    rw [List.reverse_cons] at e
    subst e
    obtain ⟨l, hll⟩ : ∃ l, r.reverse = l := ⟨_, rfl⟩
    rw [hll] at hl ⊢
    have ih := ih0 l hll.symm
    obtain ⟨h1, h2⟩ := List.pairwise_append.1 hl
    obtain ⟨o, s, n, b, mm⟩ := ih h1
    have hlt : ∀ y ∈ corR c l, y < i := fun y hy => h2.2 y (s y hy) i (by simp)
    rw [corR_snoc]
    refine ⟨popR_ok _ o hlt, fun y hy => ?_, ?_, fun _ => ⟨by simp, by simp, ?_⟩, fun x m hm => ?_⟩
    · rcases List.mem_cons.1 hy with rfl | hy
      · simp
      · exact List.mem_append_left _ (s y (popR_sub _ y hy))
    · have := popR_len (c := c) (i := i) (corR c l)
      simp; omega
    · cases l with
      | nil => rfl
      | cons y t =>
        have hne := (b (by simp)).1
        have hb := (b (by simp)).2.2
        have hp := popR_ne (c := c) (i := i) _ hne
        cases hq : popR c i (corR c (y :: t)) with
        | nil => exact absurd hq hp
        | cons z zs =>
          rw [List.getLastD_cons]
          have h3 := popR_bottom (c := c) (i := i) (corR c (y :: t)) i
          rw [hq] at h3
          rw [h3]
          cases hr : corR c (y :: t) with
          | nil => exact absurd hr hne
          | cons u us =>
            rw [hr] at hb
            rw [List.getLastD_cons] at hb ⊢
            exact hb
    · refine popR_min _ o hlt ?_
      by_cases hin : ∃ y ∈ l, ev c x y = m
      · have hm' : IsMin c x l m := ⟨hin, fun y hy => hm.2 y (List.mem_append_left _ hy)⟩
        have := mm x m hm'
        refine ⟨?_, fun y hy => ?_⟩
        · obtain ⟨y, hy, he⟩ := this.1
          exact ⟨y, List.mem_cons_of_mem _ hy, he⟩
        · rcases List.mem_cons.1 hy with rfl | hy
          · exact hm.2 _ (by simp)
          · exact this.2 y hy
      · refine ⟨⟨i, List.mem_cons_self .., ?_⟩, fun y hy => ?_⟩
        · obtain ⟨y, hy, he⟩ := hm.1
          rcases List.mem_append.1 hy with h | h
          · exact absurd ⟨y, h, he⟩ hin
          · simp at h; subst h; exact he
        · rcases List.mem_cons.1 hy with rfl | hy
          · exact hm.2 _ (by simp)
          · exact hm.2 y (List.mem_append_left _ (s y hy))

/-! ### The value by the steps between corners -/
def sumStep (c : Nat → Int) (x : Int) : List Nat → Int
  | d :: b :: t => min (c b - c d) (x * ((d : Int) - b)) + sumStep c x (b :: t)
  | _ => 0
theorem falls {c : Nat → Int} {x : Int} : ∀ (t : List Nat) (d b : Nat), OkR c (d :: b :: t) → ev c x d < ev c x b → ∀ y ∈ t, ev c x b < ev c x y
  | [], d, b, _, _, y, hy => by simp at hy
  | a :: t, d, b, ho, hlt, y, hy => by
    have hab : ev c x b < ev c x a := by
      have h1 := ho.2.1
      simp only at h1
      have h2 := keep_e c x a b d
      have h3 : (ev c x b - ev c x a) * ((d : Int) - a) < (ev c x d - ev c x a) * ((b : Int) - a) := by omega
      have hbd := ho.1
      have hba := ho.2.2.1
      rcases Int.lt_or_le (ev c x b) (ev c x a) with h | h
      · exact h
      · exfalso
        have h4 := Int.mul_le_mul_of_nonneg_left (show (b : Int) - a ≤ (d : Int) - a by omega) (show 0 ≤ ev c x b - ev c x a by omega)
        have h5 := Int.mul_le_mul_of_nonneg_right (show ev c x d - ev c x a ≤ ev c x b - ev c x a by omega) (show 0 ≤ (b : Int) - a by omega)
        omega
    rcases List.mem_cons.1 hy with rfl | hy
    · exact hab
    · have := falls t b a ho.2.2 hab y hy
      omega
theorem sum_min {c : Nat → Int} {x m : Int} : ∀ (t : List Nat) (d : Nat), OkR c (d :: t) → IsMin c x (d :: t) m → c d + ((d :: t).getLastD 0 : Int) * x + sumStep c x (d :: t) = m
  | [], d, _, h => by
    obtain ⟨y, hy, he⟩ := h.1
    simp at hy
    subst hy
    unfold ev at he
    simp [sumStep]
    exact he
  | b :: t, d, ho, h => by
    have hmb : ∃ m', IsMin c x (b :: t) m' := by
      have : ∀ (l : List Nat) (z : Nat), ∃ m', IsMin c x (z :: l) m' := fun l => by
        induction l with
        | nil => exact fun z => ⟨ev c x z, ⟨z, by simp, rfl⟩, fun y hy => by simp at hy; subst hy; exact Int.le_refl _⟩
        | cons u us ih =>
          intro z
          obtain ⟨m1, ⟨y, hy, he⟩, h1⟩ := ih u
          rcases Int.lt_or_le (ev c x z) m1 with hc | hc
          · refine ⟨ev c x z, ⟨z, by simp, rfl⟩, fun v hv => ?_⟩
            rcases List.mem_cons.1 hv with rfl | hv
            · exact Int.le_refl _
            · have := h1 v hv; omega
          · refine ⟨m1, ⟨y, List.mem_cons_of_mem _ hy, he⟩, fun v hv => ?_⟩
            rcases List.mem_cons.1 hv with rfl | hv
            · exact hc
            · exact h1 v hv
      exact this t b
    obtain ⟨m', hm'⟩ := hmb
    have ih := sum_min t b ho.2.2 hm'
    rw [show (d :: b :: t).getLastD 0 = (b :: t).getLastD 0 by simp [List.getLastD]]
    rw [sumStep]
    generalize sumStep c x (b :: t) = S at *
    generalize hL : (((b :: t).getLastD 0 : Nat) : Int) * x = L at *
    have hed : ev c x d = c d + (d : Int) * x := rfl
    have heb : ev c x b = c b + (b : Int) * x := rfl
    have hx : x * ((d : Int) - b) = (d : Int) * x - (b : Int) * x := by rw [Int.mul_sub, Int.mul_comm x, Int.mul_comm x]
    rw [hx]
    generalize (d : Int) * x = U at *
    generalize (b : Int) * x = V at *
    have hmeb : m' ≤ ev c x b := hm'.2 b (by simp)
    rcases Int.lt_or_le (ev c x d) (ev c x b) with hc | hc
    · have hf := falls t d b ho hc
      have e1 : m' = ev c x b := by
        obtain ⟨y, hy, he⟩ := hm'.1
        rcases List.mem_cons.1 hy with rfl | hy
        · exact he.symm
        · have := hf y hy; omega
      have e2 : m = ev c x d := by
        obtain ⟨y, hy, he⟩ := h.1
        have h0 := h.2 d (by simp)
        rcases List.mem_cons.1 hy with rfl | hy
        · exact he.symm
        · have := hm'.2 y hy; omega
      omega
    · have e2 : m = m' := by
        have h0 := h.2
        obtain ⟨y, hy, he⟩ := h.1
        obtain ⟨z, hz, hze⟩ := hm'.1
        have h1 := h0 z (List.mem_cons_of_mem _ hz)
        rcases List.mem_cons.1 hy with rfl | hy
        · omega
        · have := hm'.2 y hy; omega
      omega

/-! ### The roots -/
structure Rt where
  f : Fr
  t : Int
def Rt.z : Rt := ⟨Fr.z, 0⟩
def rootOf (c : Nat → Int) (b d : Nat) : Rt := ⟨lowF (c b - c d) ((d : Int) - b), (d : Int) - b⟩
/-- The roots, from the greatest corner down. -/
def rootsR (c : Nat → Int) : List Nat → List Rt
  | d :: b :: t => rootOf c b d :: rootsR c (b :: t)
  | _ => []
theorem rootsR_len (c : Nat → Int) : ∀ st : List Nat, (rootsR c st).length = st.length - 1
  | [] => rfl
  | [_] => rfl
  | d :: b :: t => by
    have := rootsR_len c (b :: t)
    simp [rootsR] at this ⊢
    omega
def ltF (f g : Fr) : Prop := f.n * g.d < g.n * f.d
theorem ltF_trans {f g h : Fr} (hg : 1 ≤ g.d) (hf : 1 ≤ f.d) (hh : 1 ≤ h.d) (h1 : ltF f g) (h2 : ltF g h) : ltF f h := by
  unfold ltF at *
  have a1 := Int.mul_lt_mul_of_pos_right h1 (show 0 < h.d by omega)
  have a2 := Int.mul_lt_mul_of_pos_right h2 (show 0 < f.d by omega)
  have e1 : g.n * f.d * h.d = g.n * h.d * f.d := by rw [Int.mul_assoc, Int.mul_comm f.d, ← Int.mul_assoc]
  rw [e1] at a1
  have a3 := Int.lt_trans a1 a2
  have e2 : f.n * g.d * h.d = f.n * h.d * g.d := by rw [Int.mul_assoc, Int.mul_comm g.d, ← Int.mul_assoc]
  have e3 : h.n * g.d * f.d = h.n * f.d * g.d := by rw [Int.mul_assoc, Int.mul_comm g.d, ← Int.mul_assoc]
  rw [e2, e3] at a3
  exact Int.lt_of_mul_lt_mul_right a3 (by omega)
theorem lt_low {n1 d1 n2 d2 : Int} (h1 : 0 < d1) (h2 : 0 < d2) (h : n1 * d2 < n2 * d1) : ltF (lowF n1 d1) (lowF n2 d2) := by
  obtain ⟨s, _, hs, a1, a2, a3, _⟩ := low_spec (n := n1) (d := d1) (by omega)
  obtain ⟨t, _, ht, b1, b2, b3, _⟩ := low_spec (n := n2) (d := d2) (by omega)
  unfold ltF
  generalize lowF n1 d1 = f at *
  generalize lowF n2 d2 = g at *
  obtain ⟨p, q⟩ := f
  obtain ⟨u, v⟩ := g
  simp only at *
  have hsp : 0 < s := by
    rcases Int.lt_or_le 0 s with h | h
    · exact h
    · have := Int.mul_le_mul_of_nonneg_right h (show 0 ≤ q by omega); omega
  have htp : 0 < t := by
    rcases Int.lt_or_le 0 t with h | h
    · exact h
    · have := Int.mul_le_mul_of_nonneg_right h (show 0 ≤ v by omega); omega
  rw [a1, a2, b1, b2] at h
  have e1 : s * p * (t * v) = (s * t) * (p * v) := by grind
  have e2 : t * u * (s * q) = (s * t) * (u * q) := by grind
  rw [e1, e2] at h
  exact Int.lt_of_mul_lt_mul_left h (Int.le_of_lt (Int.mul_pos hsp htp))
theorem root_good {c : Nat → Int} {b d : Nat} (hbd : b < d) (hd : d ≤ 1000) (hb : -1000000 ≤ c b ∧ c b ≤ 1000000) (hc : -1000000 ≤ c d ∧ c d ≤ 1000000) : frB (rootOf c b d).f = true := by
  unfold rootOf
  obtain ⟨_, _, _, _, _, h3, h4⟩ := low_spec (n := c b - c d) (d := (d : Int) - b) (by omega)
  have x1 := tdiv_bdP (c b - c d) (sgG (c b - c d) ((d : Int) - b))
  have x2 := tdiv_bdP ((d : Int) - b) (sgG (c b - c d) ((d : Int) - b))
  have y1 : (lowF (c b - c d) ((d : Int) - b)).n.natAbs ≤ (c b - c d).natAbs := x1
  have y2 : (lowF (c b - c d) ((d : Int) - b)).d.natAbs ≤ ((d : Int) - b).natAbs := x2
  exact frB_t.2 ⟨by simp only; omega, by simp only; omega, h4⟩

end Go.Proofs.YtfcdmdamniijbaaGreatDoor

/-
  Fractions: the program's side. Printed by gen_frI.py.
-/
namespace Go.Proofs.YtfcdmdamniijbaaGreatDoor
open Go.RowKit

def fr2 (w : World) (g : Nat) (a b : Int) : World := (w.setCell ⟨g, 0, none⟩ (.int .i64 a)).setCell ⟨g, 1, none⟩ (.int .i64 b)
theorem fr2_below {u w : World} {g : Nat} {a b : Int} (h : Below u.heap.size u w) (hg : u.heap.size ≤ g) : Below u.heap.size u (fr2 w g a b) := by
  have h1 := (Chg.set g 0 w (.int .i64 a)).trans (Chg.set g 1 _ (.int .i64 b))
  exact bchg h h1 hg h.size
def frR (f : Fr) (k : Bool) : Value := .tuple #[frV (if k = true then f else Fr.z), .bool k]
theorem frR_f (f : Fr) : frR f false = .tuple #[frV Fr.z, .bool false] := rfl
theorem frR_t (f : Fr) : frR f true = .tuple #[frV f, .bool true] := rfl
theorem tdiv_bd (n s : Int) : (Int.tdiv n s).natAbs ≤ n.natAbs := by
  rw [Int.natAbs_tdiv]
  exact Nat.div_le_self _ _
theorem gcdN_bd {n d : Int} (hd : d ≠ 0) : 0 < gcdN n d ∧ gcdN n d ≤ d.natAbs := by
  unfold gcdN
  have h : 0 < Int.gcd n d := Nat.pos_of_ne_zero (fun h => hd (Int.gcd_eq_zero_iff.1 h).2)
  have h2 : Int.gcd n d ≤ d.natAbs := Nat.le_of_dvd (by omega) (Nat.gcd_dvd_right _ _)
  omega
theorem mulbF {k m K M : Int} (hK : 0 ≤ K) (hk : -K ≤ k ∧ k ≤ K) (hm : -M ≤ m ∧ m ≤ M) : -(K * M) ≤ k * m ∧ k * m ≤ K * M := by
  have h1 : k.natAbs ≤ K.toNat := by omega
  have h2 : m.natAbs ≤ M.toNat := by omega
  have h3 : (k * m).natAbs ≤ K.toNat * M.toNat := by rw [Int.natAbs_mul]; exact Nat.mul_le_mul h1 h2
  have h4 : ((K.toNat * M.toNat : Nat) : Int) = K * M := by rw [Int.natCast_mul, Int.toNat_of_nonneg hK, Int.toNat_of_nonneg (by omega)]
  omega
theorem mulb9 {k m : Int} (hk : -1000000000 ≤ k ∧ k ≤ 1000000000) (hm : -1000000000 ≤ m ∧ m ≤ 1000000000) : -1000000000000000000 ≤ k * m ∧ k * m ≤ 1000000000000000000 := by
  have := mulbF (K := 1000000000) (M := 1000000000) (by omega) hk hm
  omega
end Go.Proofs.YtfcdmdamniijbaaGreatDoor

/-
  Products and quotients of fractions, floors: the program's side. Printed by gen_frI.py.
-/
namespace Go.Proofs.YtfcdmdamniijbaaGreatDoor
open Go.RowKit
end Go.Proofs.YtfcdmdamniijbaaGreatDoor
