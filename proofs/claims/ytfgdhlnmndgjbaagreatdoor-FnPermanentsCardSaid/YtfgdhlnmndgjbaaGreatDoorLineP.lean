/-
  Lines, plain: where two lines meet, what moves with a line, texts of lines and their readings. No program in sight.
-/
import Derived.Test.YtfgdhlnmndgjbaaGreatDoorNumP
import Derived.Lib.IndexBytes
import Derived.Lib.IndexMore
namespace Go.Proofs.YtfgdhlnmndgjbaaGreatDoor

structure Ln where
  a : Int
  b : Int
  c : Int
def lnV (l : Ln) : Value := .agg #[.int .i64 l.a, .int .i64 l.b, .int .i64 l.c]
def Ln.z : Ln := ⟨0, 0, 0⟩
def lnB (l : Ln) : Bool := finB' l.a && (finB' l.b && finB' l.c)
theorem lnB_t {l : Ln} : lnB l = true ↔ (-1000000 ≤ l.a ∧ l.a ≤ 1000000) ∧ (-1000000 ≤ l.b ∧ l.b ≤ 1000000) ∧ (-1000000 ≤ l.c ∧ l.c ≤ 1000000) := by
  unfold lnB
  rw [Bool.and_eq_true_iff, Bool.and_eq_true_iff, finB'_t, finB'_t, finB'_t]
theorem finB'_f {n : Int} : finB' n = false ↔ ¬ (-1000000 ≤ n ∧ n ≤ 1000000) := by
  rw [← finB'_t]; simp

/-! ### Meeting, moving -/
def minZ (a b : Int) : Int := min a b
def least3 (l : List Int) : Int := match l with
  | [a, b, c] => min (min a b) c
  | _ => 0
def cntZ (l : List Int) (n : Int) : Nat := (l.filter fun x => x == n).length
def onB (l : Ln) (x y : Int) : Bool := decide (1 < cntZ [l.a + x, l.b + y, l.c] (min (min (l.a + x) (l.b + y)) l.c))
def meetP (l m : Ln) : Int := min (l.b + m.c) (m.b + l.c)
def meetQ (l m : Ln) : Int := min (l.a + m.c) (m.a + l.c)
def meetRr (l m : Ln) : Int := min (l.a + m.b) (m.a + l.b)
def meetX (l m : Ln) : Int := meetP l m - meetRr l m
def meetY (l m : Ln) : Int := meetQ l m - meetRr l m
def askP (x y : Int) : Bool := finB' x && finB' y
/-- A point: its coordinates, if both are numbers. -/
def ptV3 (x y : Int) (k : Bool) : Value := .tuple #[.int .i64 (if (k && askP x y) = true then x else 0), .int .i64 (if (k && askP x y) = true then y else 0), .bool (k && askP x y)]
theorem cnt3 {t0 t1 t2 : Int} (h : (t0 = t1 ∧ t0 ≤ t2) ∨ (t0 = t2 ∧ t0 ≤ t1) ∨ (t1 = t2 ∧ t1 ≤ t0)) : 1 < cntZ [t0, t1, t2] (min (min t0 t1) t2) := by
  unfold cntZ
  rcases h with ⟨h1, h2⟩ | ⟨h1, h2⟩ | ⟨h1, h2⟩
  · subst h1
    have e : min (min t0 t0) t2 = t0 := by omega
    rw [e]
    simp [List.filter_cons]
    try (split <;> simp)
  · subst h1
    have e : min (min t0 t1) t0 = t0 := by omega
    rw [e]
    simp [List.filter_cons]
    try (split <;> simp)
  · subst h1
    have e : min (min t0 t1) t1 = t1 := by omega
    rw [e]
    simp [List.filter_cons]
    try (split <;> simp)
theorem meet_on (l m : Ln) : onB l (meetX l m) (meetY l m) = true ∧ onB m (meetX l m) (meetY l m) = true := by
  obtain ⟨a, b, c⟩ := l
  obtain ⟨d, e, f⟩ := m
  unfold onB meetX meetY meetP meetQ meetRr
  simp only
  refine ⟨decide_eq_true (cnt3 ?_), decide_eq_true (cnt3 ?_)⟩
  · generalize hp : min (b + f) (e + c) = p
    generalize hq : min (a + f) (d + c) = q
    generalize hr : min (a + e) (d + b) = r
    omega
  · generalize hp : min (b + f) (e + c) = p
    generalize hq : min (a + f) (d + c) = q
    generalize hr : min (a + e) (d + b) = r
    omega
def sameB (l m : Ln) : Bool := decide (l.a - m.a = l.c - m.c) && decide (l.b - m.b = l.c - m.c)
theorem same_py (l m : Ln) : (decide (l.c - l.a = m.c - m.a) && decide (l.c - l.b = m.c - m.b)) = sameB l m := by
  unfold sameB
  congr 1
  · exact decide_eq_decide.2 (by omega)
  · exact decide_eq_decide.2 (by omega)
def moveL (l : Ln) (dx dy : Int) : Ln := ⟨l.a - dx, l.b - dy, l.c⟩
def moveK (l : Ln) (dx dy : Int) : Bool := lnB l && askP dx dy && lnB (moveL l dx dy)

/-! ### Texts -/
def lineTxt (l : Ln) : List UInt8 := Lib.itoa l.a ++ 32 :: (Lib.itoa l.b ++ 32 :: Lib.itoa l.c)
theorem digits_in (u : Nat) : ∀ x ∈ Lib.decDigits u, 48 ≤ x.toNat ∧ x.toNat ≤ 57 := by
  induction u using Nat.strongRecOn with
  | _ u ih =>
    intro x hx
    by_cases h : u < 10
    · rw [Lib.decDigits_one h] at hx
      simp only [List.mem_singleton] at hx
      subst hx
      have := (digit_of u h).2
      omega
    · rw [Lib.decDigits, dif_neg h] at hx
      rcases List.mem_append.1 hx with h1 | h1
      · exact ih (u / 10) (by omega) x h1
      · simp only [List.mem_singleton] at h1
        subst h1
        have := (digit_of (u % 10) (by omega)).2
        omega
theorem itoa_in (n : Int) : ∀ x ∈ Lib.itoa n, x.toNat = 45 ∨ (48 ≤ x.toNat ∧ x.toNat ≤ 57) := by
  intro x hx
  unfold Lib.itoa at hx
  split at hx
  · rcases List.mem_cons.1 hx with h | h
    · subst h; exact Or.inl rfl
    · exact Or.inr (digits_in _ x h)
  · exact Or.inr (digits_in _ x hx)
theorem itoa_no {n : Int} {c : UInt8} (h1 : c.toNat ≠ 45) (h2 : c.toNat < 48 ∨ 57 < c.toNat) : c ∉ Lib.itoa n := fun h => by
  have := itoa_in n c h
  omega
theorem indexByte_first : ∀ (x r : List UInt8) (c : UInt8), c ∉ x → Lib.indexByte (x ++ c :: r) c = x.length
  | [], r, c, _ => by simp [Lib.indexByte]
  | b :: x, r, c, h => by
    have hb : (b == c) = false := beq_eq_false_iff_ne.2 (fun e => h (by simp [e]))
    have ih := indexByte_first x r c (fun hx => h (List.mem_cons_of_mem _ hx))
    rw [List.cons_append, Lib.indexByte, hb, ih]
    rw [if_neg (by simp), if_neg (by simp)]
    simp
theorem indexByte_no : ∀ (x : List UInt8) (c : UInt8), c ∉ x → Lib.indexByte x c = -1
  | [], c, _ => rfl
  | b :: x, c, h => by
    have hb : (b == c) = false := beq_eq_false_iff_ne.2 (fun e => h (by simp [e]))
    have ih := indexByte_no x c (fun hx => h (List.mem_cons_of_mem _ hx))
    rw [Lib.indexByte, hb, ih]
    simp
theorem cut_first (x r : List UInt8) (c : UInt8) (h : c ∉ x) : Lib.cut (x ++ c :: r) [c] = (x, r, true) := by
  unfold Lib.cut
  rw [Lib.index_one, indexByte_first x r c h, if_pos (by omega)]
  simp

end Go.Proofs.YtfgdhlnmndgjbaaGreatDoor
