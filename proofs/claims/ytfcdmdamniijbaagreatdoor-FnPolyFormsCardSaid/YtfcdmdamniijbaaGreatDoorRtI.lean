/-
  Polynomials and their corners: program and reference. Printed by gen_rtI.py.
-/
import Derived.Test.YtfcdmdamniijbaaGreatDoorFrQ
import Derived.Test.YtfcdmdamniijbaaGreatDoorRowI
import Derived.Test.YtfcdmdamniijbaaGreatDoorNum
import Derived.Deep.DeepCutAuto
import Derived.Deep.QuietTactic
namespace Go.Proofs.YtfcdmdamniijbaaGreatDoor
open Go.RowKit

/-- A valid polynomial. -/
def polyB (p : List Int) : Bool := inB p.length 1 13 && (p.all numB && decide (p.getD (p.length - 1) 0 ≠ 1000000000))
theorem polyB_t {p : List Int} (h : polyB p = true) : (1 ≤ p.length ∧ p.length ≤ 13) ∧ (∀ e, e < p.length → numB (p.getD e 0) = true) ∧ p.getD (p.length - 1) 0 ≠ 1000000000 := by
  unfold polyB at h
  obtain ⟨h1, h2⟩ := Bool.and_eq_true_iff.1 h
  obtain ⟨h3, h4⟩ := Bool.and_eq_true_iff.1 h2
  have h1 := inB_t.1 h1
  refine ⟨by omega, fun e he => ?_, of_decide_eq_true h4⟩
  rw [List.getD_eq_getElem?_getD, List.getElem?_eq_getElem he, Option.getD_some]
  exact List.all_eq_true.1 h3 _ (List.getElem_mem he)
def cof (p : List Int) (e : Nat) : Int := p.getD e 0
/-- The exponents less than k whose coefficients are numbers. -/
def finK (p : List Int) (k : Nat) : List Nat := (List.range k).filter fun e => decide (cof p e ≠ 1000000000)
theorem finK_hit {p : List Int} {k : Nat} (h : cof p k ≠ 1000000000) : finK p (k + 1) = finK p k ++ [k] := by simp [finK, List.range_succ, h]
theorem finK_miss {p : List Int} {k : Nat} (h : cof p k = 1000000000) : finK p (k + 1) = finK p k := by simp [finK, List.range_succ, h]
theorem finK_mem {p : List Int} {k y : Nat} (h : y ∈ finK p k) : y < k ∧ cof p y ≠ 1000000000 := by simpa [finK] using h
theorem finK_inc (p : List Int) (k : Nat) : IncL (finK p k) := List.Pairwise.filter _ List.pairwise_lt_range
theorem finK_len (p : List Int) (k : Nat) : (finK p k).length ≤ k := by
  have := List.length_filter_le (fun e => decide (cof p e ≠ 1000000000)) (List.range k)
  simpa [finK] using this
def natL (o : List Nat) : List Int := o.map fun (n : Nat) => (n : Int)
theorem natL_len (o : List Nat) : (natL o).length = o.length := by simp [natL]
theorem natL_getD {o : List Nat} {i : Nat} (h : i < o.length) : (natL o).getD i 0 = ((o.getD i 0 : Nat) : Int) := by
  simp [natL, List.getD_eq_getElem?_getD, List.getElem?_eq_getElem h]
theorem natL_drop (o : List Nat) : (natL o).dropLast = natL o.dropLast := by simp [natL, List.map_dropLast]
theorem natL_snoc (o : List Nat) (k : Nat) : natL (o ++ [k]) = natL o ++ [(k : Int)] := by simp [natL]
/-- The corners, from the least on. -/
def corL (c : Nat → Int) (l : List Nat) : List Nat := (corR c l).reverse
def corP (p : List Int) : List Nat := corL (cof p) (finK p p.length)
def popF (c : Nat → Int) (o : List Nat) (i : Nat) : List Nat := (popR c i o.reverse).reverse
def popB (c : Nat → Int) (o : List Nat) (i : Nat) : Bool := decide (1 < o.length) && !(keepQ c (o.getD (o.length - 2) 0) (o.getD (o.length - 1) 0) i)
theorem corL_snoc (c : Nat → Int) (l : List Nat) (i : Nat) : corL c (l ++ [i]) = popF c (corL c l) i ++ [i] := by
  unfold corL popF
  rw [corR_snoc, List.reverse_reverse, List.reverse_cons]
theorem two_last {o : List Nat} (h : 1 < o.length) : o.reverse = o.getD (o.length - 1) 0 :: o.getD (o.length - 2) 0 :: (o.dropLast.dropLast).reverse ∧ o.dropLast.reverse = o.getD (o.length - 2) 0 :: (o.dropLast.dropLast).reverse := by
  obtain ⟨o1, b, rfl⟩ : ∃ o1 b, o = o1 ++ [b] := ⟨o.dropLast, o.getLast (by intro e; subst e; simp at h), (List.dropLast_concat_getLast _).symm⟩
  obtain ⟨o2, a, rfl⟩ : ∃ o2 a, o1 = o2 ++ [a] := ⟨o1.dropLast, o1.getLast (by intro e; subst e; simp at h), (List.dropLast_concat_getLast _).symm⟩
  simp [List.getD_eq_getElem?_getD]
theorem popF_go {c : Nat → Int} {o : List Nat} {i : Nat} (h : popB c o i = true) : popF c o i = popF c o.dropLast i := by
  unfold popB at h
  obtain ⟨h1, h2⟩ := Bool.and_eq_true_iff.1 h
  obtain ⟨e1, e2⟩ := two_last (of_decide_eq_true h1)
  unfold popF
  rw [e1, e2]
  congr 1
  rw [popR, if_neg (by simpa using h2)]
theorem popF_stop {c : Nat → Int} {o : List Nat} {i : Nat} (h : popB c o i = false) : popF c o i = o := by
  unfold popF
  by_cases h1 : 1 < o.length
  · obtain ⟨e1, e2⟩ := two_last h1
    have h2 : keepQ c (o.getD (o.length - 2) 0) (o.getD (o.length - 1) 0) i = true := by
      unfold popB at h
      rw [decide_eq_true h1] at h
      simpa using h
    have e3 : popR c i o.reverse = o.reverse := by
      rw [e1, popR, if_pos h2]
    rw [e3, List.reverse_reverse]
  · have : o.length = 0 ∨ o.length = 1 := by omega
    rcases this with h0 | h0
    · rw [List.eq_nil_of_length_eq_zero h0]; rfl
    · obtain ⟨a, rfl⟩ := List.length_eq_one_iff.1 h0; rfl
theorem corL_mem {c : Nat → Int} {l : List Nat} (hl : IncL l) : ∀ y ∈ corL c l, y ∈ l := fun y hy => (cor_all l hl).2.1 y (List.mem_reverse.1 hy)
theorem corL_len {c : Nat → Int} {l : List Nat} (hl : IncL l) : (corL c l).length ≤ l.length := by
  have := (cor_all (c := c) l hl).2.2.1
  unfold corL
  rwa [List.length_reverse]
theorem RowI.drop {w : World} {B n cap : Nat} {ad : Option Addr} {l : List Int} (h : RowI w B (.slice ad n cap) l) (h0 : 0 < l.length) : RowI w B (.slice ad (l.length - 1) cap) l.dropLast := by
  rcases h.2 with ⟨e, e2⟩ | ⟨g, cap', cur, e, hb, hg, h1, h2, h3, h4⟩
  · omega
  · injection e with e1 e3 e4
    subst e1; subst e4
    refine ⟨by simp [ints], .inr ⟨g, cap, cur, by rw [List.length_dropLast], hb, hg, by rw [List.length_dropLast]; omega, h2, h3, ?_⟩⟩
    rw [List.length_dropLast, List.dropLast_eq_take]
    have e5 : ints (l.take (l.length - 1)) = (ints l).take (l.length - 1) := by simp [ints, List.map_take]
    rw [e5, ← h4, List.take_take]
    congr 1
    omega
theorem RowI.shape2 {w : World} {B : Nat} {v : Value} {l : List Int} (h : RowI w B v l) : ∃ ad cap, v = .slice ad l.length cap ∧ l.length ≤ cap ∧ cap ≤ maxLen := by
  rcases h.2 with ⟨e, e2⟩ | ⟨g, cap, cur, e, _, _, h1, h2, _⟩
  · exact ⟨none, 0, by rw [e, e2], by omega, by unfold maxLen; omega⟩
  · exact ⟨_, cap, e, h1, h2⟩
theorem RowI.rdc {w : World} {B : Nat} {ad : Option Addr} {n cap : Nat} {l : List Int} (h : RowI w B (.slice ad n cap) l) : RdI w ad l := by
  obtain ⟨ad', cap', e, hr⟩ := h.shape
  injection e with e1 _ _
  subst e1
  exact hr
theorem rowI_empty (w : World) : RowI (w.alloc (.cells #[] 3)) w.heap.size (.slice (some ⟨w.heap.size, 0, none⟩) 0 0) [] :=
  World.ownsRow_made w #[] 0 (Nat.le_refl _) (by decide) rfl
def lenOf : Value → Nat
  | .slice _ n _ => n
  | _ => 0

set_option maxHeartbeats 1600000 in
theorem isPoly_c (ad : Option Addr) (cap : Nat) (p : List Int) (w : World) (hr : RdI w ad p) (hl : p.length ≤ 1048576) :
    Calls Tryz.prog 26 #[.slice ad p.length cap] w fun e w' => e = .returned (.bool (polyB p)) ∧ w = w' := by
  have c1 := fun w => within_any (p.length : Int) 1 13 w
  have c2 := areNumbers_c ad cap p w hr hl
  have HR := Lib.hid hr; clear hr
  have h13 := fun h => inB_t.1 (show inB (p.length : Int) 1 13 = true from h)
  unfold polyB
  generalize inB (p.length : Int) 1 13 = u at c1 h13 ⊢
  generalize p.all numB = v at c2 ⊢
  have C1 := Lib.hid c1; have C2 := Lib.hid c2; clear c1 c2
  cases u
  case false =>
    clear h13
    rw [Bool.false_and]
    go_enter Tryz.func26, Tryz.ntmps26
    go_wp2_with fail
    refine (C1.out _).mono ?_
    rintro e w1 ⟨rfl, rfl⟩
    go_wp2_with fail
    go_ret
    exact ⟨rfl, rfl⟩
  case true =>
    have hlen := h13 rfl
    clear h13
    cases v
    case false =>
      rw [Bool.false_and, Bool.and_false]
      go_enter Tryz.func26, Tryz.ntmps26
      go_wp2_with fail
      refine (C1.out _).mono ?_
      rintro e w1 ⟨rfl, rfl⟩
      go_wp2_with fail
      refine C2.out.mono ?_
      rintro e w1 ⟨rfl, rfl⟩
      go_wp2_with fail
      go_ret
      exact ⟨rfl, rfl⟩
    case true =>
      obtain ⟨m, hm⟩ : ∃ m, p.length = m + 1 := ⟨p.length - 1, by omega⟩
      obtain ⟨b, off, rfl, hb, c0⟩ := HR.out m (by omega)
      rw [show p.length - 1 = m by omega]
      generalize p.getD m 0 = x at c0 ⊢
      obtain ⟨n, hn⟩ : ∃ n, p.length = n := ⟨_, rfl⟩
      rw [hn] at C1 C2 hlen hm ⊢
      have en : (n : Int) - 1 = (m : Int) := by omega
      have wn : IntKind.i64.wrap (m : Int) = (m : Int) := i64_small (by omega) (by omega)
      have x1 : (0 : Int) ≤ (m : Int) := by omega
      have x2 : (m : Int) < (n : Int) := by omega
      have hq : (x != 1000000000) = decide (x ≠ 1000000000) := by by_cases h : x = 1000000000 <;> simp [h]
      have hq2 : (!(x == 1000000000)) = decide (x ≠ 1000000000) := by by_cases h : x = 1000000000 <;> simp [h]
      generalize decide (x ≠ 1000000000) = q at hq hq2 ⊢
      clear hn hm HR hlen
      go_enter Tryz.func26, Tryz.ntmps26
      go_wp2_with fail
      refine (C1.out _).mono ?_
      rintro e w1 ⟨rfl, rfl⟩
      go_wp2_with fail
      refine C2.out.mono ?_
      rintro e w1 ⟨rfl, rfl⟩
      go_wp2_with fail
      go_ret
      exact ⟨rfl, rfl⟩
theorem rowN {w : World} {B : Nat} {v : Value} {o : List Nat} {N : Nat} (h : RowI w B v (natL o)) (e : o.length = N) : w.ownsRow B 3 1 v N (ints (natL o)) := by
  subst e
  have := h
  unfold RowI at this
  rwa [natL_len] at this
end Go.Proofs.YtfcdmdamniijbaaGreatDoor
