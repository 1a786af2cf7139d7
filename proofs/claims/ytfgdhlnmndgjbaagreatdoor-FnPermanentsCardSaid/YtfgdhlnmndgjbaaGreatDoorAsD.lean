/-
  Some texts of this proof in one: AsD AsE AsF AsG AsH AsI AsJ. Each part tells what it proves. By an AI agent.
-/
import Derived.Test.YtfgdhlnmndgjbaaGreatDoorAsC
import Derived.Test.YtfgdhlnmndgjbaaGreatDoorWyG
import Derived.Test.YtfgdhlnmndgjbaaGreatDoorMxI

/-
  The best assignment and the prices of rows and columns: the program's. By an AI agent.
-/
namespace Go.Proofs.YtfgdhlnmndgjbaaGreatDoor
open Go.RowKit

theorem bst_of {M : List (List Int)} (h : bsB M = true) : BstA M.length (entM M) (bstA M.length (entM M)).2 ∧ (bstA M.length (entM M)).1 = costP (entM M) (bstA M.length (entM M)).2 := by
  unfold bsB at h
  simp only [Bool.and_eq_true, Bool.not_eq_true', decide_eq_false_iff_not] at h
  obtain ⟨hn, _, hnum⟩ := sq_facts h.1
  rcases best_spec (m := entM M) hnum hn with ⟨h3, _⟩ | ⟨h3, h4, h5, h6, h7⟩
  · rw [h3] at h; exact absurd rfl h.2
  · exact ⟨⟨hnum, hn, h3, h4, h5, fun c g1 g2 g3 => by rw [← h6]; exact h7 c g1 g2 g3⟩, h6⟩

end Go.Proofs.YtfgdhlnmndgjbaaGreatDoor

/-
  The best assignment and the prices, the program's: what it tells. By an AI agent.
-/
namespace Go.Proofs.YtfgdhlnmndgjbaaGreatDoor
open Go.RowKit

def bsL (M : List (List Int)) : List Int := (bstA M.length (entM M)).2
def bsC (M : List (List Int)) : Int := (bstA M.length (entM M)).1
def rpL (M : List (List Int)) : List Int := tab M.length (prU M.length (entM M) (bsL M))
def cpL (M : List (List Int)) : List Int := tab M.length (prV M.length (entM M) (bsL M))
def baB (M : List (List Int)) : Bool := bsB M && numB (bsC M)
def rpB (M : List (List Int)) : Bool := bsB M && (rpL M).all numB
def cpB (M : List (List Int)) : Bool := bsB M && (cpL M).all numB
def BesR (B : Bool) (A : List Int) (c : Int) (w : World) (e : Ending) (w' : World) : Prop := ∃ ad cap, e = .returned (.tuple #[.slice ad (onL B A).length cap, .int .i64 (if B = true then c else 0), .bool B]) ∧ RdI w' ad (onL B A) ∧ Below w.heap.size w w'

end Go.Proofs.YtfgdhlnmndgjbaaGreatDoor

/-
  The prices of columns: the program's. By an AI agent.
-/
namespace Go.Proofs.YtfgdhlnmndgjbaaGreatDoor
open Go.RowKit

def colF (n : Nat) (m : Nat → Nat → Int) (A : List Int) (i k : Nat) : Int := if hitB (vx A) i k = true then prV n m A k else 0
theorem colF_succ {n : Nat} {m : Nat → Nat → Int} {A : List Int} {i : Nat} (k : Nat) : (if k = vx A i then prV n m A (vx A i) else colF n m A i k) = colF n m A (i + 1) k := by
  unfold colF
  rw [hitB_succ]
  by_cases e : k = vx A i
  · subst e; simp
  · have : decide (vx A i = k) = false := decide_eq_false (fun h => e h.symm)
    rw [if_neg e, this, Bool.or_false]
theorem RdI.chgF {w w' : World} {c b off : Nat} {xs : List Int} (h : RdI w (some ⟨b, off, none⟩) xs) (hc : Chg c w w') (ho : b ≠ c) : RdI w' (some ⟨b, off, none⟩) xs := h.chg hc (fun o e => by
  injection e with e
  injection e with e _ _
  exact ho e)

end Go.Proofs.YtfgdhlnmndgjbaaGreatDoor

/-
  Prices and assignments are tested: the program's. By an AI agent.
-/
namespace Go.Proofs.YtfgdhlnmndgjbaaGreatDoor
open Go.RowKit

def prcQ (n : Nat) (m : Nat → Nat → Int) (u v : List Int) : Bool := (List.range n).all fun i => (List.range n).all fun k => decide (u.getD i 0 + v.getD k 0 ≤ m i k)
theorem prcQ_t {n : Nat} {m : Nat → Nat → Int} {u v : List Int} : prcQ n m u v = true ↔ ∀ i k, i < n → k < n → u.getD i 0 + v.getD k 0 ≤ m i k := by
  unfold prcQ
  simp only [List.all_eq_true, List.mem_range, decide_eq_true_eq]
  exact ⟨fun h i k hi hk => h i hi k hk, fun h i hi k hk => h i k hi hk⟩

def lsm (l : List Int) : Int := smN (fun i => l.getD i 0) l.length
theorem smN_bd {f : Nat → Int} {K : Int} : ∀ {t : Nat}, (∀ i, i < t → -K ≤ f i ∧ f i ≤ K) → -(K * (t : Int)) ≤ smN f t ∧ smN f t ≤ K * (t : Int)
  | 0, _ => by simp [smN]
  | t + 1, h => by
    have h1 := smN_bd (t := t) (fun i hi => h i (by omega))
    have h2 := h t (by omega)
    unfold smN
    rw [Int.natCast_add, Int.mul_add]
    constructor
    · have : K * ((1 : Nat) : Int) = K := by simp
      omega
    · have : K * ((1 : Nat) : Int) = K := by simp
      omega
end Go.Proofs.YtfgdhlnmndgjbaaGreatDoor

/-
  Whether a list is an assignment; proved assignments: the program's. By an AI agent.
-/
namespace Go.Proofs.YtfgdhlnmndgjbaaGreatDoor
open Go.RowKit

def ndF (n : Nat) (a : List Int) : Nat → Bool
  | 0 => true
  | t + 1 => ndF n a t && (inB (a.getD t 0) 0 ((n : Int) - 1) && !(a.take t).contains (a.getD t 0))
def asgB (n : Nat) (a : List Int) : Bool := decide (a.length = n) && ndF n a a.length
theorem take_vx {a : List Int} {t i : Nat} (h : i < t) (_ht : t ≤ a.length) : vx (a.take t) i = vx a i := by
  unfold vx
  rw [List.getD_eq_getElem?_getD, List.getElem?_take, if_pos h, ← List.getD_eq_getElem?_getD]
theorem take_snocA {a : List Int} {t : Nat} (h : t < a.length) : a.take (t + 1) = a.take t ++ [a.getD t 0] := by
  rw [List.take_succ_eq_append_getElem h, List.getD_eq_getElem?_getD, List.getElem?_eq_getElem h, Option.getD_some]
theorem ndF_ndp {n : Nat} {a : List Int} : ∀ {t : Nat}, t ≤ a.length → ndF n a t = true → Ndp n (a.take t)
  | 0, _, _ => by rw [List.take_zero]; exact Ndp.nil n
  | t + 1, ht, h => by
    unfold ndF at h
    simp only [Bool.and_eq_true, Bool.not_eq_true'] at h
    obtain ⟨h1, h2, h3⟩ := h
    have h4 := inB_t.1 h2
    have ih := ndF_ndp (t := t) (by omega) h1
    rw [take_snocA (by omega)]
    obtain ⟨k, hk⟩ : ∃ k : Nat, a.getD t 0 = (k : Int) := ⟨(a.getD t 0).toNat, by omega⟩
    rw [hk] at h3 h4 ⊢
    exact ih.ext (by omega) (by simpa using h3)
theorem asg_ndp {n : Nat} {a : List Int} (h : asgB n a = true) : a.length = n ∧ Ndp n a := by
  unfold asgB at h
  rw [Bool.and_eq_true, decide_eq_true_eq] at h
  have := ndF_ndp (Nat.le_refl _) h.2
  rw [List.take_length] at this
  exact ⟨h.1, this⟩
theorem ndF_mono {n : Nat} {a : List Int} {s t : Nat} (h : s ≤ t) (ht : ndF n a t = true) : ndF n a s = true := by
  induction t with
  | zero => rw [show s = 0 by omega]; rfl
  | succ t ih =>
    by_cases e : s = t + 1
    · rw [e]; exact ht
    · unfold ndF at ht
      rw [Bool.and_eq_true] at ht
      exact ih (by omega) ht.1

end Go.Proofs.YtfgdhlnmndgjbaaGreatDoor

/-
  Prices, proved assignments, costs of assignments: the program's. By an AI agent.
-/
namespace Go.Proofs.YtfgdhlnmndgjbaaGreatDoor
open Go.RowKit

def oneP (M : List (List Int)) (u : List Int) : Bool := decide (u.length = M.length) && u.all finB
def askPr (M : List (List Int)) (u v : List Int) : Bool := sqB M && (oneP M u && oneP M v)
def prcB (M : List (List Int)) (u v : List Int) : Bool := askPr M u v && prcQ M.length (entM M) u v
def pvX (M : List (List Int)) (a u v : List Int) : Bool := askPr M u v && (asgB M.length a && finP (entM M) a)
def pvB (M : List (List Int)) (a u v : List Int) : Bool := pvX M a u v && (prcQ M.length (entM M) u v && decide (lsm u + lsm v = costP (entM M) a))
def cgB (M : List (List Int)) (a : List Int) : Bool := sqB M && (asgB M.length a && finP (entM M) a)
theorem oneP_t {M : List (List Int)} {u : List Int} (h : oneP M u = true) : u.length = M.length ∧ ∀ i, i < M.length → -1000000 ≤ u.getD i 0 ∧ u.getD i 0 ≤ 1000000 := by
  unfold oneP at h
  rw [Bool.and_eq_true, decide_eq_true_eq, List.all_eq_true] at h
  refine ⟨h.1, fun i hi => ?_⟩
  have := h.2 (u.getD i 0) (by rw [List.getD_eq_getElem?_getD, List.getElem?_eq_getElem (by omega)]; exact List.getElem_mem _)
  exact inB_t.1 this
theorem askP_t {M : List (List Int)} {u v : List Int} (h : askPr M u v = true) : sqB M = true ∧ oneP M u = true ∧ oneP M v = true := by
  unfold askPr at h
  simp only [Bool.and_eq_true] at h
  exact h
theorem fin_cost {M : List (List Int)} {a : List Int} (hs : sqB M = true) (h : asgB M.length a = true) : (costP (entM M) a == 1000000000) = !finP (entM M) a ∧ (finP (entM M) a = true → -6000000 ≤ costP (entM M) a ∧ costP (entM M) a ≤ 6000000) := by
  obtain ⟨hn, _, hnum⟩ := sq_facts hs
  obtain ⟨h1, h2⟩ := asg_ndp h
  rcases (prm_cost (m := entM M) hnum hn h2 h1).2 with ⟨g1, g2⟩ | ⟨g1, g2, _, g3⟩
  · exact ⟨by rw [g1, g2]; rfl, fun h => by rw [g1] at h; cases h⟩
  · exact ⟨by rw [g1]; exact beq_eq_false_iff_ne.2 (by omega), fun _ => g3⟩

end Go.Proofs.YtfgdhlnmndgjbaaGreatDoor

/-
  Proved assignments: the program's. By an AI agent.
-/
namespace Go.Proofs.YtfgdhlnmndgjbaaGreatDoor
open Go.RowKit

end Go.Proofs.YtfgdhlnmndgjbaaGreatDoor
