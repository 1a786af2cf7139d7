/-
  Some texts of this proof in one: RkD RkE RkF. Each part tells what it proves. By an AI agent.
-/
import Derived.Test.YtfgdhlnmndgjbaaGreatDoorRkP
import Derived.Test.YtfgdhlnmndgjbaaGreatDoorWyG

/-
  Parts of matrices. Printed by gen_rkD.py. By an AI agent.
-/
namespace Go.Proofs.YtfgdhlnmndgjbaaGreatDoor
open Go.RowKit

def ptM (m : Nat → Nat → Int) (r c : List Int) (i j : Nat) : Int := m (vx r i) (vx c j)

end Go.Proofs.YtfgdhlnmndgjbaaGreatDoor

/-
  The first regular part of a size, the tropical rank: the program's. By an AI agent.
-/
namespace Go.Proofs.YtfgdhlnmndgjbaaGreatDoor
open Go.RowKit

/-- Two variables of lists. -/
def VfR (T1 T2 : Nat) (w : World) : Prop := (∃ a n c, Own w T1 38 [.slice a n c]) ∧ ∃ a n c, Own w T2 38 [.slice a n c]
def BfR (T1 T2 : Nat) (q : Nat) : Prop := q = T1 ∨ q = T2
theorem VfR.loc {T1 T2 : Nat} {w w' : World} (h : VfR T1 T2 w) (hq : ∀ q, BfR T1 T2 q → w'.heap[q]? = w.heap[q]?) : VfR T1 T2 w' := by
  obtain ⟨⟨a, n, c, h1⟩, ⟨a2, n2, c2, h2⟩⟩ := h
  exact ⟨⟨a, n, c, h1.of_block (hq T1 (Or.inl rfl))⟩, ⟨a2, n2, c2, h2.of_block (hq T2 (Or.inr rfl))⟩⟩
theorem RdI.frO {w w' : World} {N : Nat} {P : Nat → Prop} {ad : Option Addr} {xs : List Int} (h : RdI w ad xs) (hf : FrP N P w w') (hN : w.heap.size ≤ N) (hP : ∀ a, ad = some a → ¬ P a.block) : RdI w' ad xs := fun j hj => by
  obtain ⟨b, off, e, hl, h1⟩ := h j hj
  exact ⟨b, off, e, Nat.lt_of_lt_of_le hl hf.size, hf.cell (p := ⟨b, off + j, none⟩) (by simp; omega) (show ¬ P b from hP _ e) h1⟩
theorem ptM_num {R C : Nat} {m : Nat → Nat → Int} (hnum : ∀ a b, a < R → b < C → numB (m a b) = true) {r c : List Int} (hr : vtB R r = true) (hc : vtB C c = true) {n : Nat} (hlr : r.length = n) (hlc : c.length = n) : ∀ i j, i < n → j < n → numB (ptM m r c i j) = true := fun i j hi hj =>
  hnum _ _ (vt_at hr (t := i) (by omega)).2 (vt_at hc (t := j) (by omega)).2

/-- what the outer visitor asks. -/
def inB6 (C n : Nat) (m : Nat → Nat → Int) (r : List Int) : Bool := (cqA C n).all fun c => !regF n (ptM m r c)
end Go.Proofs.YtfgdhlnmndgjbaaGreatDoor

/-
  The first regular part, the tropical rank: the program's. By an AI agent.
-/
namespace Go.Proofs.YtfgdhlnmndgjbaaGreatDoor
open Go.RowKit

def outB6 (R C n : Nat) (m : Nat → Nat → Int) : Bool := (cqA R n).all fun r => inB6 C n m r
/-- a regular part of a size is there. -/
def hasR (R C n : Nat) (m : Nat → Nat → Int) : Bool := !outB6 R C n m
/-- the tropical rank. -/
def rkF (R C : Nat) (m : Nat → Nat → Int) : Nat → Nat
  | 0 => 0
  | n + 1 => if hasR R C (n + 1) m = true then n + 1 else rkF R C m n

/-! ### the rank of a matrix that was drawn -/
def colN (M : List (List Int)) : Nat := (M.getD 0 []).length
theorem mat_facts {M : List (List Int)} (h : matB M = true) : (1 ≤ M.length ∧ M.length ≤ 6) ∧ (1 ≤ colN M ∧ colN M ≤ 6) ∧ (∀ i, i < M.length → (M.getD i []).length = colN M) ∧ (∀ a b, a < M.length → b < colN M → numB (entM M a b) = true) ∧ toG M.length (colN M) (entM M) = M := by
  unfold matB at h
  rw [Bool.and_eq_true, List.all_eq_true] at h
  obtain ⟨h1, h2⟩ := h
  have h1 := inB_t.1 h1
  have hrow : ∀ i, i < M.length → vecB (M.getD i []) = true ∧ (M.getD i []).length = colN M := fun i hi => by
    have h3 := h2 (M.getD i []) (by rw [List.getD_eq_getElem?_getD, List.getElem?_eq_getElem hi, Option.getD_some]; exact List.getElem_mem hi)
    rw [Bool.and_eq_true, decide_eq_true_eq] at h3
    exact h3
  have hv := (hrow 0 (by omega)).1
  unfold vecB at hv
  rw [Bool.and_eq_true] at hv
  have hc := inB_t.1 hv.1
  refine ⟨by omega, by unfold colN; omega, fun i hi => (hrow i hi).2, fun a b ha hb => ?_, ?_⟩
  · obtain ⟨g1, g2⟩ := hrow a ha
    unfold vecB at g1
    rw [Bool.and_eq_true, List.all_eq_true] at g1
    unfold entM
    exact g1.2 _ (getD_memI (by omega))
  · refine List.ext_getElem? fun i => ?_
    by_cases hi : i < M.length
    · unfold toG
      rw [tab_get hi, List.getElem?_eq_getElem hi]
      congr 1
      refine List.ext_getElem? fun j => ?_
      have hl := (hrow i hi).2
      rw [List.getD_eq_getElem?_getD, List.getElem?_eq_getElem hi, Option.getD_some] at hl
      by_cases hj : j < colN M
      · rw [tab_get hj, List.getElem?_eq_getElem (by omega)]
        unfold entM
        simp [List.getD_eq_getElem?_getD, hi, hl, hj]
      · rw [List.getElem?_eq_none (by rw [tab_length]; omega), List.getElem?_eq_none (by omega)]
    · rw [List.getElem?_eq_none (by rw [toG_len]; omega), List.getElem?_eq_none (by omega)]
/-- the tropical rank of a matrix. -/
def trk (M : List (List Int)) : Nat := rkF M.length (colN M) (entM M) (min M.length (colN M))
end Go.Proofs.YtfgdhlnmndgjbaaGreatDoor
