/-
  Lists of lists of numbers: what a call hands back, how the harness compares and marks them.
-/
import Derived.Test.YtmhmdbmiimpbnaaFire
namespace Go.Proofs.Ytmhmdbmiimpbnaa
open Go.RowKit

/-- A slice of slices of numbers in memory of the call's own, no two rows over one block. -/
def ResR (w : World) (B : Nat) (v : Value) (rows : List (List Int)) : Prop :=
  (v = .slice none 0 0 ∧ rows = []) ∨ ∃ g cap vs, v = .slice (some ⟨g, 0, none⟩) rows.length cap ∧ B ≤ g ∧ Own w g 30 vs ∧ vs.length = rows.length ∧
    (∀ i, i < rows.length → ResI w B 3 (vs.getD i undef) (rows.getD i [])) ∧ ∀ i j, i < rows.length → j < rows.length → i ≠ j → ∀ q, (vs.getD i undef).ownBlock = some q → (vs.getD j undef).ownBlock ≠ some q

/-- The same, as it is read. -/
def RdR (w : World) (v : Value) (rows : List (List Int)) : Prop :=
  ∃ ad cap, v = .slice ad rows.length cap ∧ ∀ i, i < rows.length → ∃ b off u, ad = some ⟨b, off, none⟩ ∧ b < w.heap.size ∧ w.cell? ⟨b, off + i, none⟩ = some u ∧ RdV w u (rows.getD i [])

theorem RdV.below {w w' : World} {v : Value} {xs : List Int} (h : RdV w v xs) (hb : Below w.heap.size w w') : RdV w' v xs := by
  obtain ⟨ad, cap, e, h⟩ := h
  exact ⟨ad, cap, e, h.below hb⟩
theorem ResR.rdR {w : World} {B : Nat} {v : Value} {rows : List (List Int)} (h : ResR w B v rows) : RdR w v rows := by
  rcases h with ⟨rfl, rfl⟩ | ⟨g, cap, vs, rfl, _, ho, hl, hr, _⟩
  · exact ⟨none, 0, rfl, fun i hi => by simp at hi⟩
  · refine ⟨_, cap, rfl, fun i hi => ⟨g, 0, vs.getD i undef, rfl, ho.lt, ?_, (hr i hi).rdV⟩⟩
    rw [Nat.zero_add]
    exact ho.cell? (by simp [List.getD, show i < vs.length by omega])
theorem ResR.of_block {w w' : World} {B : Nat} {v : Value} {rows : List (List Int)} (h : ResR w B v rows) (e : ∀ q, q < w.heap.size → w'.heap[q]? = w.heap[q]?) : ResR w' B v rows := by
  rcases h with h | ⟨g, cap, vs, rfl, hg, ho, hl, hr, hd⟩
  · exact Or.inl h
  · refine Or.inr ⟨g, cap, vs, rfl, hg, ho.of_block (e _ ho.lt), hl, fun i hi => ?_, hd⟩
    rcases hr i hi with h | ⟨q, c, h1, h2, h3⟩
    · exact Or.inl h
    · exact Or.inr ⟨q, c, h1, h2, h3.of_block (e _ h3.lt)⟩
theorem ResR.below {w w' : World} {B : Nat} {v : Value} {rows : List (List Int)} (h : ResR w B v rows) (hb : Below w.heap.size w w') : ResR w' B v rows := h.of_block hb.block
theorem ResR.mono {w : World} {B B' : Nat} {v : Value} {rows : List (List Int)} (h : ResR w B v rows) (hB : B' ≤ B) : ResR w B' v rows := by
  rcases h with h | ⟨g, cap, vs, rfl, hg, ho, hl, hr, hd⟩
  · exact Or.inl h
  · exact Or.inr ⟨g, cap, vs, rfl, Nat.le_trans hB hg, ho, hl, fun i hi => (hr i hi).mono hB, hd⟩
theorem ResR.chg {w w' : World} {B b : Nat} {v : Value} {rows : List (List Int)} (h : ResR w B v rows) (hc : Chg b w w') (hb : b < B) : ResR w' B v rows := by
  rcases h with h | ⟨g, cap, vs, rfl, hg, ho, hl, hr, hd⟩
  · exact Or.inl h
  · exact Or.inr ⟨g, cap, vs, rfl, hg, ho.chg hc (by omega), hl, fun i hi => (hr i hi).chg hc hb, hd⟩
theorem ResI.grown {w w' : World} {B : Nat} {E : TypeId} {v : Value} {xs : List Int} {row : Option Nat} (h : ResI w B E v xs) (hg : w.grownBy w' row) (hne : ∀ q, v.ownBlock = some q → row ≠ some q) : ResI w' B E v xs := by
  rcases h with h | ⟨g, cap, rfl, hB, ho⟩
  · exact Or.inl h
  · exact Or.inr ⟨g, cap, rfl, hB, ho.grown hg (hne g rfl)⟩

theorem Chg.grownBy {b : Nat} {w w' : World} (h : Chg b w w') : w.grownBy w' (some b) := ⟨h.os, h.tape, h.output, h.size, fun k hk hne => h.block k hk (fun e => hne (by rw [e]))⟩

/-- How many numbers stand in the first i rows. -/
def cum (rows : List (List Int)) (i : Nat) : Nat := ((rows.take i).map List.length).sum
theorem cum_zero (rows : List (List Int)) : cum rows 0 = 0 := rfl
theorem cum_succ {rows : List (List Int)} {i : Nat} (h : i < rows.length) : cum rows (i + 1) = cum rows i + (rows.getD i []).length := by
  unfold cum
  rw [take_snoc rows i [] h]
  simp
def numRows (rows : List (List Int)) (k : Int) : List (List Int) := tab rows.length fun i => tab (rows.getD i []).length fun j => k + cum rows i + j
theorem numRows_length (rows : List (List Int)) (k : Int) : (numRows rows k).length = rows.length := tab_length _ _
theorem numRows_get {rows : List (List Int)} {k : Int} {i : Nat} (h : i < rows.length) : (numRows rows k).getD i [] = tab (rows.getD i []).length fun j => k + cum rows i + j := tab_getD h _
/-- Rows of at most 64 numbers, at most 4096 of them. -/
def smallR (rows : List (List Int)) : Prop := rows.length ≤ 4096 ∧ ∀ i, i < rows.length → (rows.getD i []).length ≤ 64
theorem cum_bound {rows : List (List Int)} (h : smallR rows) : ∀ i, i ≤ rows.length → cum rows i ≤ 64 * i
  | 0, _ => by simp [cum_zero]
  | i + 1, hi => by
    have ih := cum_bound h i (by omega)
    have := h.2 i (by omega)
    rw [cum_succ (by omega)]
    omega

/-- The rows but the first k still hold what they held. -/
def mixR (rows : List (List Int)) (k : Nat) : List (List Int) := tab rows.length fun i => if i < k then tab (rows.getD i []).length fun j => 1 + (cum rows i : Int) + j else rows.getD i []
theorem mixR_length (rows : List (List Int)) (k : Nat) : (mixR rows k).length = rows.length := tab_length _ _
theorem mixR_zero (rows : List (List Int)) : mixR rows 0 = rows := by
  unfold mixR
  simp only [Nat.not_lt_zero, if_false]
  exact tab_self rows []
theorem mixR_full (rows : List (List Int)) : mixR rows rows.length = numRows rows 1 := by
  unfold mixR numRows
  exact tab_congr fun i hi => by rw [if_pos hi]
theorem mixR_at {rows : List (List Int)} {k i : Nat} (h : i < rows.length) (hk : k ≤ i) : (mixR rows k).getD i [] = rows.getD i [] := by
  unfold mixR
  rw [tab_getD h, if_neg (by omega)]

theorem ResR.step {w w1 : World} {B g cap : Nat} {vs : List Value} {rows rows' : List (List Int)} {k : Nat} (hg : B ≤ g) (ho : Own w g 30 vs) (hl : vs.length = rows.length)
    (hr : ∀ i, i < rows.length → ResI w B 3 (vs.getD i undef) (rows.getD i [])) (hd : ∀ i j, i < rows.length → j < rows.length → i ≠ j → ∀ q, (vs.getD i undef).ownBlock = some q → (vs.getD j undef).ownBlock ≠ some q)
    (hk : k < rows.length) (hgr : w.grownBy w1 (vs.getD k undef).ownBlock) (hn : ResI w1 B 3 (vs.getD k undef) (rows'.getD k [])) (hl' : rows'.length = rows.length)
    (he : ∀ i, i < rows.length → i ≠ k → rows'.getD i [] = rows.getD i []) : ResR w1 B (.slice (some ⟨g, 0, none⟩) rows'.length cap) rows' := by
  refine Or.inr ⟨g, cap, vs, rfl, hg, ho.grown hgr ?_, by omega, fun i hi => ?_, by rw [hl']; exact hd⟩
  · intro e
    rcases hr k hk with ⟨h, _⟩ | ⟨q, c, h, _, ho'⟩
    · rw [h] at e; simp [Value.ownBlock] at e
    · rw [h] at e
      simp only [Value.ownBlock, Option.some.injEq] at e
      subst e
      exact ho.ne_of_type ho' (by decide) rfl
  · by_cases e : i = k
    · subst e; exact hn
    · rw [he i (by omega) e]
      exact (hr i (by omega)).grown hgr (fun q hq hk' => hd i k (by omega) hk e q hq hk')

end Go.Proofs.Ytmhmdbmiimpbnaa
