/-
  The matrix of a graph as it is handed back: impl.clones, laplacian, LaplacianOf of both sides.
-/
import Derived.Test.YtkbkemcigcdoaaaMat
namespace Go.Proofs.Ytkbkemcigcdoaaa
open Go.RowKit

/-- N rows of N numbers in memory of the call's own. -/
structure MatC (w : World) (B g : Nat) (rb cb : Nat → Nat) (N : Nat) (M : Nat → Nat → Int) : Prop where
  hg : B ≤ g
  hb : Own w g 23 (tab N fun i => .slice (some ⟨rb i, 0, none⟩) N (cb i))
  hr : ∀ i, i < N → B ≤ rb i ∧ Own w (rb i) 3 (ints (tab N (M i)))
  inj : ∀ i j, i < N → j < N → i ≠ j → rb i ≠ rb j

section
variable {w w' : World} {B g : Nat} {rb cb : Nat → Nat} {N : Nat} {M : Nat → Nat → Int}
theorem MatC.resR (h : MatC w B g rb cb N M) (cap : Nat) : ResR w B (.slice (some ⟨g, 0, none⟩) N cap) (tab N fun i => tab N (M i)) := by
  have hl : (tab N fun i => tab N (M i)).length = N := tab_length _ _
  refine Or.inr ⟨g, cap, _, by rw [hl], h.hg, h.hb, by rw [tab_length, hl], fun i hi => ?_, fun i j hi hj hij q hq => ?_⟩
  · rw [hl] at hi
    rw [tab_getD hi, tab_getD hi]
    exact Or.inr ⟨rb i, cb i, by rw [tab_length], (h.hr i hi).1, (h.hr i hi).2⟩
  · rw [hl] at hi hj
    rw [tab_getD hi] at hq
    rw [tab_getD hj]
    simp only [Value.ownBlock, Option.some.injEq] at hq ⊢
    rw [← hq]
    intro e; simp only [Option.some.injEq] at e; exact h.inj j i hj hi (Ne.symm hij) e
theorem MatC.congr {M' : Nat → Nat → Int} (h : MatC w B g rb cb N M) (e1 : ∀ i j, i < N → j < N → M i j = M' i j) : MatC w B g rb cb N M' :=
  ⟨h.hg, h.hb, fun i hi => ⟨(h.hr i hi).1, (h.hr i hi).2.congr (by rw [tab_congr fun j hj => e1 i j hi hj])⟩, h.inj⟩
theorem MatC.row (h : MatC w B g rb cb N M) {i : Nat} (hi : i < N) : w.cell? ⟨g, i, none⟩ = some (.slice (some ⟨rb i, 0, none⟩) N (cb i)) := h.hb.cell? (tab_get hi)
theorem MatC.cb' (h : MatC w B g rb cb N M) {i j : Nat} (hi : i < N) (hj : j < N) : w.cell? ⟨rb i, j, none⟩ = some (.int .i64 (M i j)) := by
  refine (h.hr i hi).2.cell? ?_
  rw [ints_get (by rw [tab_length]; exact hj), tab_getD hj]
theorem MatC.nbr (h : MatC w B g rb cb N M) {i : Nat} (hi : i < N) : g ≠ rb i := h.hb.ne_of_type (h.hr i hi).2 (by decide)
theorem MatC.drew (h : MatC w B g rb cb N M) : MatC w.drew B g rb cb N M := ⟨h.hg, h.hb, h.hr, h.inj⟩
theorem MatC.set (h : MatC w B g rb cb N M) {a : Nat} (b : Nat) (ha : a < N) (x : Int) :
    MatC (w.setCell ⟨rb a, b, none⟩ (.int .i64 x)) B g rb cb N (fun i j => if i = a ∧ j = b then x else M i j) := by
  refine ⟨h.hg, h.hb.setOther (h.nbr ha) _, fun i hi => ⟨(h.hr i hi).1, ?_⟩, h.inj⟩
  by_cases e : i = a
  · subst e
    have := (h.hr i hi).2.set b (.int .i64 x)
    rw [ints_set, tab_set] at this
    refine this.congr ?_
    congr 1
    exact tab_congr fun j _ => by by_cases q : j = b <;> simp [q]
  · refine ((h.hr i hi).2.setOther (a := ⟨rb a, b, none⟩) (h.inj i a hi ha e) (.int .i64 x)).congr ?_
    congr 1
    exact tab_congr fun j _ => by simp [e]
end
theorem MatAt.matC {w : World} {gb : Nat} {rb : Nat → Nat} {N : Nat} {M : Nat → Nat → Int} (h : MatAt w gb rb N M) {B : Nat} (hg : B ≤ gb) (hr : ∀ i, i < N → B ≤ rb i) : MatC w B gb rb (fun _ => N) N M :=
  ⟨hg, h.hb, fun i hi => ⟨hr i hi, h.hr i hi⟩, h.inj⟩

/-- The copies so far. -/
structure C1 (w0 : World) (N k : Nat) (M : Nat → Nat → Int) (v : Value) (rb cb : Nat → Nat) (wr : World) : Prop where
  row : wr.ownsRow w0.heap.size 23 1 v k (tab k fun i => .slice (some ⟨rb i, 0, none⟩) N (cb i))
  hr : ∀ i, i < k → w0.heap.size ≤ rb i ∧ Own wr (rb i) 3 (ints (tab N (M i)))
  inj : ∀ i j, i < k → j < k → i ≠ j → rb i ≠ rb j
  bel : Below w0.heap.size w0 wr

theorem C1.step {w0 wr w1 w2 : World} {N k : Nat} {M : Nat → Nat → Int} {v v' : Value} {rb cb : Nat → Nat} (h : C1 w0 N k M v rb cb wr) (g c : Nat)
    (hg : wr.heap.size ≤ g) (ho : Own w1 g 3 (ints (tab N (M k)))) (hb : Below wr.heap.size wr w1)
    (hown : w2.ownsRow w0.heap.size 23 1 v' (k + 1) ((tab k fun i => .slice (some ⟨rb i, 0, none⟩) N (cb i)) ++ [.slice (some ⟨g, 0, none⟩) N c])) (hgrow : w1.grownBy w2 v.ownBlock) :
    C1 w0 N (k + 1) M v' (fun i => if i = k then g else rb i) (fun i => if i = k then c else cb i) w2 := by
  have hs := h.bel.size
  have keep : ∀ {q : Nat} {cs : List Value}, Own wr q 3 cs → Own w2 q 3 cs := fun ho => (ho.belowAll hb).grown hgrow (ownsRow_ne h.row ho (by decide))
  have hnew : Own w2 g 3 (ints (tab N (M k))) := ho.grown hgrow (fun e => by have := (h.row.lt _ e).2; omega)
  refine ⟨?_, ?_, ?_, ?_⟩
  · have e : (tab k fun i => Value.slice (some ⟨rb i, 0, none⟩) N (cb i)) ++ [.slice (some ⟨g, 0, none⟩) N c] = tab (k + 1) fun i => .slice (some ⟨if i = k then g else rb i, 0, none⟩) N (if i = k then c else cb i) := by
      rw [tab_succ]
      congr 1
      · exact tab_congr fun i hi => by rw [if_neg (by omega), if_neg (by omega)]
      · simp
    rw [← e]
    exact hown
  · intro i hi
    by_cases e : i = k
    · subst e
      simp only [if_true]
      exact ⟨by omega, hnew⟩
    · simp only [if_neg e]
      obtain ⟨r1, r2⟩ := h.hr i (by omega)
      exact ⟨r1, keep r2⟩
  · intro i j hi hj hij
    by_cases e : i = k
    · subst e
      have := (h.hr j (by omega)).2.lt
      simp only [if_true, if_neg (Ne.symm hij)]
      omega
    · by_cases e' : j = k
      · subst e'
        have := (h.hr i (by omega)).2.lt
        simp only [if_true, if_neg hij]
        omega
      · simp only [if_neg e, if_neg e']
        exact h.inj i j (by omega) (by omega) hij
  · exact ((h.bel.trans (hb.mono hs))).grown hgrow (Nat.le_trans hs hb.size) (fun q e => (h.row.lt _ e).1)

theorem ownsRow_bel {B : Nat} {e : TypeId} {k : Nat} {v : Value} {n : Nat} {xs : List Value} {w w' : World} (h : w.ownsRow B e k v n xs) (hb : Below w.heap.size w w') : w'.ownsRow B e k v n xs :=
  h.kept (row := none) ⟨hb.os, hb.tape, hb.output, hb.size, fun j hj _ => hb.block j hj⟩ (by cases hv : v.ownBlock <;> simp)

/-- What LaplacianOf answers. -/
def laplR (n : Int) (ls : List Lk) : List (List Int) × Bool := if goodL n ls = true then (tab n.toNat fun i => tab n.toNat (lapF ls i), true) else ([], false)
theorem laplR_small (n : Int) (ls : List Lk) : smallR (laplR n ls).1 := by
  unfold laplR
  split
  · rename_i h
    have := good_n h
    refine ⟨by rw [tab_length]; omega, fun i hi => ?_⟩
    rw [tab_length] at hi
    rw [tab_getD hi, tab_length]; omega
  · exact ⟨by simp, fun i hi => by simp at hi⟩
def RetRB (r : List (List Int) × Bool) (w : World) (e : Ending) (w' : World) : Prop := ∃ v, e = .returned (.tuple #[v, .bool r.2]) ∧ ResR w' w.heap.size v r.1 ∧ Below w.heap.size w w'
theorem RetRB.of {r : List (List Int) × Bool} {w w' : World} {v : Value} {a : List (List Int)} {b : Bool} (h : r = (a, b)) (hv : ResR w' w.heap.size v a) (hb : Below w.heap.size w w') : RetRB r w (.returned (.tuple #[v, .bool b])) w' := by subst h; exact ⟨v, rfl, hv, hb⟩
theorem RetRB.no {r : List (List Int) × Bool} {w w' : World} (h : r = ([], false)) (hb : Below w.heap.size w w') : RetRB r w (.returned (.tuple #[.slice none 0 0, .bool false])) w' := RetRB.of h (Or.inl ⟨rfl, rfl⟩) hb

end Go.Proofs.Ytkbkemcigcdoaaa
