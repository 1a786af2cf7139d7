/-
  All sets without a vertex, in order: plainly; rows on their way; the reference's rdSets.
-/
import Derived.Test.YtmhmdbmiimpbnaaBurnR
import Derived.Test.YtmhmdbmiimpbnaaLapl
import Derived.Laws.AppendOwnNone
import Derived.Deep.Onto
namespace Go.Proofs.Ytmhmdbmiimpbnaa
open Go.RowKit

def sets (q : Nat) : Nat → Nat → List Int → List (List Int)
  | 0, _, _ => []
  | k + 1, v, s => (if v = q then [] else (s ++ [(v : Int)]) :: sets q k (v + 1) (s ++ [(v : Int)])) ++ sets q k (v + 1) s
theorem sets_skip {q k v : Nat} {s : List Int} (h : v = q) : sets q (k + 1) v s = sets q k (v + 1) s := by simp [sets, h]
theorem sets_take {q k v : Nat} {s : List Int} (h : v ≠ q) : sets q (k + 1) v s = ((s ++ [(v : Int)]) :: sets q k (v + 1) (s ++ [(v : Int)])) ++ sets q k (v + 1) s := by simp [sets, h]
theorem sets_len (q : Nat) : ∀ (k v : Nat) (s : List Int), (sets q k v s).length + 1 ≤ 2 ^ k
  | 0, _, _ => by simp [sets]
  | k + 1, v, s => by
    have h1 := sets_len q k (v + 1) (s ++ [(v : Int)])
    have h2 := sets_len q k (v + 1) s
    rw [Nat.pow_succ]
    by_cases e : v = q
    · rw [sets_skip e]; omega
    · rw [sets_take e, List.length_append, List.length_cons]; omega
theorem sets_ok (q N : Nat) : ∀ (k v : Nat) (s : List Int), v + k = N → Ris 0 v s → (∀ y ∈ s, y ≠ (q : Int)) → ∀ t ∈ sets q k v s, Ris 0 N t ∧ ∀ y ∈ t, y ≠ (q : Int)
  | 0, _, _, _, _, _, t, ht => by simp [sets] at ht
  | k + 1, v, s, h, hs, hq, t, ht => by
    have hs' : Ris 0 ((v + 1 : Nat) : Int) s := ris_up hs (by omega)
    by_cases e : v = q
    · rw [sets_skip e] at ht
      exact sets_ok q N k (v + 1) s (by omega) hs' hq t ht
    · have hn : Ris 0 ((v + 1 : Nat) : Int) (s ++ [(v : Int)]) := by have := ris_snoc hs (Int.le_refl (v : Int)); simpa using this
      have hnq : ∀ y ∈ s ++ [(v : Int)], y ≠ (q : Int) := fun y hy => by
        rcases List.mem_append.1 hy with h | h
        · exact hq y h
        · have : y = (v : Int) := by simpa using h
          omega
      rw [sets_take e] at ht
      rcases List.mem_append.1 ht with h1 | h1
      · rcases List.mem_cons.1 h1 with h2 | h2
        · subst h2; exact ⟨ris_up hn (by omega), hnq⟩
        · exact sets_ok q N k (v + 1) _ (by omega) hn hnq t h2
      · exact sets_ok q N k (v + 1) s (by omega) hs' hq t h1

/-- Rows that are laid one behind the other. -/
structure ORow (w : World) (B : Nat) (v : Value) (rows : List (List Int)) (vs : List Value) : Prop where
  row : w.ownsRow B 30 1 v rows.length vs
  len : vs.length = rows.length
  each : ∀ i, i < rows.length → ResI w B 3 (vs.getD i undef) (rows.getD i [])
  apart : ∀ i j, i < rows.length → j < rows.length → i ≠ j → ∀ q, (vs.getD i undef).ownBlock = some q → (vs.getD j undef).ownBlock ≠ some q
theorem ORow.nil (w : World) (B : Nat) : ORow w B (.slice none 0 0) [] [] := ⟨⟨rfl, Or.inl ⟨rfl, rfl⟩⟩, rfl, fun i hi => by simp at hi, fun i j hi => by simp at hi⟩
theorem ResI.lt {w : World} {B : Nat} {v : Value} {xs : List Int} (h : ResI w B 3 v xs) {q : Nat} (hq : v.ownBlock = some q) : B ≤ q ∧ q < w.heap.size := by
  rcases h with ⟨rfl, _⟩ | ⟨g, cap, rfl, hB, ho⟩
  · simp [Value.ownBlock] at hq
  · simp only [Value.ownBlock, Option.some.injEq] at hq
    subst hq
    exact ⟨hB, ho.lt⟩
theorem ResI.apart {w : World} {B B' n : Nat} {u v : Value} {xs : List Int} {vs : List Value} (h : ResI w B 3 v xs) (hu : w.ownsRow B' 30 1 u n vs) {q : Nat} (hq : v.ownBlock = some q) : u.ownBlock ≠ some q := by
  rcases h with ⟨rfl, _⟩ | ⟨g, cap, rfl, hB, ho⟩
  · simp [Value.ownBlock] at hq
  · simp only [Value.ownBlock, Option.some.injEq] at hq
    subst hq
    exact ownsRow_ne hu ho (by decide)
theorem getD_snoc_lt {α : Type} (l : List α) (x d : α) {i : Nat} (h : i < l.length) : (l ++ [x]).getD i d = l.getD i d := by
  simp [List.getD_eq_getElem?_getD, List.getElem?_append_left h]
theorem getD_snoc_eq {α : Type} (l : List α) (x d : α) : (l ++ [x]).getD l.length d = x := by
  simp [List.getD_eq_getElem?_getD]
theorem getD_app_lt {α : Type} (l m : List α) (d : α) {i : Nat} (h : i < l.length) : (l ++ m).getD i d = l.getD i d := by
  simp [List.getD_eq_getElem?_getD, List.getElem?_append_left h]
theorem getD_app_ge {α : Type} (l m : List α) (d : α) {i : Nat} (h : l.length ≤ i) : (l ++ m).getD i d = m.getD (i - l.length) d := by
  simp [List.getD_eq_getElem?_getD, List.getElem?_append_right h]
theorem ORow.below {w w' : World} {B : Nat} {v : Value} {rows : List (List Int)} {vs : List Value} (h : ORow w B v rows vs) (hb : Below w.heap.size w w') : ORow w' B v rows vs :=
  ⟨ownsRow_bel h.row hb, h.len, fun i hi => (h.each i hi).below hb, h.apart⟩
theorem ORow.mono {w : World} {B B' : Nat} {v : Value} {rows : List (List Int)} {vs : List Value} (h : ORow w B v rows vs) (hB : B' ≤ B) : ORow w B' v rows vs :=
  ⟨World.ownsRow.mono h.row hB, h.len, fun i hi => (h.each i hi).mono hB, h.apart⟩
/-- Rows of two lists behind one another. -/
theorem ORow.app {w w4 : World} {B : Nat} {v v' : Value} {rows rows2 : List (List Int)} {vs vs2 : List Value} (h : ORow w B v rows vs)
    (l2 : vs2.length = rows2.length) (e2 : ∀ i, i < rows2.length → ResI w B 3 (vs2.getD i undef) (rows2.getD i []))
    (a2 : ∀ i j, i < rows2.length → j < rows2.length → i ≠ j → ∀ q, (vs2.getD i undef).ownBlock = some q → (vs2.getD j undef).ownBlock ≠ some q)
    (hnew : ∀ i j, i < rows.length → j < rows2.length → ∀ q, (vs.getD i undef).ownBlock = some q → (vs2.getD j undef).ownBlock ≠ some q)
    (hown : w4.ownsRow B 30 1 v' (rows.length + rows2.length) (vs ++ vs2)) (hg : w.grownBy w4 v.ownBlock) : ORow w4 B v' (rows ++ rows2) (vs ++ vs2) := by
  have hlen := h.len
  refine ⟨row_congr hown (by simp) rfl, by simp [l2, hlen], fun i hi => ?_, fun i j hi hj hij q => ?_⟩
  · rw [List.length_append] at hi
    by_cases hlt : i < rows.length
    · rw [getD_app_lt _ _ _ hlt, getD_app_lt _ _ _ (by omega)]
      exact (h.each i hlt).grown hg fun q hq => (h.each i hlt).apart h.row hq
    · rw [getD_app_ge _ _ _ (by omega), getD_app_ge _ _ _ (by omega), hlen]
      have h3 := e2 (i - rows.length) (by omega)
      exact h3.grown hg fun q hq => h3.apart h.row hq
  · rw [List.length_append] at hi hj
    by_cases h1 : i < rows.length
    · rw [getD_app_lt _ _ _ (by omega)]
      by_cases h2 : j < rows.length
      · rw [getD_app_lt _ _ _ (by omega)]; exact h.apart i j h1 h2 hij q
      · rw [getD_app_ge _ _ _ (by omega)]; exact hnew i _ h1 (by omega) q
    · rw [getD_app_ge _ _ _ (by omega)]
      by_cases h2 : j < rows.length
      · rw [getD_app_lt _ _ _ (by omega)]; exact fun e1 e3 => hnew j (i - vs.length) h2 (by omega) q e3 e1
      · rw [getD_app_ge _ _ _ (by omega)]; exact a2 _ _ (by omega) (by omega) (by omega) q
theorem ORow.resR {w : World} {B : Nat} {v : Value} {rows : List (List Int)} {vs : List Value} (h : ORow w B v rows vs) : ResR w B v rows := by
  rcases Own.of_row h.row with ⟨rfl, h0, _⟩ | ⟨g, cap, rfl, hg, _, _, ho⟩
  · exact Or.inl ⟨rfl, List.length_eq_zero_iff.1 h0⟩
  · exact Or.inr ⟨g, cap, vs, rfl, hg, ho, h.len, h.each, h.apart⟩

end Go.Proofs.Ytmhmdbmiimpbnaa
