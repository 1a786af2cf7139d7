/-
  Equal neighbours, plain; the stores that slices.Compact makes. By an AI agent.
-/
import Derived.Test.YtpnnmdkhkjenmaaPtG
import Derived.Lib.SliceRun
import Derived.Laws.IdiomCopy
namespace Go.Proofs.Ytpnnmdkhkjenmaa
open Go.RowKit
open Go.Sort (swp size_swp)

theorem compactF_snoc (a b : Pt) : ∀ (l : List Pt), compactF (l ++ [a, b]) = if a = b then compactF (l ++ [a]) else compactF (l ++ [a]) ++ [b]
  | [] => by
    simp only [List.nil_append, compactF]
    split
    · rename_i h; rw [h]
    · rfl
  | [x] => by
    show compactF (x :: a :: [b]) = if a = b then compactF (x :: a :: []) else compactF (x :: a :: []) ++ [b]
    by_cases h1 : x = a <;> by_cases h2 : a = b <;> simp [compactF, h1, h2]
  | x :: y :: l => by
    show compactF (x :: y :: (l ++ [a, b])) = if a = b then compactF (x :: y :: (l ++ [a])) else compactF (x :: y :: (l ++ [a])) ++ [b]
    have h0 := compactF_snoc a b (y :: l)
    simp only [List.cons_append] at h0
    rw [compactF, compactF, h0]
    by_cases h1 : x = y <;> by_cases h2 : a = b <;> simp [h1, h2]
def cpre (l : List Pt) (m : Nat) : List Pt := compactF (l.take m)
theorem cpre_succ {l : List Pt} {m : Nat} (h : m + 1 < l.length) : cpre l (m + 2) = if l.getD m default = l.getD (m + 1) default then cpre l (m + 1) else cpre l (m + 1) ++ [l.getD (m + 1) default] := by
  unfold cpre
  rw [take_snoc' l (m + 1) h, take_snoc' l m (by omega), List.append_assoc]
  exact compactF_snoc _ _ _
theorem cpre_one (l : List Pt) (h : 0 < l.length) : cpre l 1 = l.take 1 := by
  cases l with
  | nil => simp at h
  | cons x l => simp [cpre, compactF]
theorem cpre_all (l : List Pt) : cpre l l.length = compactF l := by unfold cpre; rw [List.take_length]
theorem compactF_short {l : List Pt} (h : l.length < 2) : compactF l = l := by
  match l, h with
  | [], _ => rfl
  | [a], _ => rfl

theorem getD_toList (d : Array Pt) (i : Nat) : d.toList.getD i default = d[i]! := by rw [← getD_toArray]
theorem PH.store {w : World} {blk off : Nat} {d : Array Pt} (h : PH w blk off d) {k : Nat} (hk : k < d.size) {p : Pt} (hp : Bd p) : PH ((w.setCell ⟨blk, off + k * 2, none⟩ (.int .i64 p.x)).setCell ⟨blk, off + k * 2 + 1, none⟩ (.int .i64 p.y)) blk off (d.setIfInBounds k p) := fun t ht => by
  have ht' : t < d.size := by simpa using ht
  obtain ⟨h1, h2, h3, h4, h5⟩ := h t ht'
  obtain ⟨i1, i2, _, _, _⟩ := h k hk
  have ne : ∀ {a b : Nat}, a ≠ b → (⟨blk, off + a, none⟩ : Addr) ≠ ⟨blk, off + b, none⟩ := fun h e => by injection e; omega
  have c : ∀ (W : World) (a b : Nat) (v : Value), a ≠ b → (W.setCell ⟨blk, off + a, none⟩ v).cell? ⟨blk, off + b, none⟩ = W.cell? ⟨blk, off + b, none⟩ := fun W a b v hab => World.cell?_setCell_other _ _ _ _ (ne hab)
  have hv : (d.setIfInBounds k p)[t]! = if t = k then p else d[t]! := by
    rw [getElem!_pos _ t ht, Array.getElem_setIfInBounds]
    by_cases e : k = t
    · rw [if_pos e, if_pos e.symm]
    · rw [if_neg e, if_neg (fun q => e q.symm), getElem!_pos d t ht']
  rw [hv]
  simp only [Nat.add_assoc] at h1 h2 h3 h4 i1 i2 ⊢
  simp only [World.frozen?_setCell]
  by_cases e : t = k
  · subst e
    rw [if_pos rfl]
    exact ⟨by rw [c _ _ _ _ (by omega)]; exact World.cell?_setCell_same _ _ _ i1, World.cell?_setCell_same _ _ _ (by rw [c _ _ _ _ (by omega)]; exact i2), h3, h4, hp⟩
  · rw [if_neg e]
    exact ⟨by rw [c _ _ _ _ (by omega), c _ _ _ _ (by omega)]; exact h1, by rw [c _ _ _ _ (by omega), c _ _ _ _ (by omega)]; exact h2, h3, h4, h5⟩
theorem Chg.setCells (b : Nat) : ∀ (vs : List Value) (o : Nat) (w : World), Chg b w (w.setCells b o vs)
  | [], _, w => Chg.refl b w
  | v :: vs, o, w => by
    rw [World.setCells]
    exact (Chg.set b o w v).trans (Chg.setCells b vs (o + 1) _)
/-- The first cells, and the others wiped. -/
theorem PH.wiped {w : World} {blk off : Nat} {d : Array Pt} (h : PH w blk off d) {k : Nat} (hk : k ≤ d.size) (vs : List Value) : PH (w.setCells blk (off + k * 2) vs) blk off (d.toList.take k).toArray := fun t ht => by
  have ht' : t < k := by simp at ht; omega
  obtain ⟨h1, h2, h3, h4, h5⟩ := h t (by omega)
  have hv : (d.toList.take k).toArray[t]! = d[t]! := by
    rw [getD_toArray, ← getD_toList, List.getD_eq_getElem?_getD, List.getD_eq_getElem?_getD, List.getElem?_take_of_lt ht']
  rw [hv]
  refine ⟨?_, ?_, by rw [World.frozen?_setCells]; exact h3, by rw [World.frozen?_setCells]; exact h4, h5⟩
  · rw [World.cell?_setCells_out blk vs _ w _ (fun _ _ => Or.inl (by show off + t * 2 < off + k * 2; omega))]; exact h1
  · rw [World.cell?_setCells_out blk vs _ w _ (fun _ _ => Or.inl (by show off + t * 2 + 1 < off + k * 2; omega))]; exact h2

theorem run_clearP (w : World) (ty : TypeId) (b o n c : Nat) (hn : 0 < n) (hc : ∀ j, j < n * 2 → (w.cell? ⟨b, o + j, none⟩).isSome = true) (hf : ∀ j, j < n * 2 → w.frozen? ⟨b, o + j, none⟩ = false) :
    (Builtin.clear_ #[26] ty #[.slice (some ⟨b, o, none⟩) n c]).run Try.prog w = .ok (.tuple #[]) (w.setCells b o (Builtin.zeroCells #[.int .i64 0, .int .i64 0] n).toList) := by
  have hlen : (Builtin.zeroCells #[.int .i64 0, .int .i64 0] n).toList.length = n * 2 := by simp [Builtin.zeroCells]
  have hall : ∀ v ∈ (Builtin.zeroCells #[.int .i64 0, .int .i64 0] n).toList, v.oneCell' = true := by
    intro v hv
    simp [Builtin.zeroCells] at hv
    obtain ⟨i, _, rfl⟩ := hv
    have : i % 2 = 0 ∨ i % 2 = 1 := by omega
    rcases this with e | e <;> rw [e] <;> rfl
  have hst := run_storeCells_cells (P := Try.prog) b o (Builtin.zeroCells #[.int .i64 0, .int .i64 0] n).toList 0 w (by rw [hlen]; simpa using hc) (by rw [hlen]; simpa using hf) hall
  simp only [Nat.add_zero] at hst
  obtain ⟨m, rfl⟩ : ∃ m, n = m + 1 := ⟨n - 1, by omega⟩
  simp [Builtin.clear_, run_underlying Try.underlyingP, Value.cells, hst]

end Go.Proofs.Ytpnnmdkhkjenmaa
