/-
  Points in memory: rows that are read, rows of one's own. By an AI agent.
-/
import Derived.Test.YtnapcjfemlhkmaaGreatDoorSortB
import Derived.Deep.AppendLies
namespace Go.Proofs.YtnapcjfemlhkmaaGreatDoor
open Go.RowKit

theorem Tryz.infoP : (Tryz.prog.info? 30).map (fun i => (i.zero, i.size, i.bytes)) = some (some (.agg #[.int .i64 0, .int .i64 0]), 2, 16) := by kernel_rfl
theorem Tryz.underlyingP : Tryz.prog.underlying 23 = some (.slice 30) := by kernel_rfl

def ptsV (l : List Pt) : List Value := l.flatMap fun p => [.int .i64 p.x, .int .i64 p.y]
theorem ptsV_length (l : List Pt) : (ptsV l).length = l.length * 2 := by
  induction l with
  | nil => rfl
  | cons x l ih => simp [ptsV] at ih ⊢; omega
theorem ptsV_cons (x : Pt) (l : List Pt) : ptsV (x :: l) = .int .i64 x.x :: .int .i64 x.y :: ptsV l := rfl
theorem ptsV_append (l m : List Pt) : ptsV (l ++ m) = ptsV l ++ ptsV m := by simp [ptsV]
theorem ptsV_snoc (l : List Pt) (x : Pt) : ptsV (l ++ [x]) = ptsV l ++ [.int .i64 x.x, .int .i64 x.y] := by simp [ptsV]
theorem ptsV_get : ∀ {l : List Pt} {i : Nat}, i < l.length → (ptsV l)[i * 2]? = some (.int .i64 (l.getD i default).x) ∧ (ptsV l)[i * 2 + 1]? = some (.int .i64 (l.getD i default).y)
  | [], i, h => by simp at h
  | x :: l, 0, _ => by simp [ptsV]
  | x :: l, i + 1, h => by
    have := ptsV_get (l := l) (i := i) (by simpa using h)
    rw [ptsV_cons, show (i + 1) * 2 = i * 2 + 1 + 1 by omega]
    simpa using this
theorem ptsV_take (l : List Pt) (n : Nat) : (ptsV l).take (n * 2) = ptsV (l.take n) := by
  induction n generalizing l with
  | zero => simp [ptsV]
  | succ n ih =>
    cases l with
    | nil => simp [ptsV]
    | cons x l =>
      rw [ptsV_cons, show (n + 1) * 2 = n * 2 + 1 + 1 by omega, List.take_succ_cons, List.take_succ_cons, ih, List.take_succ_cons, ptsV_cons]

/-- A row of points that is read. -/
def RdP (w : World) (ad : Option Addr) (l : List Pt) : Prop :=
  ∀ j, j < l.length → ∃ b off, ad = some ⟨b, off, none⟩ ∧ b < w.heap.size ∧ w.cell? ⟨b, off + j * 2, none⟩ = some (.int .i64 (l.getD j default).x) ∧ w.cell? ⟨b, off + j * 2 + 1, none⟩ = some (.int .i64 (l.getD j default).y)
theorem RdP.nil (w : World) (ad : Option Addr) : RdP w ad [] := fun _ h => by simp at h
theorem RdP.below {w w' : World} {ad : Option Addr} {l : List Pt} (h : RdP w ad l) (hb : Below w.heap.size w w') : RdP w' ad l := fun j hj => by
  obtain ⟨b', off', e, hl, c0, c1⟩ := h j hj
  exact ⟨b', off', e, Nat.lt_of_lt_of_le hl hb.size, bcell hb hl c0, bcell hb hl c1⟩
theorem RdP.some {w : World} {ad : Option Addr} {l : List Pt} (h : RdP w ad l) (h0 : 0 < l.length) : ∃ b off, ad = Option.some ⟨b, off, none⟩ ∧ b < w.heap.size := by
  obtain ⟨b, off, e, hl, _⟩ := h 0 h0
  exact ⟨b, off, e, hl⟩
theorem RdP.at {w : World} {b off : Nat} {l : List Pt} (h : RdP w (Option.some ⟨b, off, none⟩) l) {j : Nat} (hj : j < l.length) : w.cell? ⟨b, off + j * 2, none⟩ = Option.some (.int .i64 (l.getD j default).x) ∧ w.cell? ⟨b, off + j * 2 + 1, none⟩ = Option.some (.int .i64 (l.getD j default).y) := by
  obtain ⟨b', off', e, hl, c0, c1⟩ := h j hj
  cases e
  exact ⟨c0, c1⟩
theorem getD_toArray (l : List Pt) (i : Nat) : l.toArray[i]! = l.getD i default := by simp [List.getD_eq_getElem?_getD]
theorem PH.rd {w : World} {blk off : Nat} {d : Array Pt} (h : PH w blk off d) : RdP w (Option.some ⟨blk, off, none⟩) d.toList := fun j hj => by
  have hj' : j < d.size := by simpa using hj
  obtain ⟨h1, h2, _⟩ := h j hj'
  have e : d[j]! = d.toList.getD j default := by rw [← getD_toArray]
  rw [e] at h1 h2
  exact ⟨blk, off, rfl, h.lt (by omega), h1, h2⟩

/-- A row of points of one's own. -/
def RowP (w : World) (B : Nat) (v : Value) (l : List Pt) : Prop := w.ownsRow B 30 2 v l.length (ptsV l)
theorem RowP.nil (w : World) (B : Nat) : RowP w B (.slice none 0 0) [] := ⟨rfl, Or.inl ⟨rfl, rfl⟩⟩
theorem RowP.shape {w : World} {B : Nat} {v : Value} {l : List Pt} (h : RowP w B v l) : ∃ ad cap, v = .slice ad l.length cap ∧ l.length ≤ cap ∧ cap ≤ maxLen := by
  rcases h.2 with ⟨e, e2⟩ | ⟨g, cap, cur, e, _, _, h1, h2, _⟩
  · exact ⟨none, 0, by rw [e, e2], by omega, by unfold maxLen; omega⟩
  · exact ⟨_, cap, e, h1, h2⟩
theorem RowP.rd {w : World} {B : Nat} {ad : Option Addr} {n cap : Nat} {l : List Pt} (h : RowP w B (.slice ad n cap) l) : RdP w ad l := fun j hj => by
  rcases h.2 with ⟨e, e2⟩ | ⟨g, cap', cur, e, hb, hg, h1, h2, h3, h4⟩
  · omega
  · injection e with e1 _ _
    subst e1
    obtain ⟨c0, c1⟩ := ptsV_get hj
    have hs := hg
    have hc : ∀ i, i < l.length * 2 → w.cell? ⟨g, 0 + i, none⟩ = (ptsV l)[i]? := fun i hi => by
      rw [← h4, List.getElem?_take_of_lt hi]
      simp [World.cell?, hg]
    exact ⟨g, 0, rfl, (Array.getElem?_eq_some_iff.1 hg).1, by rw [hc _ (by omega), c0], by rw [show (0 + j * 2 + 1 : Nat) = 0 + (j * 2 + 1) by omega, hc _ (by omega), c1]⟩
theorem RowP.below {w w' : World} {B : Nat} {v : Value} {l : List Pt} (h : RowP w B v l) (hb : Below w.heap.size w w') : RowP w' B v l := by
  refine ⟨h.1, ?_⟩
  rcases h.2 with hn | ⟨g, cap, cur, rfl, hB, hgg, rest⟩
  · exact .inl hn
  · refine .inr ⟨g, cap, cur, rfl, hB, ?_, rest⟩
    rw [hb.block g (Array.getElem?_eq_some_iff.1 hgg).1]
    exact hgg
/-- out[:len(out)-1]. -/
theorem RowP.drop {w : World} {B n cap : Nat} {ad : Option Addr} {l : List Pt} (h : RowP w B (.slice ad n cap) l) (h0 : 0 < l.length) : RowP w B (.slice ad (l.length - 1) cap) l.dropLast := by
  rcases h.2 with ⟨e, e2⟩ | ⟨g, cap', cur, e, hb, hg, h1, h2, h3, h4⟩
  · omega
  · injection e with e1 e3 e4
    subst e1; subst e4
    refine ⟨by rw [ptsV_length], .inr ⟨g, cap, cur, by rw [List.length_dropLast], hb, hg, by rw [List.length_dropLast]; omega, h2, h3, ?_⟩⟩
    rw [List.length_dropLast, List.dropLast_eq_take, ← ptsV_take, ← h4, List.take_take]
    congr 1
    omega
/-- A row of one's own as the sort wants it. -/
theorem RowP.ph {w : World} {B g n cap : Nat} {l : List Pt} (h : RowP w B (.slice (some ⟨g, 0, none⟩) n cap) l) (hbd : ∀ p ∈ l, Bd p) : PH w g 0 l.toArray := fun t ht => by
  have ht' : t < l.length := by simpa using ht
  obtain ⟨c0, c1⟩ := h.rd.at ht'
  rcases h.2 with ⟨e, e2⟩ | ⟨g', cap', cur, e, hb, hg, _⟩
  · cases e
  · injection e with e1 _ _
    injection e1 with e1
    injection e1 with e1
    subst e1
    rw [getD_toArray]
    refine ⟨c0, c1, by simp [World.frozen?, hg], by simp [World.frozen?, hg], ?_⟩
    rw [List.getD_eq_getElem?_getD, List.getElem?_eq_getElem ht', Option.getD_some]
    exact hbd _ (List.getElem_mem _)

theorem appP_below {B : Nat} {u wr w2 : World} {E : TypeId} {size n : Nat} {v : Value} {xs : List Value} {o : Obj} (hb : Below B u wr) (hB : B ≤ wr.heap.size) (ho : wr.ownsRow B E size v n xs) (hg : (wr.alloc o).grownBy w2 v.ownBlock) : Below B u w2 :=
  (hb.alloc hB o).grown hg (by simp; omega) (fun q e => (ho.lt q e).1)
theorem rowP_empty (w : World) : RowP (w.alloc (.cells #[] 30)) w.heap.size (.slice (some ⟨w.heap.size, 0, none⟩) 0 0) [] :=
  World.ownsRow_made w #[] 0 (Nat.le_refl _) (by decide) rfl
theorem rowP_congr {w : World} {B : Nat} {E : TypeId} {size n m : Nat} {v : Value} {xs ys : List Value} (h : w.ownsRow B E size v n xs) (e : n = m) (e' : xs = ys) : w.ownsRow B E size v m ys := by subst e; subst e'; exact h

end Go.Proofs.YtnapcjfemlhkmaaGreatDoor
