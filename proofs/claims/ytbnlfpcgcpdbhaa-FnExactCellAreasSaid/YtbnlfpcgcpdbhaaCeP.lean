/-
  Some texts of this proof in one: CeP CeM CeA CeB CeC. Each part tells what it proves. By an AI agent.
-/
import Derived.Test.YtbnlfpcgcpdbhaaCeL
import Derived.Test.YtbnlfpcgcpdbhaaPtF
import Derived.Deep.AppendLies
import Derived.Maps.AppendAt
import Derived.Laws.OwnMore
import Derived.Test.YtbnlfpcgcpdbhaaLaws
import Derived.Deep.RegionHeld3
import Derived.Deep.QuietTactic

/-
  Cells of a plane polynomial, plain: the height of a term above the plane of three others, in the program and in the reference. By an AI agent.
-/
namespace Go.Proofs.Ytbnlfpcgcpdbhaa
open LstSort

structure Tm where
  i : Int
  j : Int
  c : Int
  deriving Inhabited, DecidableEq
def pnt (t : Tm) : Pt := ⟨t.i, t.j⟩
theorem cross_anti (p q : Pt) : crossZ p q = -crossZ q p := by
  unfold crossZ
  rw [Int.mul_comm q.x p.y, Int.mul_comm q.y p.x]
  omega
theorem turn_sum (a b p : Pt) : turnZ a b p = crossZ a b + crossZ b p + crossZ p a := by
  unfold turnZ crossZ
  simp only [Int.sub_mul, Int.mul_sub]
  rw [Int.mul_comm b.x a.y, Int.mul_comm b.y a.x, Int.mul_comm p.x a.y, Int.mul_comm p.y a.x, Int.mul_comm a.y a.x]
  omega
/-- a triangle in three. -/
theorem turn_three (o u v w : Pt) : turnZ o u v = turnZ w u v + turnZ o w v + turnZ o u w := by
  rw [turn_sum o u v, turn_sum w u v, turn_sum o w v, turn_sum o u w]
  have h1 := cross_anti u w
  have h2 := cross_anti v w
  have h3 := cross_anti o w
  have h4 := cross_anti w v
  omega
/-- the program's height. -/
def abvI (o u v w : Tm) : Int := (w.c - o.c) * turnZ (pnt o) (pnt u) (pnt v) - (u.c - o.c) * turnZ (pnt o) (pnt w) (pnt v) - (v.c - o.c) * turnZ (pnt o) (pnt u) (pnt w)
/-- the reference's. -/
def abvS (o u v w : Tm) : Int := w.c * turnZ (pnt o) (pnt u) (pnt v) - o.c * turnZ (pnt w) (pnt u) (pnt v) - u.c * turnZ (pnt o) (pnt w) (pnt v) - v.c * turnZ (pnt o) (pnt u) (pnt w)
theorem abv_eq (o u v w : Tm) : abvI o u v w = abvS o u v w := by
  unfold abvI abvS
  have h := turn_three (pnt o) (pnt u) (pnt v) (pnt w)
  generalize turnZ (pnt o) (pnt u) (pnt v) = T at h ⊢
  generalize turnZ (pnt w) (pnt u) (pnt v) = A at h ⊢
  generalize turnZ (pnt o) (pnt w) (pnt v) = B at h ⊢
  generalize turnZ (pnt o) (pnt u) (pnt w) = C at h ⊢
  have e : o.c * T = o.c * A + o.c * B + o.c * C := by rw [h, Int.mul_add, Int.mul_add]
  simp only [Int.sub_mul]
  omega
/-- the height with the side of the three. -/
def hgtZ (o u v w : Tm) : Int := if turnZ (pnt o) (pnt u) (pnt v) < 0 then -abvI o u v w else abvI o u v w
theorem hgt_sign {o u v w : Tm} {s : Int} (hs : s = if turnZ (pnt o) (pnt u) (pnt v) < 0 then -1 else 1) : abvS o u v w * s = hgtZ o u v w := by
  subst hs
  unfold hgtZ
  rw [abv_eq]
  split
  · omega
  · omega
def tmAt (L : List Tm) (k : Nat) : Tm := L.getD k default
/-- the cell of three terms: those on their plane. -/
def hgtL (L : List Tm) (a b c t : Nat) : Int := hgtZ (tmAt L a) (tmAt L b) (tmAt L c) (tmAt L t)
def trnL (L : List Tm) (a b c : Nat) : Int := turnZ (pnt (tmAt L a)) (pnt (tmAt L b)) (pnt (tmAt L c))
def onL3 (L : List Tm) (a b c : Nat) : Nat → List Int
  | 0 => []
  | k + 1 => if hgtL L a b c k = 0 then onL3 L a b c k ++ [(k : Int)] else onL3 L a b c k
def lowB (L : List Tm) (a b c : Nat) : Nat → Bool
  | 0 => true
  | k + 1 => lowB L a b c k && decide (0 ≤ hgtL L a b c k)
/-- whether there is a cell of the three. -/
def celB (L : List Tm) (a b c : Nat) : Bool := decide (trnL L a b c ≠ 0) && lowB L a b c L.length
def celL (L : List Tm) (a b c : Nat) : List Int := onL3 L a b c L.length
theorem onL3_mem {L : List Tm} {a b c : Nat} : ∀ {k : Nat} {x : Int}, x ∈ onL3 L a b c k ↔ ∃ t : Nat, x = t ∧ t < k ∧ hgtL L a b c t = 0
  | 0, x => by simp [onL3]
  | k + 1, x => by
    unfold onL3
    split
    · rename_i h
      rw [List.mem_append, onL3_mem, List.mem_singleton]
      constructor
      · rintro (⟨t, e, h1, h2⟩ | rfl)
        · exact ⟨t, e, by omega, h2⟩
        · exact ⟨k, rfl, by omega, h⟩
      · rintro ⟨t, e, h1, h2⟩
        by_cases ek : t = k
        · subst ek; exact Or.inr e
        · exact Or.inl ⟨t, e, by omega, h2⟩
    · rename_i h
      rw [onL3_mem]
      constructor
      · rintro ⟨t, e, h1, h2⟩
        exact ⟨t, e, by omega, h2⟩
      · rintro ⟨t, e, h1, h2⟩
        have : t ≠ k := fun ek => h (by rw [← ek]; exact h2)
        exact ⟨t, e, by omega, h2⟩
theorem onL3_len (L : List Tm) (a b c : Nat) : ∀ k, (onL3 L a b c k).length ≤ k
  | 0 => Nat.le_refl _
  | k + 1 => by
    have := onL3_len L a b c k
    unfold onL3
    split
    · rw [List.length_append]; simp; omega
    · omega
theorem turn_at (o u : Pt) : turnZ o u u = 0 ∧ turnZ o o u = 0 ∧ turnZ o u o = 0 := by
  unfold turnZ
  refine ⟨?_, ?_, ?_⟩
  · rw [Int.mul_comm]; omega
  · simp
  · simp
/-- the three themselves are on their plane. -/
theorem hgt_self (o u v : Tm) : hgtZ o u v o = 0 := by
  unfold hgtZ abvI
  rw [Int.sub_self, (turn_at (pnt o) (pnt v)).2.1, (turn_at (pnt o) (pnt u)).2.2]
  simp
/-- a cell isn't empty. -/
theorem celL_ne {L : List Tm} {a b c : Nat} (ha : a < L.length) : celL L a b c ≠ [] := fun e => by
  have : ((a : Nat) : Int) ∈ celL L a b c := onL3_mem.2 ⟨a, rfl, ha, hgt_self _ _ _⟩
  rw [e] at this
  cases this

/-! ### all cells: the triples in order -/
def cel3 (L : List Tm) (a b : Nat) : Nat → List (List Int)
  | 0 => []
  | c + 1 => if b < c ∧ celB L a b c = true then cel3 L a b c ++ [celL L a b c] else cel3 L a b c
def cel2 (L : List Tm) (a : Nat) : Nat → List (List Int)
  | 0 => []
  | b + 1 => if a < b then cel2 L a b ++ cel3 L a b L.length else cel2 L a b
def cel1 (L : List Tm) : Nat → List (List Int)
  | 0 => []
  | a + 1 => cel1 L a ++ cel2 L a L.length
/-- the cells, each one once and in order. -/
def celA (L : List Tm) : List (List Int) := putF (cel1 L L.length)
theorem cel_sorted (L : List Tm) : LstSort.compactF (LstSort.srt (cel1 L L.length)) = celA L := LstSort.sorted_same _
end Go.Proofs.Ytbnlfpcgcpdbhaa

/-
  Terms in memory: rows that are read, rows of one's own; append of terms. Turned from RyB. By an AI agent.
-/
namespace Go.Proofs.Ytbnlfpcgcpdbhaa
open Go.RowKit

theorem Try.infoT : (Try.prog.info? 43).map (fun i => (i.zero, i.size, i.bytes)) = some (some (.agg #[.int .i64 0, .int .i64 0, .int .i64 0]), 3, 24) := by kernel_rfl
theorem Try.underlyingT : Try.prog.underlying 26 = some (.slice 43) := by kernel_rfl

def tmsV (l : List Tm) : List Value := l.flatMap fun p => [.int .i64 p.i, .int .i64 p.j, .int .i64 p.c]
theorem tmsV_length (l : List Tm) : (tmsV l).length = l.length * 3 := by
  induction l with
  | nil => rfl
  | cons x l ih => simp [tmsV] at ih ⊢; omega
theorem tmsV_cons (x : Tm) (l : List Tm) : tmsV (x :: l) = .int .i64 x.i :: .int .i64 x.j :: .int .i64 x.c :: tmsV l := rfl
theorem tmsV_append (l m : List Tm) : tmsV (l ++ m) = tmsV l ++ tmsV m := by simp [tmsV]
theorem tmsV_snoc (l : List Tm) (x : Tm) : tmsV (l ++ [x]) = tmsV l ++ [.int .i64 x.i, .int .i64 x.j, .int .i64 x.c] := by simp [tmsV]
theorem tmsV_get : ∀ {l : List Tm} {i : Nat}, i < l.length → (tmsV l)[i * 3]? = some (.int .i64 (l.getD i default).i) ∧ (tmsV l)[i * 3 + 1]? = some (.int .i64 (l.getD i default).j) ∧ (tmsV l)[i * 3 + 2]? = some (.int .i64 (l.getD i default).c)
  | [], i, h => by simp at h
  | x :: l, 0, _ => by simp [tmsV]
  | x :: l, i + 1, h => by
    have := tmsV_get (l := l) (i := i) (by simpa using h)
    rw [tmsV_cons, show (i + 1) * 3 = i * 3 + 1 + 1 + 1 by omega]
    simpa using this
theorem tmsV_take (l : List Tm) (n : Nat) : (tmsV l).take (n * 3) = tmsV (l.take n) := by
  induction n generalizing l with
  | zero => simp [tmsV]
  | succ n ih =>
    cases l with
    | nil => simp [tmsV]
    | cons x l =>
      rw [tmsV_cons, show (n + 1) * 3 = n * 3 + 1 + 1 + 1 by omega, List.take_succ_cons, List.take_succ_cons, List.take_succ_cons, ih, List.take_succ_cons, tmsV_cons]

/-- A row of rays that is read. -/
def RdT (w : World) (ad : Option Addr) (l : List Tm) : Prop :=
  ∀ j, j < l.length → ∃ b off, ad = some ⟨b, off, none⟩ ∧ b < w.heap.size ∧ w.cell? ⟨b, off + j * 3, none⟩ = some (.int .i64 (l.getD j default).i) ∧ w.cell? ⟨b, off + j * 3 + 1, none⟩ = some (.int .i64 (l.getD j default).j) ∧ w.cell? ⟨b, off + j * 3 + 2, none⟩ = some (.int .i64 (l.getD j default).c)
theorem RdT.nil (w : World) (ad : Option Addr) : RdT w ad [] := fun _ h => by simp at h
theorem RdT.below {w w' : World} {ad : Option Addr} {l : List Tm} (h : RdT w ad l) (hb : Below w.heap.size w w') : RdT w' ad l := fun j hj => by
  obtain ⟨b', off', e, hl, c0, c1, c2⟩ := h j hj
  exact ⟨b', off', e, Nat.lt_of_lt_of_le hl hb.size, bcell hb hl c0, bcell hb hl c1, bcell hb hl c2⟩
theorem RdT.some {w : World} {ad : Option Addr} {l : List Tm} (h : RdT w ad l) (h0 : 0 < l.length) : ∃ b off, ad = Option.some ⟨b, off, none⟩ ∧ b < w.heap.size := by
  obtain ⟨b, off, e, hl, _⟩ := h 0 h0
  exact ⟨b, off, e, hl⟩
theorem RdT.at {w : World} {b off : Nat} {l : List Tm} (h : RdT w (Option.some ⟨b, off, none⟩) l) {j : Nat} (hj : j < l.length) : w.cell? ⟨b, off + j * 3, none⟩ = Option.some (.int .i64 (l.getD j default).i) ∧ w.cell? ⟨b, off + j * 3 + 1, none⟩ = Option.some (.int .i64 (l.getD j default).j) ∧ w.cell? ⟨b, off + j * 3 + 2, none⟩ = Option.some (.int .i64 (l.getD j default).c) := by
  obtain ⟨b', off', e, hl, c0, c1, c2⟩ := h j hj
  cases e
  exact ⟨c0, c1, c2⟩
theorem getD_toArrayT (l : List Tm) (i : Nat) : l.toArray[i]! = l.getD i default := by simp [List.getD_eq_getElem?_getD]
/-- A row of rays of one's own. -/
def RowT (w : World) (B : Nat) (v : Value) (l : List Tm) : Prop := w.ownsRow B 43 3 v l.length (tmsV l)
theorem RowT.nil (w : World) (B : Nat) : RowT w B (.slice none 0 0) [] := ⟨rfl, Or.inl ⟨rfl, rfl⟩⟩
theorem RowT.shape {w : World} {B : Nat} {v : Value} {l : List Tm} (h : RowT w B v l) : ∃ ad cap, v = .slice ad l.length cap ∧ l.length ≤ cap ∧ cap ≤ maxLen := by
  rcases h.2 with ⟨e, e2⟩ | ⟨g, cap, cur, e, _, _, h1, h2, _⟩
  · exact ⟨none, 0, by rw [e, e2], by omega, by unfold maxLen; omega⟩
  · exact ⟨_, cap, e, h1, h2⟩
theorem RowT.rd {w : World} {B : Nat} {ad : Option Addr} {n cap : Nat} {l : List Tm} (h : RowT w B (.slice ad n cap) l) : RdT w ad l := fun j hj => by
  rcases h.2 with ⟨e, e2⟩ | ⟨g, cap', cur, e, hb, hg, h1, h2, h3, h4⟩
  · omega
  · injection e with e1 _ _
    subst e1
    obtain ⟨c0, c1, c2⟩ := tmsV_get hj
    have hc : ∀ i, i < l.length * 3 → w.cell? ⟨g, 0 + i, none⟩ = (tmsV l)[i]? := fun i hi => by
      rw [← h4, List.getElem?_take_of_lt hi]
      simp [World.cell?, hg]
    exact ⟨g, 0, rfl, (Array.getElem?_eq_some_iff.1 hg).1, by rw [hc _ (by omega), c0], by rw [show (0 + j * 3 + 1 : Nat) = 0 + (j * 3 + 1) by omega, hc _ (by omega), c1], by rw [show (0 + j * 3 + 2 : Nat) = 0 + (j * 3 + 2) by omega, hc _ (by omega), c2]⟩
theorem RowT.below {w w' : World} {B : Nat} {v : Value} {l : List Tm} (h : RowT w B v l) (hb : Below w.heap.size w w') : RowT w' B v l := by
  refine ⟨h.1, ?_⟩
  rcases h.2 with hn | ⟨g, cap, cur, rfl, hB, hgg, rest⟩
  · exact .inl hn
  · refine .inr ⟨g, cap, cur, rfl, hB, ?_, rest⟩
    rw [hb.block g (Array.getElem?_eq_some_iff.1 hgg).1]
    exact hgg
theorem RowT.mono {w : World} {B B' : Nat} {v : Value} {l : List Tm} (h : RowT w B v l) (hB : B' ≤ B) : RowT w B' v l := by
  refine ⟨h.1, ?_⟩
  rcases h.2 with hn | ⟨g, cap, cur, rfl, hb, hgg, rest⟩
  · exact .inl hn
  · exact .inr ⟨g, cap, cur, rfl, Nat.le_trans hB hb, hgg, rest⟩
/-- A row of one's own as the sort wants it. -/
theorem appT_below {B : Nat} {u wr w2 : World} {E : TypeId} {size n : Nat} {v : Value} {xs : List Value} {o : Obj} (hb : Below B u wr) (hB : B ≤ wr.heap.size) (ho : wr.ownsRow B E size v n xs) (hg : (wr.alloc o).grownBy w2 v.ownBlock) : Below B u w2 :=
  (hb.alloc hB o).grown hg (by simp; omega) (fun q e => (ho.lt q e).1)
theorem rowT_congr {w : World} {B : Nat} {E : TypeId} {size n m : Nat} {v : Value} {xs ys : List Value} (h : w.ownsRow B E size v n xs) (e : n = m) (e' : xs = ys) : w.ownsRow B E size v m ys := by subst e; subst e'; exact h

theorem RdT.news {w : World} {b off : Nat} {l : List Tm} (h : RdT w (Option.some ⟨b, off, none⟩) l) : ∀ j u, (tmsV l)[j]? = Option.some u → w.cell? ((⟨b, off, none⟩ : Addr).add j) = Option.some u := fun j u hu => by
  have hj : j < l.length * 3 := by
    have := (List.getElem?_eq_some_iff.1 hu).1
    rwa [tmsV_length] at this
  obtain ⟨c0, c1, c2⟩ := h.at (show j / 3 < l.length by omega)
  obtain ⟨v0, v1, v2⟩ := tmsV_get (show j / 3 < l.length by omega)
  have ea : (⟨b, off, none⟩ : Addr).add j = ⟨b, off + j, none⟩ := by unfold Addr.add; split <;> simp [*]
  rw [ea]
  rcases (show j % 3 = 0 ∨ j % 3 = 1 ∨ j % 3 = 2 by omega) with hp | hp | hp
  · have : j = j / 3 * 3 := by omega
    rw [this] at hu ⊢
    rw [v0] at hu
    rw [c0]; exact hu
  · have : j = j / 3 * 3 + 1 := by omega
    rw [this] at hu ⊢
    rw [v1] at hu
    rw [← Nat.add_assoc, c1]; exact hu
  · have : j = j / 3 * 3 + 2 := by omega
    rw [this] at hu ⊢
    rw [v2] at hu
    rw [← Nat.add_assoc, c2]; exact hu
theorem tmsV_one (l : List Tm) : ∀ u ∈ tmsV l, u.oneCell' = true := fun u hu => by
  unfold tmsV at hu
  obtain ⟨p, _, hp⟩ := List.mem_flatMap.1 hu
  simp at hp
  rcases hp with h | h | h <;> subst h <;> rfl

/-- What is appended: nothing, or a row that is read. -/
def ReadsT (w : World) (X : Value) (l : List Tm) : Prop := (X = .slice none 0 0 ∧ l = []) ∨ ∃ b off c, X = .slice (some ⟨b, off, none⟩) l.length c ∧ RdT w (some ⟨b, off, none⟩) l
theorem ReadsT.below {w w' : World} {X : Value} {l : List Tm} (h : ReadsT w X l) (hb : Below w.heap.size w w') : ReadsT w' X l := by
  rcases h with h | ⟨b, off, c, h1, h2⟩
  · exact Or.inl h
  · exact Or.inr ⟨b, off, c, h1, h2.below hb⟩
/-- append at a step of a region that draws its order, whatever is appended. -/
theorem step_appT {w : World} {ops : Array Oper} {o : Oper} {a : Act} {K : Act → World → Prop} {Q : Exit → Act → World → Prop} {E : Prop} (hgd : o.guard = none) (s x : Operand)
    (ho : o.op = .call { callee := .builtin .append, args := #[s, x], argTypes := #[26, 26] })
    (B : Nat) (v X : Value) (l m : List Tm) (hs : a.eval s = v) (hx : a.eval x = X) (hown : RowT w B v l) (hX : ReadsT w X m) (hl : l.length ≤ 100000) (hm : m.length ≤ 100000) (hB : B ≤ w.heap.size)
    (h : ∀ v' w', RowT w' B v' (l ++ m) → Below B w w' → w.grownBy w' v.ownBlock → K (a.put o.dst v') w') :
    if Region.wanted o (yielded ops a.tmps) = true then Oper.wp Try.prog o a w K Q else E := by
  have hw : Region.wanted o (yielded ops a.tmps) = true := by simp [Region.wanted, hgd]
  rw [if_pos hw]
  obtain ⟨iP, hiP, hzP, hsP, hbP⟩ := info_parts Try.infoT
  rcases hX with ⟨rfl, rfl⟩ | ⟨b, off, c, rfl, hrd⟩
  · have hr := run_append_owned_none (P := Try.prog) w B 26 o.type 43 iP 3 Try.underlyingT hiP v l.length (tmsV l) hown
    unfold Oper.wp execOp
    simp only [ho, resolve, invoke, builtin, Sem.run_bind, Sem.run_pure, Result.andThen_ok, List.map_toArray, List.map_cons, List.map_nil, hs, hx, hr]
    exact h v w (by rw [List.append_nil]; exact hown) (Below.refl _ _) ⟨rfl, rfl, rfl, Nat.le_refl _, fun _ _ _ => rfl⟩
  · obtain ⟨v', w', hr, h2, h3, _, _⟩ := run_append_own_at (P := Try.prog) w B 26 o.type 43 iP _ 3 24 Try.underlyingT hiP hzP hsP hbP rfl (by omega) v l.length (tmsV l) hown ⟨b, off, none⟩ m.length c (tmsV m) (tmsV_length m) hrd.news (tmsV_one m) (by unfold maxLen; omega) (by omega) hB
    unfold Oper.wp execOp
    simp only [ho, resolve, invoke, builtin, Sem.run_bind, Sem.run_pure, Result.andThen_ok, List.map_toArray, List.map_cons, List.map_nil, hs, hx, hr]
    exact h v' w' (rowT_congr h2 (by simp) (tmsV_append l m).symm) ((Below.refl _ _).grown h3 hB (fun q e => (hown.lt q e).1)) h3
theorem rowY_new (u : World) (B H : Nat) (hB : B ≤ u.heap.size) (hH : u.heap.size = H) : RowT (u.alloc (.cells #[] 43)) B (.slice (some ⟨H, 0, none⟩) 0 0) [] := by
  subst hH
  exact World.ownsRow_made u #[] 0 hB (by decide) rfl
theorem readsY_one (u : World) (H : Nat) (x y z : Int) (hH : u.heap.size = H) : ReadsT (u.alloc (.cells #[.int .i64 x, .int .i64 y, .int .i64 z] 43)) (.slice (some ⟨H, 0, none⟩) 1 1) [⟨x, y, z⟩] := by
  subst hH
  refine Or.inr ⟨_, _, 1, rfl, fun j hj => ?_⟩
  obtain rfl : j = 0 := by simpa using hj
  exact ⟨_, _, rfl, by simp, by simp [go_sem], by simp [go_sem], by simp [go_sem]⟩
theorem readsY_nil (w : World) : ReadsT w (.slice none 0 0) [] := Or.inl ⟨rfl, rfl⟩
theorem ReadsT.alloc' {w : World} {X : Value} {l : List Tm} {o : Obj} (h : ReadsT w X l) : ReadsT (w.alloc o) X l := h.below ((Below.refl _ _).alloc (Nat.le_refl _) _)
theorem ReadsT.drew' {w : World} {X : Value} {l : List Tm} (h : ReadsT w X l) : ReadsT w.drew X l := h.below (Below.refl _ _).drew
theorem RowT.alloc' {w : World} {B : Nat} {v : Value} {l : List Tm} {o : Obj} (h : RowT w B v l) : RowT (w.alloc o) B v l := h.below ((Below.refl _ _).alloc (Nat.le_refl _) _)
theorem RowT.drew' {w : World} {B : Nat} {v : Value} {l : List Tm} (h : RowT w B v l) : RowT w.drew B v l := h.below (Below.refl _ _).drew
theorem ReadsT.grown {w w' : World} {row : Option Nat} {H : Nat} {x : List Tm} (h : ReadsT w (.slice (some ⟨H, 0, none⟩) 1 1) x) (hg : w.grownBy w' row) (hne : some H ≠ row) : ReadsT w' (.slice (some ⟨H, 0, none⟩) 1 1) x := by
  rcases h with ⟨h, _⟩ | ⟨b, off, c, h1, h2⟩
  · cases h
  · refine Or.inr ⟨b, off, c, h1, fun j hj => ?_⟩
    injection h1 with h1 _ _
    injection h1 with h1
    injection h1 with h1 h1' _
    subst h1; subst h1'
    obtain ⟨b', off', e, hl, c0, c1, c2⟩ := h2 j hj
    cases e
    exact ⟨_, _, rfl, Nat.lt_of_lt_of_le hl hg.size, by rw [World.grownBy.cell_far hg _ hl hne]; exact c0, by rw [World.grownBy.cell_far hg _ hl hne]; exact c1, by rw [World.grownBy.cell_far hg _ hl hne]; exact c2⟩
theorem RdT.takeDrop {w : World} {b off : Nat} {l : List Tm} (h : RdT w (Option.some ⟨b, off, none⟩) l) (k : Nat) : RdT w (Option.some ⟨b, off, none⟩) (l.take k) ∧ RdT w (Option.some ⟨b, off + k * 3, none⟩) (l.drop k) := by
  refine ⟨fun j hj => ?_, fun j hj => ?_⟩
  · have hj' : j < k ∧ j < l.length := by rw [List.length_take] at hj; omega
    obtain ⟨b', off', e, hl, c0, c1, c2⟩ := h j hj'.2
    have e' : (l.take k).getD j default = l.getD j default := by simp [List.getD_eq_getElem?_getD, hj'.1]
    exact ⟨b', off', e, hl, by rw [e']; exact c0, by rw [e']; exact c1, by rw [e']; exact c2⟩
  · have hj' : k + j < l.length := by rw [List.length_drop] at hj; omega
    obtain ⟨b', off', e, hl, c0, c1, c2⟩ := h (k + j) hj'
    have e' : (l.drop k).getD j default = l.getD (k + j) default := by simp [List.getD_eq_getElem?_getD]
    cases e
    exact ⟨b, off + k * 3, rfl, hl, by rw [e', show off + k * 3 + j * 3 = off + (k + j) * 3 by omega]; exact c0, by rw [e', show off + k * 3 + j * 3 + 1 = off + (k + j) * 3 + 1 by omega]; exact c1, by rw [e', show off + k * 3 + j * 3 + 2 = off + (k + j) * 3 + 2 by omega]; exact c2⟩

end Go.Proofs.Ytbnlfpcgcpdbhaa

/-
  Plane polynomials: isPlane and compareTerms of the program. By an AI agent.
-/
namespace Go.Proofs.Ytbnlfpcgcpdbhaa
open Go.RowKit

def termB (t : Tm) : Bool := inB t.i 0 6 && (inB t.j 0 (6 - t.i) && inB t.c (-1000000) 1000000)
def befT (p q : Tm) : Bool := decide (p.i < q.i) || (decide (p.i = q.i) && decide (p.j < q.j))
def plnK (L : List Tm) : Nat → Bool
  | 0 => true
  | k + 1 => plnK L k && (termB (tmAt L k) && (decide (k = 0) || befT (tmAt L (k - 1)) (tmAt L k)))
def planeB (L : List Tm) : Bool := inB (L.length : Int) 1 12 && plnK L L.length
theorem termB_t {t : Tm} (h : termB t = true) : (0 ≤ t.i ∧ t.i ≤ 6) ∧ (0 ≤ t.j ∧ t.j ≤ 6 - t.i) ∧ (-1000000 ≤ t.c ∧ t.c ≤ 1000000) := by
  unfold termB at h
  simp only [Bool.and_eq_true, inB_t] at h
  omega
theorem plnK_le {L : List Tm} {k : Nat} (h : plnK L k = true) : ∀ {j : Nat}, j ≤ k → plnK L j = true := by
  induction k with
  | zero => intro j hj; rw [show j = 0 by omega]; rfl
  | succ k ih =>
    intro j hj
    by_cases e : j = k + 1
    · rw [e]; exact h
    · unfold plnK at h
      rw [Bool.and_eq_true] at h
      exact ih h.1 (by omega)
theorem plnK_term {L : List Tm} {k j : Nat} (h : plnK L k = true) (hj : j < k) : termB (tmAt L j) = true := by
  have h := plnK_le h (show j + 1 ≤ k by omega)
  unfold plnK at h
  simp only [Bool.and_eq_true] at h
  exact h.2.1
theorem plane_no {L : List Tm} {k : Nat} (hk : k < L.length) (h : plnK L (k + 1) = false) : planeB L = false := by
  cases e : planeB L with
  | false => rfl
  | true =>
    unfold planeB at e
    rw [Bool.and_eq_true] at e
    rw [plnK_le e.2 (show k + 1 ≤ L.length by omega)] at h
    cases h

set_option maxHeartbeats 400000 in
theorem compareTerms_c (p q : Tm) (w : World) (hp : termB p = true) (hq : termB q = true) :
    Calls Try.prog 47 #[.agg #[.int .i64 p.i, .int .i64 p.j, .int .i64 p.c], .agg #[.int .i64 q.i, .int .i64 q.j, .int .i64 q.c]] w fun e w' => (∃ r : Int, e = .returned (.int .i64 r) ∧ decide (0 ≤ r) = !befT p q) ∧ Below w.heap.size w w' := by
  have h1 := termB_t hp
  have h2 := termB_t hq
  obtain ⟨a, b, c⟩ := p
  obtain ⟨d, e, f⟩ := q
  simp only at h1 h2 ⊢
  have e1 : IntKind.i64.wrap (a - d) = a - d := i64_small (by omega) (by omega)
  have e2 : IntKind.i64.wrap (b - e) = b - e := i64_small (by omega) (by omega)
  have hb := ((Below.refl w.heap.size w).alloc (Nat.le_refl _) (.cells #[.int .i64 a, .int .i64 b, .int .i64 c] 43)).alloc (by simp) (.cells #[.int .i64 d, .int .i64 e, .int .i64 f] 43)
  clear hp hq
  by_cases h : a = d
  · subst h
    have HR := Lib.hid (show decide (0 ≤ b - e) = !befT ⟨a, b, c⟩ ⟨a, e, f⟩ from by
      unfold befT
      simp only [Int.lt_irrefl, decide_false, Bool.false_or, decide_true, Bool.true_and]
      by_cases g : b < e
      · rw [decide_eq_true g, decide_eq_false (by omega)]; rfl
      · rw [decide_eq_false g, decide_eq_true (by omega)]; rfl)
    go_enter Try.func47, Try.ntmps47
    go_wp2_with fail
    go_ret
    exact ⟨⟨_, rfl, HR.out⟩, hb⟩
  · have h' : (a == d) = false := by simpa using h
    have HR := Lib.hid (show decide (0 ≤ a - d) = !befT ⟨a, b, c⟩ ⟨d, e, f⟩ from by
      unfold befT
      simp only [decide_eq_false h, Bool.false_and, Bool.or_false]
      by_cases g : a < d
      · rw [decide_eq_true g, decide_eq_false (by omega)]; rfl
      · rw [decide_eq_false g, decide_eq_true (by omega)]; rfl)
    go_enter Try.func47, Try.ntmps47
    go_wp2_with fail
    go_ret
    exact ⟨⟨_, rfl, HR.out⟩, hb⟩
theorem finI_c (n : Int) (w : World) :
    Calls Try.prog 46 #[.int .i64 n] w fun e w' => e = .returned (.bool (inB n (-1000000) 1000000)) ∧ w = w' := by
  by_cases h : -1000000 ≤ n
  · have h1 : decide (-1000000 ≤ n) = true := decide_eq_true h
    have HR := Lib.hid (show inB n (-1000000) 1000000 = decide (n ≤ 1000000) from by unfold inB; rw [h1]; rfl)
    generalize decide (n ≤ 1000000) = q at HR
    go_enter Try.func46, Try.ntmps46
    go_wp2_with fail
    go_ret
    exact ⟨by unfold inB; rw [h1]; rfl, rfl⟩
  · have h1 : decide (-1000000 ≤ n) = false := decide_eq_false h
    go_enter Try.func46, Try.ntmps46
    go_wp2_with fail
    go_ret
    exact ⟨by unfold inB; rw [h1]; rfl, rfl⟩
end Go.Proofs.Ytbnlfpcgcpdbhaa

/-
  Plane polynomials: isPlane of the program. By an AI agent.
-/
namespace Go.Proofs.Ytbnlfpcgcpdbhaa
open Go.RowKit

theorem plnK_step {L : List Tm} {k : Nat} (h : plnK L k = true) {u v : Bool} (hu : termB (tmAt L k) = u) (hv : (decide (k = 0) || befT (tmAt L (k - 1)) (tmAt L k)) = v) : plnK L (k + 1) = (u && v) := by
  subst hu; subst hv
  show (plnK L k && _) = _
  rw [h, Bool.true_and]

set_option maxHeartbeats 3200000 in
set_option maxRecDepth 100000 in
theorem isPlane_c (ad : Option Addr) (cap : Nat) (L : List Tm) (w : World) (hr : RdT w ad L) (hl : L.length ≤ 1048576) :
    Calls Try.prog 34 #[.slice ad L.length cap] w fun e w' => e = .returned (.bool (planeB L)) ∧ Below w.heap.size w w' := by
  have HR := Lib.hid hr; clear hr
  have CW := Lib.hid (within_any (L.length : Int) 1 12 w)
  obtain ⟨n, hn⟩ : ∃ n, L.length = n := ⟨_, rfl⟩
  have HN := Lib.hid hn
  rw [hn] at CW hl ⊢
  clear hn
  by_cases hin : inB (n : Int) 1 12 = true
  case neg =>
    rw [eq_false_of_ne_true hin] at CW
    have HE := Lib.hid (show planeB L = false from by unfold planeB; rw [HN.out, eq_false_of_ne_true hin]; rfl)
    go_enter Try.func34, Try.ntmps34
    go_wp2_with fail
    refine CW.out.mono ?_
    rintro e w1 ⟨rfl, rfl⟩
    go_wp2_with fail
    go_ret
    exact ⟨by rw [HE.out]; rfl, Below.refl _ _⟩
  case pos =>
    rw [hin] at CW
    have HIN := Lib.hid hin
    have hn12 := inB_t.1 hin
    clear hin
    go_enter Try.func34, Try.ntmps34
    go_wp2_with fail
    refine CW.out.mono ?_
    rintro e w1 ⟨rfl, rfl⟩
    clear CW
    go_wp2_with fail
    go_loopw [11] (fun i wr => ∃ k : Nat, k ≤ n ∧ i = .int .i64 k ∧ plnK L k = true ∧ Below w.heap.size w wr) (fun i _ => n - (intOf i).toNat)
    case atStart => exact ⟨0, Nat.zero_le _, rfl, rfl, Below.refl _ _⟩
    case round =>
      obtain ⟨wE, rfl⟩ : ∃ x : World, x = wr := ⟨_, rfl⟩
      obtain ⟨k, hk, rfl, hpl, hbel⟩ := hrel
      have HPL := Lib.hid hpl; clear hpl
      have hsz := hbel.size
      by_cases hlt : k < n
      case neg =>
        obtain rfl : k = n := by omega
        have HE := Lib.hid (show planeB L = true from by unfold planeB; rw [HN.out, HIN.out, HPL.out]; rfl)
        go_wp2_with fail
        go_ret
        exact ⟨by rw [HE.out]; rfl, hbel⟩
      case pos =>
        obtain ⟨bp, op, rfl, hbp, c0, c1, c2⟩ := HR.out k (by rw [HN.out]; exact hlt)
        have c0 := bcell hbel hbp c0
        have c1 := bcell hbel hbp c1
        have c2 := bcell hbel hbp c2
        have x1 : (0 : Int) ≤ (k : Int) := by omega
        have x2 : (k : Int) < (n : Int) := by omega
        obtain ⟨T, hT⟩ : ∃ T, tmAt L k = T := ⟨_, rfl⟩
        have hT2 : L.getD k default = T := hT
        rw [hT2] at c0 c1 c2
        have HT := Lib.hid hT
        clear hT hT2
        have hbA := bal_alloc (o := .cells #[.int .i64 T.i, .int .i64 T.j, .int .i64 T.c] 43) hbel
        have HNO := Lib.hid (fun (h : termB T = false) => show planeB L = false from plane_no (by rw [HN.out]; exact hlt) (by rw [plnK_step HPL.out (u := false) (v := _) (by rw [HT.out]; exact h) rfl]; rfl))
        by_cases htb : termB T = true
        case neg =>
          have htf := eq_false_of_ne_true htb
          have HE := Lib.hid (HNO.out htf)
          clear HNO
          have CF := Lib.hid (fun w => finI_c T.c w)
          unfold termB at htf
          obtain ⟨X, Y, C⟩ := T
          simp only at htf c0 c1 c2 CF hbA
          have hcases : X < 0 ∨ (¬ X < 0 ∧ Y < 0) ∨ (¬ X < 0 ∧ ¬ Y < 0 ∧ 6 < X) ∨ (¬ X < 0 ∧ ¬ Y < 0 ∧ ¬ 6 < X ∧ 6 < Y) ∨ ((¬ X < 0 ∧ ¬ Y < 0 ∧ ¬ 6 < X ∧ ¬ 6 < Y) ∧ 6 < X + Y) ∨ ((¬ X < 0 ∧ ¬ Y < 0 ∧ ¬ 6 < X ∧ ¬ 6 < Y) ∧ ¬ 6 < X + Y ∧ inB C (-1000000) 1000000 = false) := by
            by_cases a1 : X < 0
            · exact Or.inl a1
            · by_cases a2 : Y < 0
              · exact Or.inr (Or.inl ⟨a1, a2⟩)
              · by_cases a3 : 6 < X
                · exact Or.inr (Or.inr (Or.inl ⟨a1, a2, a3⟩))
                · by_cases a4 : 6 < Y
                  · exact Or.inr (Or.inr (Or.inr (Or.inl ⟨a1, a2, a3, a4⟩)))
                  · by_cases a5 : 6 < X + Y
                    · exact Or.inr (Or.inr (Or.inr (Or.inr (Or.inl ⟨⟨a1, a2, a3, a4⟩, a5⟩))))
                    · rw [inB_t.2 (show 0 ≤ X ∧ X ≤ 6 by omega), inB_t.2 (show 0 ≤ Y ∧ Y ≤ 6 - X by omega), Bool.true_and, Bool.true_and] at htf
                      exact Or.inr (Or.inr (Or.inr (Or.inr (Or.inr ⟨⟨a1, a2, a3, a4⟩, a5, htf⟩))))
          clear htf htb
          rcases hcases with h | ⟨h1, h⟩ | ⟨h1, h2, h⟩ | ⟨h1, h2, h3, h⟩ | ⟨⟨h1, h2, h3, h4⟩, h⟩ | ⟨⟨h1, h2, h3, h4⟩, h5, h⟩
          · have d1 : decide (X < 0) = true := decide_eq_true h
            go_wp2_with fail
            go_ret
            exact ⟨by rw [HE.out]; rfl, hbA⟩
          · have d1 : decide (X < 0) = false := decide_eq_false h1
            have d2 : decide (Y < 0) = true := decide_eq_true h
            go_wp2_with fail
            go_ret
            exact ⟨by rw [HE.out]; rfl, hbA⟩
          · have d1 : decide (X < 0) = false := decide_eq_false h1
            have d2 : decide (Y < 0) = false := decide_eq_false h2
            have d3 : decide (6 < X) = true := decide_eq_true h
            go_wp2_with fail
            go_ret
            exact ⟨by rw [HE.out]; rfl, hbA⟩
          · have d1 : decide (X < 0) = false := decide_eq_false h1
            have d2 : decide (Y < 0) = false := decide_eq_false h2
            have d3 : decide (6 < X) = false := decide_eq_false h3
            have d4 : decide (6 < Y) = true := decide_eq_true h
            go_wp2_with fail
            go_ret
            exact ⟨by rw [HE.out]; rfl, hbA⟩
          · have d1 : decide (X < 0) = false := decide_eq_false h1
            have d2 : decide (Y < 0) = false := decide_eq_false h2
            have d3 : decide (6 < X) = false := decide_eq_false h3
            have d4 : decide (6 < Y) = false := decide_eq_false h4
            have w5 : IntKind.i64.wrap (X + Y) = X + Y := i64_small (by omega) (by omega)
            have d5 : decide (6 < X + Y) = true := decide_eq_true h
            go_wp2_with fail
            go_ret
            exact ⟨by rw [HE.out]; rfl, hbA⟩
          · have d1 : decide (X < 0) = false := decide_eq_false h1
            have d2 : decide (Y < 0) = false := decide_eq_false h2
            have d3 : decide (6 < X) = false := decide_eq_false h3
            have d4 : decide (6 < Y) = false := decide_eq_false h4
            have w5 : IntKind.i64.wrap (X + Y) = X + Y := i64_small (by omega) (by omega)
            have d5 : decide (6 < X + Y) = false := decide_eq_false h5
            rw [h] at CF
            go_wp2_with fail
            refine (CF.out _).mono ?_
            rintro e w3 ⟨rfl, rfl⟩
            go_wp2_with fail
            go_ret
            exact ⟨by rw [HE.out]; rfl, hbA⟩
        case pos =>
          have ht3 := termB_t htb
          have CF := Lib.hid (fun w => finI_c T.c w)
          rw [inB_t.2 ht3.2.2] at CF
          have HTB := Lib.hid htb
          clear htb HNO
          have d1 : decide (T.i < 0) = false := decide_eq_false (by omega)
          have d2 : decide (T.j < 0) = false := decide_eq_false (by omega)
          have d3 : decide (6 < T.i) = false := decide_eq_false (by omega)
          have d4 : decide (6 < T.j) = false := decide_eq_false (by omega)
          have w5 : IntKind.i64.wrap (T.i + T.j) = T.i + T.j := i64_small (by omega) (by omega)
          have d5 : decide (6 < T.i + T.j) = false := decide_eq_false (by omega)
          clear ht3
          go_wp2_with fail
          refine (CF.out _).mono ?_
          rintro e w3 ⟨rfl, rfl⟩
          clear d1 d2 d3 d4 w5 d5 CF
          by_cases h0 : k = 0
          case pos =>
            subst h0
            have HS := Lib.hid (show plnK L (0 + 1) = true from by rw [plnK_step HPL.out (u := true) (v := true) (by rw [HT.out]; exact HTB.out) rfl]; rfl)
            go_wp2_with fail
            go_quiet (fail)
            go_wp2_with fail
            go_roundw
            case rel => exact ⟨0 + 1, by omega, by go_num, HS.out, bdrewN hbA _⟩
            case measure => simp [intOf]; omega
          case neg =>
            obtain ⟨j, rfl⟩ : ∃ j, k = j + 1 := ⟨k - 1, by omega⟩
            obtain ⟨c3, c4, c5⟩ := RdT.at (HR.out) (j := j) (by rw [HN.out]; omega)
            have c3 := bcell hbA hbp c3
            have c4 := bcell hbA hbp c4
            have c5 := bcell hbA hbp c5
            obtain ⟨U, hU⟩ : ∃ U, tmAt L j = U := ⟨_, rfl⟩
            have hU2 : L.getD j default = U := hU
            rw [hU2] at c3 c4 c5
            have hUB : termB U = true := by rw [← hU]; exact plnK_term HPL.out (by omega)
            have HS := Lib.hid (show plnK L (j + 1 + 1) = befT U T from by rw [plnK_step HPL.out (u := true) (v := befT U T) (by rw [HT.out]; exact HTB.out) (by rw [Nat.add_sub_cancel, hU, HT.out, decide_eq_false (show ¬ j + 1 = 0 by omega)]; rfl)]; rfl)
            have CC := Lib.hid (fun w => compareTerms_c U T w hUB HTB.out)
            have x3 : (0 : Int) < ((j + 1 : Nat) : Int) := by omega
            have x4 : ((j + 1 : Nat) : Int) - 1 = (j : Int) := by omega
            have x5 : IntKind.i64.wrap (j : Int) = (j : Int) := i64_small (by omega) (by omega)
            have x6 : (0 : Int) ≤ (j : Int) := by omega
            have x7 : (j : Int) < (n : Int) := by omega
            clear hU hU2 hUB
            have o0 := (Own.newA wE #[.int .i64 T.i, .int .i64 T.j, .int .i64 T.c] 43 rfl)
            have hbpA : bp < (wE.alloc (.cells #[.int .i64 T.i, .int .i64 T.j, .int .i64 T.c] 43)).heap.size := by simp; omega
            have m0 := o0.cell? (i := 0) rfl
            have m1 := o0.cell? (i := 1) rfl
            have m2 := o0.cell? (i := 2) rfl
            go_wp2_with fail
            go_region_held3 (fun w' => (w'.cell? ⟨bp, op + j * 3, none⟩ = some (.int .i64 U.i) ∧ w'.cell? ⟨bp, op + j * 3 + 1, none⟩ = some (.int .i64 U.j) ∧ w'.cell? ⟨bp, op + j * 3 + 2, none⟩ = some (.int .i64 U.c)) ∧ w'.cell? ⟨wE.heap.size, 0, none⟩ = some (.int .i64 T.i) ∧ w'.cell? ⟨wE.heap.size, 1, none⟩ = some (.int .i64 T.j) ∧ w'.cell? ⟨wE.heap.size, 2, none⟩ = some (.int .i64 T.c)) (exact ⟨⟨by assumption, by assumption, by assumption⟩, by assumption, by assumption, by assumption⟩)
              (first
                | (go_at_call 47; (with_reducible refine (CC.out _).mono ?_); rintro e W1 ⟨⟨r, rfl, hr⟩, hw1⟩; have n3 := bcell hw1 hbpA c3; have n4 := bcell hw1 hbpA c4; have n5 := bcell hw1 hbpA c5; have n0 := bcell hw1 o0.lt m0; have n1 := bcell hw1 o0.lt m1; have n2 := bcell hw1 o0.lt m2))
            have hbW := hbA.trans (((Below.refl _ _).drew.trans hw1).mono hbA.size)
            clear n0 n1 n2 n3 n4 n5 m0 m1 m2 c3 c4 c5
            have HR9 := Lib.hid hr; clear hr
            cases hbe : befT U T with
            | false =>
              rw [hbe] at HR9
              have HE := Lib.hid (show planeB L = false from plane_no (by rw [HN.out]; exact hlt) (by rw [HS.out]; exact hbe))
              have d1 : decide (0 ≤ r) = true := HR9.out
              go_wp2_with fail
              go_ret
              exact ⟨by rw [HE.out]; rfl, hbW⟩
            | true =>
              rw [hbe] at HR9
              have HS2 := Lib.hid (HS.out.trans hbe)
              have d1 : decide (0 ≤ r) = false := HR9.out
              clear hbe
              go_wp2_with fail
              go_roundw
              case rel => exact ⟨j + 1 + 1, by omega, by go_num, HS2.out, hbW⟩
              case measure => simp [intOf]; omega
end Go.Proofs.Ytbnlfpcgcpdbhaa

/-
  Plane polynomials: plTerm and plBefore of the reference. By an AI agent.
-/
namespace Go.Proofs.Ytbnlfpcgcpdbhaa
open Go.RowKit

theorem finS_c (n : Int) (w : World) :
    Calls Try.prog 39 #[.int .i64 n] w fun e w' => e = .returned (.bool (inB n (-1000000) 1000000)) ∧ w = w' := by
  have C1 := Lib.hid (l1In_any n (-1000000) 1000000 w)
  go_enter Try.func39, Try.ntmps39
  go_wp2_with fail
  refine C1.out.mono ?_
  rintro e w1 ⟨rfl, rfl⟩
  go_wp2_with fail
  go_ret
  exact ⟨rfl, rfl⟩
set_option maxHeartbeats 800000 in
theorem plTerm_c (t : Tm) (w : World) :
    Calls Try.prog 26 #[.agg #[.int .i64 t.i, .int .i64 t.j, .int .i64 t.c]] w fun e w' => e = .returned (.bool (termB t)) ∧ Below w.heap.size w w' := by
  obtain ⟨a, b, c⟩ := t
  simp only
  have hb := (Below.refl w.heap.size w).alloc (Nat.le_refl _) (.cells #[.int .i64 a, .int .i64 b, .int .i64 c] 43)
  have C1 := Lib.hid (fun w => l1In_any a 0 6 w)
  have C2 := Lib.hid (fun w => l1In_any b 0 (6 - a) w)
  have C3 := Lib.hid (fun w => finS_c c w)
  by_cases h1 : inB a 0 6 = true
  case neg =>
    have h1 := eq_false_of_ne_true h1
    have HE := Lib.hid (show termB ⟨a, b, c⟩ = false from by unfold termB; rw [h1]; rfl)
    rw [h1] at C1
    go_enter Try.func26, Try.ntmps26
    go_wp2_with fail
    refine (C1.out _).mono ?_
    rintro e w1 ⟨rfl, rfl⟩
    go_wp2_with fail
    go_ret
    exact ⟨by rw [HE.out]; rfl, hb⟩
  case pos =>
    have ha := inB_t.1 h1
    rw [h1] at C1
    have e1 : IntKind.i64.wrap (6 - a) = 6 - a := i64_small (by omega) (by omega)
    by_cases h2 : inB b 0 (6 - a) = true
    case neg =>
      have h2 := eq_false_of_ne_true h2
      have HE := Lib.hid (show termB ⟨a, b, c⟩ = false from by unfold termB; rw [h2]; simp)
      rw [h2] at C2
      go_enter Try.func26, Try.ntmps26
      go_wp2_with fail
      refine (C1.out _).mono ?_
      rintro e w1 ⟨rfl, rfl⟩
      go_wp2_with fail
      refine (C2.out _).mono ?_
      rintro e w1 ⟨rfl, rfl⟩
      go_wp2_with fail
      go_ret
      exact ⟨by rw [HE.out]; rfl, hb⟩
    case pos =>
      rw [h2] at C2
      have HE := Lib.hid (show termB ⟨a, b, c⟩ = inB c (-1000000) 1000000 from by unfold termB; rw [h1, h2]; rfl)
      generalize inB c (-1000000) 1000000 = q at C3 HE
      go_enter Try.func26, Try.ntmps26
      go_wp2_with fail
      refine (C1.out _).mono ?_
      rintro e w1 ⟨rfl, rfl⟩
      go_wp2_with fail
      refine (C2.out _).mono ?_
      rintro e w1 ⟨rfl, rfl⟩
      go_wp2_with fail
      refine (C3.out _).mono ?_
      rintro e w1 ⟨rfl, rfl⟩
      go_wp2_with fail
      go_ret
      exact ⟨by rw [HE.out]; rfl, hb⟩
set_option maxHeartbeats 800000 in
theorem plBefore_c (p q : Tm) (w : World) :
    Calls Try.prog 27 #[.agg #[.int .i64 p.i, .int .i64 p.j, .int .i64 p.c], .agg #[.int .i64 q.i, .int .i64 q.j, .int .i64 q.c]] w fun e w' => e = .returned (.bool (befT p q)) ∧ Below w.heap.size w w' := by
  obtain ⟨a, b, c⟩ := p
  obtain ⟨d, e, f⟩ := q
  simp only
  have hb := ((Below.refl w.heap.size w).alloc (Nat.le_refl _) (.cells #[.int .i64 a, .int .i64 b, .int .i64 c] 43)).alloc (by simp) (.cells #[.int .i64 d, .int .i64 e, .int .i64 f] 43)
  rcases Int.lt_trichotomy a d with h | h | h
  · have d1 : decide (a < d) = true := decide_eq_true h
    have HE := Lib.hid (show befT ⟨a, b, c⟩ ⟨d, e, f⟩ = true from by unfold befT; simp only [d1, Bool.true_or])
    go_enter Try.func27, Try.ntmps27
    go_wp2_with fail
    go_ret
    exact ⟨by rw [HE.out]; rfl, hb⟩
  · subst h
    have d1 : decide (a < a) = false := decide_eq_false (by omega)
    obtain ⟨u, hu⟩ : ∃ u, decide (b < e) = u := ⟨_, rfl⟩
    have HE := Lib.hid (show befT ⟨a, b, c⟩ ⟨a, e, f⟩ = u from by unfold befT; simp only [d1, Bool.false_or, decide_true, Bool.true_and]; exact hu)
    go_enter Try.func27, Try.ntmps27
    go_wp2_with fail
    go_ret
    exact ⟨by rw [HE.out, ← hu]; rfl, hb⟩
  · have d1 : decide (a < d) = false := decide_eq_false (by omega)
    have d2 : (a == d) = false := beq_eq_false_iff_ne.2 (by omega)
    have HE := Lib.hid (show befT ⟨a, b, c⟩ ⟨d, e, f⟩ = false from by unfold befT; simp only [d1, Bool.false_or, decide_eq_false (show ¬ a = d by omega), Bool.false_and])
    go_enter Try.func27, Try.ntmps27
    go_wp2_with fail
    go_ret
    exact ⟨by rw [HE.out]; rfl, hb⟩
end Go.Proofs.Ytbnlfpcgcpdbhaa
