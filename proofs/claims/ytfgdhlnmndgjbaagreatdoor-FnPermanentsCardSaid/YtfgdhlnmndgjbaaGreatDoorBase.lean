/-
  Small laws on worlds, blocks and slices that all walks of this seat use. No program in sight.
-/
import Derived.WalkKit
import Derived.WalkSmall
import Derived.Lib.Hide
import Derived.Deep.Heap
namespace Go.Proofs.YtfgdhlnmndgjbaaGreatDoor
open Go.RowKit

theorem ret_bool {a b : Bool} (h : a = b) : Ending.returned (.bool a) = .returned (.bool b) := by rw [h]
theorem ret_int {a b : Int} (h : a = b) : Ending.returned (.int .i64 a) = .returned (.int .i64 b) := by rw [h]
theorem ret_ib {a b : Int} {c d : Bool} (h : a = b) (g : c = d) : Ending.returned (.tuple #[.int .i64 a, .bool c]) = .returned (.tuple #[.int .i64 b, .bool d]) := by rw [h, g]
theorem ret_bb {a b : Bool} {c d : Bool} (h : a = b) (g : c = d) : Ending.returned (.tuple #[.bool a, .bool c]) = .returned (.tuple #[.bool b, .bool d]) := by rw [h, g]

theorem i64_small {x : Int} (h0 : -4611686018427387904 ≤ x) (h1 : x ≤ 4611686018427387904) : IntKind.i64.wrap x = x := IntWalk.i64_in _ ⟨by omega, by omega⟩
theorem pred_wrap {k : Nat} (h : k ≤ 4611686018427387904) : IntKind.i64.wrap ((k : Int) - 1) = (k : Int) - 1 := i64_small (by omega) (by omega)
theorem pred_toNat {k : Nat} : ((k : Int) - 1).toNat = k - 1 := by omega

/-! ### Worlds -/
theorem bdrewN {B : Nat} {a w : World} (h : Below B a w) (n : Nat) : Below B a (w.drewN n) := below_drewN h n
theorem bcell {B : Nat} {w w' : World} (h : Below B w w') {p : Addr} {v : Value} (hp : p.block < B) (hc : w.cell? p = some v) : w'.cell? p = some v := (h.cell hp).trans hc
theorem cell_lt {w : World} {a : Addr} {v : Value} (h : w.cell? a = some v) : a.block < w.heap.size := World.block_lt_of_cell? w a h
/-- What holds below what was there holds below any smaller world's end. -/
theorem bthen {a b c : World} {B : Nat} (h : Below B a b) (k : Below b.heap.size b c) (hB : B ≤ b.heap.size) : Below B a c := h.trans (k.mono hB)
theorem ball {a b c : World} (h : Below a.heap.size a b) (k : Below b.heap.size b c) : Below a.heap.size a c := h.trans (k.mono h.size)

/-- All blocks but b (among those that were there) are as they were. -/
structure Chg (b : Nat) (w w' : World) : Prop where
  os : w'.os = w.os
  tape : w'.tape = w.tape
  output : w'.output = w.output
  size : w.heap.size ≤ w'.heap.size
  block : ∀ k, k < w.heap.size → k ≠ b → w'.heap[k]? = w.heap[k]?

theorem Chg.refl (b : Nat) (w : World) : Chg b w w := ⟨rfl, rfl, rfl, Nat.le_refl _, fun _ _ _ => rfl⟩
theorem Chg.trans {b : Nat} {u v w : World} (h : Chg b u v) (k : Chg b v w) : Chg b u w :=
  ⟨k.os.trans h.os, k.tape.trans h.tape, k.output.trans h.output, Nat.le_trans h.size k.size, fun i hi hb => (k.block i (Nat.lt_of_lt_of_le hi h.size) hb).trans (h.block i hi hb)⟩
theorem Chg.of_below {b : Nat} {w w' : World} (h : Below w.heap.size w w') : Chg b w w' := ⟨h.os, h.tape, h.output, h.size, fun k hk _ => h.block k hk⟩
theorem Chg.set (b i : Nat) (w : World) (v : Value) : Chg b w (w.setCell ⟨b, i, none⟩ v) :=
  ⟨rfl, rfl, rfl, by simp [World.setCell], fun k _ hb => Below.heap_setCell _ _ _ _ hb⟩
theorem Chg.alloc (b : Nat) (w : World) (o : Obj) : Chg b w (w.alloc o) := Chg.of_below ((Below.refl _ _).alloc (Nat.le_refl _) o)
theorem Chg.drew (b : Nat) (w : World) : Chg b w w.drew := Chg.of_below (Below.refl _ _).drew
theorem Chg.drewN (b : Nat) (w : World) (n : Nat) : Chg b w (w.drewN n) := Chg.of_below (bdrewN (Below.refl _ _) n)
theorem Chg.below {B b : Nat} {w w' : World} (h : Chg b w w') (hB : B ≤ b) (hs : B ≤ w.heap.size) : Below B w w' :=
  ⟨h.os, h.tape, h.output, h.size, fun k hk => h.block k (by omega) (by omega)⟩
theorem Chg.cell {b : Nat} {w w' : World} (h : Chg b w w') {p : Addr} {v : Value} (hp : p.block ≠ b) (hc : w.cell? p = some v) : w'.cell? p = some v :=
  (World.cell?_of_block (w := w) (h.block p.block (cell_lt hc) hp)).trans hc
theorem bchg {B b : Nat} {u w w' : World} (h : Below B u w) (k : Chg b w w') (hB : B ≤ b) (hs : B ≤ w.heap.size) : Below B u w' := h.trans (k.below hB hs)

/-! ### A block whose head is known -/
def Own (w : World) (g : Nat) (E : TypeId) (cs : List Value) : Prop :=
  ∃ cur : Array Value, w.heap[g]? = some (.cells cur E (0, 0)) ∧ cur.toList.take cs.length = cs

section
variable {w w' : World} {g : Nat} {E : TypeId} {cs : List Value}
theorem Own.lt (h : Own w g E cs) : g < w.heap.size := by
  obtain ⟨cur, hb, _⟩ := h
  exact (Array.getElem?_eq_some_iff.1 hb).1
theorem Own.of_block (h : Own w g E cs) (e : w'.heap[g]? = w.heap[g]?) : Own w' g E cs := by
  obtain ⟨cur, hb, hc⟩ := h
  exact ⟨cur, e.trans hb, hc⟩
theorem Own.cell? (h : Own w g E cs) {i : Nat} {v : Value} (hi : cs[i]? = some v) : w.cell? ⟨g, i, none⟩ = some v := by
  obtain ⟨cur, hb, hc⟩ := h
  rw [← hc, List.getElem?_take] at hi
  split at hi
  · simpa [World.cell?, hb] using hi
  · cases hi
theorem Own.frozen (h : Own w g E cs) (i : Nat) : w.frozen? ⟨g, i, none⟩ = false := by
  obtain ⟨cur, hb, _⟩ := h
  simp [World.frozen?, hb]
theorem Own.set (h : Own w g E cs) (i : Nat) (v : Value) : Own (w.setCell ⟨g, i, none⟩ v) g E (cs.set i v) := by
  obtain ⟨cur, hb, hc⟩ := h
  refine ⟨cur.setIfInBounds i v, by simp [World.setCell, Array.getElem?_modify, hb], ?_⟩
  rw [List.length_set, Array.toList_setIfInBounds, List.take_set, hc]
theorem Own.setOther (h : Own w g E cs) {a : Addr} (ha : g ≠ a.block) (v : Value) : Own (w.setCell a v) g E cs := h.of_block (Deep.blk_setCell_other _ _ _ _ ha)
theorem Own.alloc (h : Own w g E cs) (o : Obj) : Own (w.alloc o) g E cs := h.of_block (Deep.blk_alloc_lt _ _ _ h.lt)
theorem Own.drew (h : Own w g E cs) : Own w.drew g E cs := h
theorem Own.drewN (h : Own w g E cs) (n : Nat) : Own (w.drewN n) g E cs := h.of_block ((bdrewN (Below.refl w.heap.size _) n).block g h.lt)
theorem Own.below {B : Nat} (h : Own w g E cs) (hb : Below B w w') (hg : g < B) : Own w' g E cs := h.of_block (hb.block g hg)
theorem Own.belowAll (h : Own w g E cs) (hb : Below w.heap.size w w') : Own w' g E cs := h.of_block (hb.block g h.lt)
theorem Own.chg {b : Nat} (h : Own w g E cs) (hb : Chg b w w') (hg : g ≠ b) : Own w' g E cs := h.of_block (hb.block g h.lt hg)
theorem Own.grown {row : Option Nat} (h : Own w g E cs) (hb : w.grownBy w' row) (hg : row ≠ some g) : Own w' g E cs := h.of_block (hb.block g h.lt (fun e => hg e.symm))
theorem Own.take (h : Own w g E cs) (n : Nat) : Own w g E (cs.take n) := by
  obtain ⟨cur, hb, hc⟩ := h
  refine ⟨cur, hb, ?_⟩
  have : cur.toList.take (cs.take n).length = (cur.toList.take cs.length).take n := by rw [List.take_take, List.length_take]
  rw [this, hc]
theorem Own.new (w : World) (cs : List Value) (E : TypeId) : Own (w.alloc (.cells cs.toArray E)) w.heap.size E cs :=
  ⟨cs.toArray, Deep.blk_alloc_new _ _, by simp⟩
theorem Own.newA (w : World) (c : Array Value) (E : TypeId) {cs : List Value} (h : c.toList = cs) : Own (w.alloc (.cells c E)) w.heap.size E cs :=
  ⟨c, Deep.blk_alloc_new _ _, by subst h; rw [List.take_length]⟩
theorem Own.congr {cs' : List Value} (h : Own w g E cs) (e : cs = cs') : Own w g E cs' := e ▸ h
end

theorem Own.of_row {w : World} {B : Nat} {e : TypeId} {size : Nat} {v : Value} {n : Nat} {xs : List Value} (h : w.ownsRow B e size v n xs) :
    (v = .slice none 0 0 ∧ n = 0 ∧ xs = []) ∨ ∃ g cap, v = .slice (some ⟨g, 0, none⟩) n cap ∧ B ≤ g ∧ n ≤ cap ∧ cap ≤ maxLen ∧ Own w g e xs := by
  obtain ⟨hl, h | ⟨g, cap, cur, hv, hg, hh, hn, hc, hs, ht⟩⟩ := h
  · obtain ⟨rfl, rfl⟩ := h
    exact Or.inl ⟨rfl, rfl, by simpa using hl⟩
  · exact Or.inr ⟨g, cap, hv, hg, hn, hc, cur, hh, by rw [hl]; exact ht⟩

/-! ### Numbers -/
def ints (xs : List Int) : List Value := xs.map (Value.int .i64)
theorem ints_length (xs : List Int) : (ints xs).length = xs.length := by simp [ints]
theorem ints_get {xs : List Int} {i : Nat} (h : i < xs.length) : (ints xs)[i]? = some (.int .i64 (xs.getD i 0)) := by simp [ints, h]
theorem ints_set (xs : List Int) (i : Nat) (x : Int) : (ints xs).set i (.int .i64 x) = ints (xs.set i x) := by simp [ints, List.map_set]
theorem ints_append (xs ys : List Int) : ints xs ++ ints ys = ints (xs ++ ys) := by simp [ints]
theorem ints_one (x : Int) : [Value.int .i64 x] = ints [x] := rfl
theorem ints_oneCell (xs : List Int) : ∀ u ∈ ints xs, u.oneCell' = true := by
  intro u hu
  obtain ⟨x, _, rfl⟩ := List.mem_map.1 hu
  rfl

/-- A slice's numbers, as they are read. -/
def RdI (w : World) (ad : Option Addr) (xs : List Int) : Prop :=
  ∀ j, j < xs.length → ∃ b off, ad = some ⟨b, off, none⟩ ∧ b < w.heap.size ∧ w.cell? ⟨b, off + j, none⟩ = some (.int .i64 (xs.getD j 0))

theorem RdI.nil (w : World) (ad : Option Addr) : RdI w ad [] := fun _ h => by simp at h
theorem RdI.at {w : World} {b off : Nat} {xs : List Int} (h : RdI w (some ⟨b, off, none⟩) xs) {j : Nat} (hj : j < xs.length) : w.cell? ⟨b, off + j, none⟩ = some (.int .i64 (xs.getD j 0)) := by
  obtain ⟨b', off', e, _, hc⟩ := h j hj
  cases e
  exact hc
theorem RdI.shape {w : World} {ad : Option Addr} {xs : List Int} (h : RdI w ad xs) {j : Nat} (hj : j < xs.length) : ∃ b off, ad = some ⟨b, off, none⟩ ∧ b < w.heap.size := by
  obtain ⟨b', off', e, hb, _⟩ := h j hj
  exact ⟨b', off', e, hb⟩
theorem RdI.below {w w' : World} {ad : Option Addr} {xs : List Int} (h : RdI w ad xs) (hb : Below w.heap.size w w') : RdI w' ad xs := fun j hj => by
  obtain ⟨b', off', e, hl, hc⟩ := h j hj
  exact ⟨b', off', e, Nat.lt_of_lt_of_le hl hb.size, bcell hb hl hc⟩
theorem RdI.chg {w w' : World} {ad : Option Addr} {xs : List Int} {b : Nat} (h : RdI w ad xs) (hb : Chg b w w') (hne : ∀ o, ad ≠ some ⟨b, o, none⟩) : RdI w' ad xs := fun j hj => by
  obtain ⟨b', off', e, hl, hc⟩ := h j hj
  exact ⟨b', off', e, Nat.lt_of_lt_of_le hl hb.size, hb.cell (fun q => hne off' (by rw [e]; congr 1; simp at q; rw [q])) hc⟩
theorem Own.rd {w : World} {g : Nat} {E : TypeId} {xs : List Int} (h : Own w g E (ints xs)) : RdI w (some ⟨g, 0, none⟩) xs := fun j hj =>
  ⟨g, 0, rfl, h.lt, by simpa using h.cell? (ints_get hj)⟩

/-- A slice of numbers in memory of the call's own: nil and empty, or the head of a block from B on. -/
def ResI (w : World) (B : Nat) (E : TypeId) (v : Value) (xs : List Int) : Prop :=
  (v = .slice none 0 0 ∧ xs = []) ∨ ∃ g cap, v = .slice (some ⟨g, 0, none⟩) xs.length cap ∧ B ≤ g ∧ Own w g E (ints xs)

theorem ResI.of_row {w : World} {B : Nat} {e : TypeId} {v : Value} {n : Nat} {xs : List Int} (h : w.ownsRow B e 1 v n (ints xs)) : ResI w B e v xs := by
  have hl : n = xs.length := by have := h.1; simp [ints] at this; omega
  subst hl
  rcases Own.of_row h with ⟨rfl, h0, hx⟩ | ⟨g, cap, rfl, hg, _, _, ho⟩
  · exact Or.inl ⟨rfl, by simpa [ints] using hx⟩
  · exact Or.inr ⟨g, cap, rfl, hg, ho⟩
theorem ResI.rd {w : World} {B : Nat} {E : TypeId} {v : Value} {xs : List Int} (h : ResI w B E v xs) : ∃ ad cap, v = .slice ad xs.length cap ∧ RdI w ad xs := by
  rcases h with ⟨rfl, rfl⟩ | ⟨g, cap, rfl, _, ho⟩
  · exact ⟨none, 0, rfl, RdI.nil _ _⟩
  · exact ⟨_, cap, rfl, ho.rd⟩
theorem ResI.mono {w : World} {B B' : Nat} {E : TypeId} {v : Value} {xs : List Int} (h : ResI w B E v xs) (hB : B' ≤ B) : ResI w B' E v xs := by
  rcases h with h | ⟨g, cap, rfl, hg, ho⟩
  · exact Or.inl h
  · exact Or.inr ⟨g, cap, rfl, Nat.le_trans hB hg, ho⟩
theorem ResI.below {w w' : World} {B : Nat} {E : TypeId} {v : Value} {xs : List Int} (h : ResI w B E v xs) (hb : Below w.heap.size w w') : ResI w' B E v xs := by
  rcases h with h | ⟨g, cap, rfl, hg, ho⟩
  · exact Or.inl h
  · exact Or.inr ⟨g, cap, rfl, hg, ho.belowAll hb⟩


/-! ### A list by its places -/
def tab {α : Type} (n : Nat) (f : Nat → α) : List α := (List.range n).map f
theorem tab_length {α : Type} (n : Nat) (f : Nat → α) : (tab n f).length = n := by simp [tab]
theorem tab_getD {α : Type} {n : Nat} {f : Nat → α} {i : Nat} (h : i < n) (d : α) : (tab n f).getD i d = f i := by simp [tab, List.getD, h]
theorem tab_get {α : Type} {n : Nat} {f : Nat → α} {i : Nat} (h : i < n) : (tab n f)[i]? = some (f i) := by simp [tab, h]
theorem tab_set {α : Type} (n : Nat) (f : Nat → α) (k : Nat) (x : α) : (tab n f).set k x = tab n (fun i => if i = k then x else f i) := by
  apply List.ext_getElem?
  intro i
  by_cases hi : i < n
  · rw [List.getElem?_set, tab_get hi, tab_length, tab_get hi]
    by_cases hk : k = i
    · subst hk; simp [hi]
    · rw [if_neg hk, if_neg (fun h => hk h.symm)]
  · simp [tab, hi]
theorem tab_congr {α : Type} {n : Nat} {f g : Nat → α} (h : ∀ i, i < n → f i = g i) : tab n f = tab n g := by
  unfold tab
  exact List.map_congr_left (fun i hi => h i (by simpa using hi))
theorem tab_self {α : Type} (l : List α) (d : α) : tab l.length (fun i => l.getD i d) = l := by
  apply List.ext_getElem?
  intro i
  by_cases hi : i < l.length
  · rw [tab_get hi]; simp [List.getD, hi]
  · simp [tab, hi]
theorem tab_map {α β : Type} (n : Nat) (f : Nat → α) (g : α → β) : (tab n f).map g = tab n (fun i => g (f i)) := by simp [tab]
theorem tab_succ {α : Type} (n : Nat) (f : Nat → α) : tab (n + 1) f = tab n f ++ [f n] := by simp [tab, List.range_succ]

/-! ### Links -/
structure Lk where
  a : Int
  b : Int
  n : Int
def Lk.z : Lk := ⟨0, 0, 0⟩
instance : Inhabited Lk := ⟨Lk.z⟩
def lks (ls : List Lk) : List Value := ls.flatMap fun x => [.int .i64 x.a, .int .i64 x.b, .int .i64 x.n]
theorem lks_length (ls : List Lk) : (lks ls).length = ls.length * 3 := by
  induction ls with
  | nil => rfl
  | cons x l ih => simp [lks] at ih ⊢; omega
theorem lks_cons (x : Lk) (l : List Lk) : lks (x :: l) = .int .i64 x.a :: .int .i64 x.b :: .int .i64 x.n :: lks l := rfl
theorem lks_get : ∀ {ls : List Lk} {i : Nat}, i < ls.length →
    (lks ls)[i * 3]? = some (.int .i64 (ls.getD i Lk.z).a) ∧ (lks ls)[i * 3 + 1]? = some (.int .i64 (ls.getD i Lk.z).b) ∧ (lks ls)[i * 3 + 2]? = some (.int .i64 (ls.getD i Lk.z).n)
  | [], _, h => by simp at h
  | x :: l, 0, _ => by simp [lks_cons]
  | x :: l, i + 1, h => by
    have := lks_get (ls := l) (i := i) (by simpa using h)
    rw [lks_cons]
    refine ⟨?_, ?_, ?_⟩
    · rw [show (i + 1) * 3 = i * 3 + 1 + 1 + 1 by omega]; simpa using this.1
    · rw [show (i + 1) * 3 + 1 = i * 3 + 1 + 1 + 1 + 1 by omega]; simpa using this.2.1
    · rw [show (i + 1) * 3 + 2 = i * 3 + 2 + 1 + 1 + 1 by omega]; simpa using this.2.2
theorem lks_set : ∀ (ls : List Lk) (i : Nat) (x : Lk), i < ls.length → ((((lks ls).set (i * 3) (.int .i64 x.a)).set (i * 3 + 1) (.int .i64 x.b)).set (i * 3 + 2) (.int .i64 x.n)) = lks (ls.set i x)
  | [], _, _, h => by simp at h
  | y :: l, 0, x, _ => by simp [lks_cons]
  | y :: l, i + 1, x, h => by
    have := lks_set l i x (by simpa using h)
    rw [List.set_cons_succ, lks_cons, lks_cons, ← this, show (i + 1) * 3 = i * 3 + 1 + 1 + 1 by omega, show i * 3 + 1 + 1 + 1 + 1 = (i * 3 + 1) + 1 + 1 + 1 by omega, show i * 3 + 1 + 1 + 1 + 2 = (i * 3 + 2) + 1 + 1 + 1 by omega]
    simp

/-- A slice's links, as they are read. -/
def RdL (w : World) (ad : Option Addr) (ls : List Lk) : Prop :=
  ∀ j, j < ls.length → ∃ b off, ad = some ⟨b, off, none⟩ ∧ b < w.heap.size ∧ w.cell? ⟨b, off + j * 3, none⟩ = some (.int .i64 (ls.getD j Lk.z).a) ∧
    w.cell? ⟨b, off + j * 3 + 1, none⟩ = some (.int .i64 (ls.getD j Lk.z).b) ∧ w.cell? ⟨b, off + j * 3 + 2, none⟩ = some (.int .i64 (ls.getD j Lk.z).n)
theorem RdL.at {w : World} {b off : Nat} {ls : List Lk} (h : RdL w (some ⟨b, off, none⟩) ls) {j : Nat} (hj : j < ls.length) :
    w.cell? ⟨b, off + j * 3, none⟩ = some (.int .i64 (ls.getD j Lk.z).a) ∧ w.cell? ⟨b, off + j * 3 + 1, none⟩ = some (.int .i64 (ls.getD j Lk.z).b) ∧ w.cell? ⟨b, off + j * 3 + 2, none⟩ = some (.int .i64 (ls.getD j Lk.z).n) := by
  obtain ⟨b', off', e, _, hc⟩ := h j hj
  cases e
  exact hc
theorem RdL.shape {w : World} {ad : Option Addr} {ls : List Lk} (h : RdL w ad ls) {j : Nat} (hj : j < ls.length) : ∃ b off, ad = some ⟨b, off, none⟩ ∧ b < w.heap.size := by
  obtain ⟨b', off', e, hb, _⟩ := h j hj
  exact ⟨b', off', e, hb⟩
theorem RdL.below {w w' : World} {ad : Option Addr} {ls : List Lk} (h : RdL w ad ls) (hb : Below w.heap.size w w') : RdL w' ad ls := fun j hj => by
  obtain ⟨b', off', e, hl, c0, c1, c2⟩ := h j hj
  exact ⟨b', off', e, Nat.lt_of_lt_of_le hl hb.size, bcell hb hl c0, bcell hb hl c1, bcell hb hl c2⟩
theorem RdL.chg {w w' : World} {ad : Option Addr} {ls : List Lk} {b : Nat} (h : RdL w ad ls) (hb : Chg b w w') (hne : ∀ o, ad ≠ some ⟨b, o, none⟩) : RdL w' ad ls := fun j hj => by
  obtain ⟨b', off', e, hl, c0, c1, c2⟩ := h j hj
  have hn : b' ≠ b := fun q => hne off' (by rw [e, q])
  exact ⟨b', off', e, Nat.lt_of_lt_of_le hl hb.size, hb.cell hn c0, hb.cell hn c1, hb.cell hn c2⟩
theorem Own.rdL {w : World} {g : Nat} {E : TypeId} {ls : List Lk} (h : Own w g E (lks ls)) : RdL w (some ⟨g, 0, none⟩) ls := fun j hj => by
  obtain ⟨c0, c1, c2⟩ := lks_get hj
  exact ⟨g, 0, rfl, h.lt, by simpa using h.cell? c0, by simpa using h.cell? c1, by simpa using h.cell? c2⟩


theorem lks_replicate (n : Nat) : lks (List.replicate n Lk.z) = List.replicate (n * 3) (.int .i64 0) := by
  induction n with
  | zero => rfl
  | succ n ih => rw [List.replicate_succ, lks_cons, ih, show (n + 1) * 3 = n * 3 + 1 + 1 + 1 by omega]; rfl
theorem madeLinks (n : Nat) : (madeCells #[.int .i64 0, .int .i64 0, .int .i64 0] (n * 3)).toList = lks (tab n fun _ => Lk.z) := by
  have : tab n (fun _ => Lk.z) = List.replicate n Lk.z := by simp [tab, List.map_const']
  rw [this, lks_replicate]
  apply List.ext_getElem?
  intro j
  by_cases hj : j < n * 3
  · have : j % 3 = 0 ∨ j % 3 = 1 ∨ j % 3 = 2 := by omega
    simp only [madeCells]
    rcases this with h | h | h <;> simp [hj, h]
  · simp [madeCells, hj]
theorem madeInts (n : Nat) : (madeCells #[.int .i64 0] n).toList = ints (tab n fun _ => 0) := by
  rw [toList_madeCells_one]
  simp [ints, tab, List.map_const']

/-- 'make([]T, n)', T of whatever size: an equation for every world. -/
theorem run_makeN {P : Program} (t e : TypeId) (z : Value) (size bytes : Nat) (ht : P.underlying t = some (.slice e)) (hinfo : (P.info? e).map (fun i => (i.zero, i.size, i.bytes)) = some (some z, size, bytes))
    (n : Nat) (hbytes : bytes * n ≤ 281474976710656) (h63 : n ≤ 9223372036854775807) (w : World) :
    (Instr.makeSlice t (.int .i64 (n : Int)) (.int .i64 (n : Int))).run P w = .ok (.slice (some ⟨w.heap.size, 0, none⟩) n n) (w.alloc (.cells (madeCells z.cells (n * size)) e)) := by
  obtain ⟨i, hi, hzz⟩ := Option.map_eq_some_iff.1 hinfo
  simp only [Prod.mk.injEq] at hzz
  obtain ⟨hz, hs, hb⟩ := hzz
  subst hs; subst hb
  have hb' : (i.bytes : Int) * (n : Int) ≤ 281474976710656 := by
    have h : ((i.bytes * n : Nat) : Int) ≤ 281474976710656 := by omega
    rwa [Int.natCast_mul] at h
  have hr := run_make (P := P) w t e i z ht hi hz .i64 .i64 n n (by omega) (Int.le_refl _) hb' (by omega)
  simpa only [Int.toNat_natCast] using hr

/-! ### Bounds as Bools -/
def inB (n lo hi : Int) : Bool := decide (lo ≤ n) && decide (n ≤ hi)
theorem inB_t {n lo hi : Int} : inB n lo hi = true ↔ lo ≤ n ∧ n ≤ hi := by simp [inB]
theorem inB_f {n lo hi : Int} : inB n lo hi = false ↔ ¬ (lo ≤ n ∧ n ≤ hi) := by simp [inB]

/-! ### Cells and frames, step by step -/
theorem cell_alloc' {w : World} {o : Obj} {a : Addr} {v : Value} (h : w.cell? a = some v) : (w.alloc o).cell? a = some v := bcell ((Below.refl _ _).alloc (Nat.le_refl _) _) (cell_lt h) h
theorem cell_set' {w : World} {b o o2 h : Nat} (hb : b ≠ h) {u v : Value} (hc : w.cell? ⟨b, o, none⟩ = some v) : (w.setCell ⟨h, o2, none⟩ u).cell? ⟨b, o, none⟩ = some v := (World.cell?_of_block (w := w) (w' := w.setCell ⟨h, o2, none⟩ u) (a := ⟨b, o, none⟩) (Below.heap_setCell _ _ _ _ hb)).trans hc
theorem cell_drew' {w : World} {a : Addr} {v : Value} (h : w.cell? a = some v) : w.drew.cell? a = some v := h
theorem bcell' {w w' : World} (h : Below w.heap.size w w') {p : Addr} {v : Value} (hc : w.cell? p = some v) : w'.cell? p = some v := bcell h (cell_lt hc) hc
theorem bal_alloc {u w : World} {o : Obj} (h : Below u.heap.size u w) : Below u.heap.size u (w.alloc o) := h.alloc h.size o
theorem heap_alloc_at (w : World) (o : Obj) {n : Nat} (h : n = w.heap.size) : (w.alloc o).heap[n]? = some o := by subst h; exact heap_alloc_new _ _
theorem rem_next {i n : Nat} : Int.tmod ((i : Int) + 1) (n : Int) = (((i + 1) % n : Nat) : Int) := by
  rw [Int.tmod_eq_emod_of_nonneg (by omega)]
  rw [Int.natCast_emod]; rfl

end Go.Proofs.YtfgdhlnmndgjbaaGreatDoor
