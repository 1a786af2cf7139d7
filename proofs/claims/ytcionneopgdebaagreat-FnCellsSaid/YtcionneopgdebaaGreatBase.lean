/-
  Small laws on worlds, blocks and slices that all walks of this seat use. No program in sight.
-/
import Derived.WalkKit
import Derived.WalkSmall
import Derived.Lib.Hide
import Derived.Deep.Heap
namespace Go.Proofs.YtcionneopgdebaaGreat
open Go.RowKit

theorem ret_bool {a b : Bool} (h : a = b) : Ending.returned (.bool a) = .returned (.bool b) := by rw [h]
theorem i64_small {x : Int} (h0 : -4611686018427387904 ≤ x) (h1 : x ≤ 4611686018427387904) : IntKind.i64.wrap x = x := IntWalk.i64_in _ ⟨by omega, by omega⟩
/-! ### Worlds -/
theorem bdrewN {B : Nat} {a w : World} (h : Below B a w) (n : Nat) : Below B a (w.drewN n) := below_drewN h n
theorem bcell {B : Nat} {w w' : World} (h : Below B w w') {p : Addr} {v : Value} (hp : p.block < B) (hc : w.cell? p = some v) : w'.cell? p = some v := (h.cell hp).trans hc
theorem cell_lt {w : World} {a : Addr} {v : Value} (h : w.cell? a = some v) : a.block < w.heap.size := World.block_lt_of_cell? w a h
theorem ball {a b c : World} (h : Below a.heap.size a b) (k : Below b.heap.size b c) : Below a.heap.size a c := h.trans (k.mono h.size)

/-- All blocks but b (among those that were there) are as they were. -/
structure Chg (b : Nat) (w w' : World) : Prop where
  os : w'.os = w.os
  tape : w'.tape = w.tape
  output : w'.output = w.output
  size : w.heap.size ≤ w'.heap.size
  block : ∀ k, k < w.heap.size → k ≠ b → w'.heap[k]? = w.heap[k]?

theorem Chg.refl (b : Nat) (w : World) : Chg b w w := ⟨rfl, rfl, rfl, Nat.le_refl _, fun _ _ _ => rfl⟩
theorem Chg.trans {b : Nat} {u v w : World} (h : Chg b u v) (k : Chg b v w) : Chg b u w :=
  ⟨k.os.trans h.os, k.tape.trans h.tape, k.output.trans h.output, Nat.le_trans h.size k.size, fun i hi hb => (k.block i (Nat.lt_of_lt_of_le hi h.size) hb).trans (h.block i hi hb)⟩
theorem Chg.of_below {b : Nat} {w w' : World} (h : Below w.heap.size w w') : Chg b w w' := ⟨h.os, h.tape, h.output, h.size, fun k hk _ => h.block k hk⟩
theorem Chg.set (b i : Nat) (w : World) (v : Value) : Chg b w (w.setCell ⟨b, i, none⟩ v) :=
  ⟨rfl, rfl, rfl, by simp [World.setCell], fun k _ hb => Below.heap_setCell _ _ _ _ hb⟩
theorem Chg.alloc (b : Nat) (w : World) (o : Obj) : Chg b w (w.alloc o) := Chg.of_below ((Below.refl _ _).alloc (Nat.le_refl _) o)
theorem Chg.drew (b : Nat) (w : World) : Chg b w w.drew := Chg.of_below (Below.refl _ _).drew
theorem Chg.drewN (b : Nat) (w : World) (n : Nat) : Chg b w (w.drewN n) := Chg.of_below (bdrewN (Below.refl _ _) n)
theorem Chg.below {B b : Nat} {w w' : World} (h : Chg b w w') (hB : B ≤ b) (hs : B ≤ w.heap.size) : Below B w w' :=
  ⟨h.os, h.tape, h.output, h.size, fun k hk => h.block k (by omega) (by omega)⟩
theorem Chg.cell {b : Nat} {w w' : World} (h : Chg b w w') {p : Addr} {v : Value} (hp : p.block ≠ b) (hc : w.cell? p = some v) : w'.cell? p = some v :=
  (World.cell?_of_block (w := w) (h.block p.block (cell_lt hc) hp)).trans hc
theorem bchg {B b : Nat} {u w w' : World} (h : Below B u w) (k : Chg b w w') (hB : B ≤ b) (hs : B ≤ w.heap.size) : Below B u w' := h.trans (k.below hB hs)

/-! ### A block whose head is known -/
def Own (w : World) (g : Nat) (E : TypeId) (cs : List Value) : Prop :=
  ∃ cur : Array Value, w.heap[g]? = some (.cells cur E (0, 0)) ∧ cur.toList.take cs.length = cs

section
variable {w w' : World} {g : Nat} {E : TypeId} {cs : List Value}
theorem Own.lt (h : Own w g E cs) : g < w.heap.size := by
  obtain ⟨cur, hb, _⟩ := h
  exact (Array.getElem?_eq_some_iff.1 hb).1
theorem Own.of_block (h : Own w g E cs) (e : w'.heap[g]? = w.heap[g]?) : Own w' g E cs := by
  obtain ⟨cur, hb, hc⟩ := h
  exact ⟨cur, e.trans hb, hc⟩
theorem Own.cell? (h : Own w g E cs) {i : Nat} {v : Value} (hi : cs[i]? = some v) : w.cell? ⟨g, i, none⟩ = some v := by
  obtain ⟨cur, hb, hc⟩ := h
  rw [← hc, List.getElem?_take] at hi
  split at hi
  · simpa [World.cell?, hb] using hi
  · cases hi
theorem Own.frozen (h : Own w g E cs) (i : Nat) : w.frozen? ⟨g, i, none⟩ = false := by
  obtain ⟨cur, hb, _⟩ := h
  simp [World.frozen?, hb]
theorem Own.set (h : Own w g E cs) (i : Nat) (v : Value) : Own (w.setCell ⟨g, i, none⟩ v) g E (cs.set i v) := by
  obtain ⟨cur, hb, hc⟩ := h
  refine ⟨cur.setIfInBounds i v, by simp [World.setCell, Array.getElem?_modify, hb], ?_⟩
  rw [List.length_set, Array.toList_setIfInBounds, List.take_set, hc]
theorem Own.setOther (h : Own w g E cs) {a : Addr} (ha : g ≠ a.block) (v : Value) : Own (w.setCell a v) g E cs := h.of_block (Deep.blk_setCell_other _ _ _ _ ha)
theorem Own.alloc (h : Own w g E cs) (o : Obj) : Own (w.alloc o) g E cs := h.of_block (Deep.blk_alloc_lt _ _ _ h.lt)
theorem Own.drew (h : Own w g E cs) : Own w.drew g E cs := h
theorem Own.drewN (h : Own w g E cs) (n : Nat) : Own (w.drewN n) g E cs := h.of_block ((bdrewN (Below.refl w.heap.size _) n).block g h.lt)
theorem Own.below {B : Nat} (h : Own w g E cs) (hb : Below B w w') (hg : g < B) : Own w' g E cs := h.of_block (hb.block g hg)
theorem Own.belowAll (h : Own w g E cs) (hb : Below w.heap.size w w') : Own w' g E cs := h.of_block (hb.block g h.lt)
theorem Own.chg {b : Nat} (h : Own w g E cs) (hb : Chg b w w') (hg : g ≠ b) : Own w' g E cs := h.of_block (hb.block g h.lt hg)
theorem Own.grown {row : Option Nat} (h : Own w g E cs) (hb : w.grownBy w' row) (hg : row ≠ some g) : Own w' g E cs := h.of_block (hb.block g h.lt (fun e => hg e.symm))
theorem Own.new (w : World) (cs : List Value) (E : TypeId) : Own (w.alloc (.cells cs.toArray E)) w.heap.size E cs :=
  ⟨cs.toArray, Deep.blk_alloc_new _ _, by simp⟩
theorem Own.newA (w : World) (c : Array Value) (E : TypeId) {cs : List Value} (h : c.toList = cs) : Own (w.alloc (.cells c E)) w.heap.size E cs :=
  ⟨c, Deep.blk_alloc_new _ _, by subst h; rw [List.take_length]⟩
theorem Own.congr {cs' : List Value} (h : Own w g E cs) (e : cs = cs') : Own w g E cs' := e ▸ h
end

theorem Own.of_row {w : World} {B : Nat} {e : TypeId} {size : Nat} {v : Value} {n : Nat} {xs : List Value} (h : w.ownsRow B e size v n xs) :
    (v = .slice none 0 0 ∧ n = 0 ∧ xs = []) ∨ ∃ g cap, v = .slice (some ⟨g, 0, none⟩) n cap ∧ B ≤ g ∧ n ≤ cap ∧ cap ≤ maxLen ∧ Own w g e xs := by
  obtain ⟨hl, h | ⟨g, cap, cur, hv, hg, hh, hn, hc, hs, ht⟩⟩ := h
  · obtain ⟨rfl, rfl⟩ := h
    exact Or.inl ⟨rfl, rfl, by simpa using hl⟩
  · exact Or.inr ⟨g, cap, hv, hg, hn, hc, cur, hh, by rw [hl]; exact ht⟩

/-! ### Numbers -/
def ints (xs : List Int) : List Value := xs.map (Value.int .i64)
theorem ints_length (xs : List Int) : (ints xs).length = xs.length := by simp [ints]
theorem ints_get {xs : List Int} {i : Nat} (h : i < xs.length) : (ints xs)[i]? = some (.int .i64 (xs.getD i 0)) := by simp [ints, h]
theorem ints_oneCell (xs : List Int) : ∀ u ∈ ints xs, u.oneCell' = true := by
  intro u hu
  obtain ⟨x, _, rfl⟩ := List.mem_map.1 hu
  rfl

/-- A slice's numbers, as they are read. -/
def RdI (w : World) (ad : Option Addr) (xs : List Int) : Prop :=
  ∀ j, j < xs.length → ∃ b off, ad = some ⟨b, off, none⟩ ∧ b < w.heap.size ∧ w.cell? ⟨b, off + j, none⟩ = some (.int .i64 (xs.getD j 0))

theorem RdI.nil (w : World) (ad : Option Addr) : RdI w ad [] := fun _ h => by simp at h
theorem RdI.at {w : World} {b off : Nat} {xs : List Int} (h : RdI w (some ⟨b, off, none⟩) xs) {j : Nat} (hj : j < xs.length) : w.cell? ⟨b, off + j, none⟩ = some (.int .i64 (xs.getD j 0)) := by
  obtain ⟨b', off', e, _, hc⟩ := h j hj
  cases e
  exact hc
theorem RdI.below {w w' : World} {ad : Option Addr} {xs : List Int} (h : RdI w ad xs) (hb : Below w.heap.size w w') : RdI w' ad xs := fun j hj => by
  obtain ⟨b', off', e, hl, hc⟩ := h j hj
  exact ⟨b', off', e, Nat.lt_of_lt_of_le hl hb.size, bcell hb hl hc⟩
theorem Own.rd {w : World} {g : Nat} {E : TypeId} {xs : List Int} (h : Own w g E (ints xs)) : RdI w (some ⟨g, 0, none⟩) xs := fun j hj =>
  ⟨g, 0, rfl, h.lt, by simpa using h.cell? (ints_get hj)⟩

/-! ### A list by its places -/
def tab {α : Type} (n : Nat) (f : Nat → α) : List α := (List.range n).map f
theorem tab_length {α : Type} (n : Nat) (f : Nat → α) : (tab n f).length = n := by simp [tab]
theorem tab_get {α : Type} {n : Nat} {f : Nat → α} {i : Nat} (h : i < n) : (tab n f)[i]? = some (f i) := by simp [tab, h]
theorem tab_set {α : Type} (n : Nat) (f : Nat → α) (k : Nat) (x : α) : (tab n f).set k x = tab n (fun i => if i = k then x else f i) := by
  apply List.ext_getElem?
  intro i
  by_cases hi : i < n
  · rw [List.getElem?_set, tab_get hi, tab_length, tab_get hi]
    by_cases hk : k = i
    · subst hk; simp [hi]
    · rw [if_neg hk, if_neg (fun h => hk h.symm)]
  · simp [tab, hi]
theorem tab_congr {α : Type} {n : Nat} {f g : Nat → α} (h : ∀ i, i < n → f i = g i) : tab n f = tab n g := by
  unfold tab
  exact List.map_congr_left (fun i hi => h i (by simpa using hi))
/-! ### Links -/
structure Lk where
  a : Int
  b : Int
  n : Int
def Lk.z : Lk := ⟨0, 0, 0⟩
instance : Inhabited Lk := ⟨Lk.z⟩
/-- 'make([]T, n)', T of whatever size: an equation for every world. -/
theorem run_makeN {P : Program} (t e : TypeId) (z : Value) (size bytes : Nat) (ht : P.underlying t = some (.slice e)) (hinfo : (P.info? e).map (fun i => (i.zero, i.size, i.bytes)) = some (some z, size, bytes))
    (n : Nat) (hbytes : bytes * n ≤ 281474976710656) (h63 : n ≤ 9223372036854775807) (w : World) :
    (Instr.makeSlice t (.int .i64 (n : Int)) (.int .i64 (n : Int))).run P w = .ok (.slice (some ⟨w.heap.size, 0, none⟩) n n) (w.alloc (.cells (madeCells z.cells (n * size)) e)) := by
  obtain ⟨i, hi, hzz⟩ := Option.map_eq_some_iff.1 hinfo
  simp only [Prod.mk.injEq] at hzz
  obtain ⟨hz, hs, hb⟩ := hzz
  subst hs; subst hb
  have hb' : (i.bytes : Int) * (n : Int) ≤ 281474976710656 := by
    have h : ((i.bytes * n : Nat) : Int) ≤ 281474976710656 := by omega
    rwa [Int.natCast_mul] at h
  have hr := run_make (P := P) w t e i z ht hi hz .i64 .i64 n n (by omega) (Int.le_refl _) hb' (by omega)
  simpa only [Int.toNat_natCast] using hr

/-! ### Bounds as Bools -/
def inB (n lo hi : Int) : Bool := decide (lo ≤ n) && decide (n ≤ hi)
theorem inB_t {n lo hi : Int} : inB n lo hi = true ↔ lo ≤ n ∧ n ≤ hi := by simp [inB]
/-! ### Cells and frames, step by step -/
theorem cell_alloc' {w : World} {o : Obj} {a : Addr} {v : Value} (h : w.cell? a = some v) : (w.alloc o).cell? a = some v := bcell ((Below.refl _ _).alloc (Nat.le_refl _) _) (cell_lt h) h
theorem bal_alloc {u w : World} {o : Obj} (h : Below u.heap.size u w) : Below u.heap.size u (w.alloc o) := h.alloc h.size o
theorem rem_next {i n : Nat} : Int.tmod ((i : Int) + 1) (n : Int) = (((i + 1) % n : Nat) : Int) := by
  rw [Int.tmod_eq_emod_of_nonneg (by omega)]
  rw [Int.natCast_emod]; rfl

end Go.Proofs.YtcionneopgdebaaGreat
