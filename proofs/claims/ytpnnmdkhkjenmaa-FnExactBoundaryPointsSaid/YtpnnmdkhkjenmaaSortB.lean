/-
  Points and the sort of them: the comparer, the cells of a row of points, the swap; the library's insertion sort (slices.insertionSortCmpFunc) walked. By an AI agent.
-/
import Derived.Test.YtpnnmdkhkjenmaaLaws
import Derived.Sort.AssemblyPlain
import Derived.WalkKit
import Derived.BigGuard
import Derived.BigCall
import Derived.Deep.Draws
import Derived.Deep.QuietTactic
import Derived.Deep.RegionHeld3
import Derived.BigQuiet
import Derived.StillTailTactics
namespace Go.Proofs.Ytpnnmdkhkjenmaa
open Go.RowKit
open Go.Sort (SWO swp swp_left swp_right swp_other size_swp)

structure Pt where
  x : Int
  y : Int
  deriving Inhabited, DecidableEq

def ltPt (p q : Pt) : Bool := decide (p.x < q.x) || (decide (p.x = q.x) && decide (p.y < q.y))
def Bd (p : Pt) : Prop := -1000000000000 ≤ p.x ∧ p.x ≤ 1000000000000 ∧ -1000000000000 ≤ p.y ∧ p.y ≤ 1000000000000
def ptV (p : Pt) : Value := .agg #[.int .i64 p.x, .int .i64 p.y]

theorem swo_ltPt : SWO ltPt where
  irrefl x := by simp [ltPt]
  trans x y z h1 h2 := by simp [ltPt] at *; omega
  ntrans x y z h1 h2 := by simp [ltPt] at *; omega
theorem ltPt_eq {x y : Pt} (h1 : ltPt x y = false) (h2 : ltPt y x = false) : x = y := by
  obtain ⟨a, b⟩ := x
  obtain ⟨c, d⟩ := y
  simp [ltPt] at *
  omega

set_option maxHeartbeats 400000 in
theorem comparePoints_c (p q : Pt) (w : World) (hp : Bd p) (hq : Bd q) :
    Calls Try.prog 44 #[ptV p, ptV q] w fun e w' => (∃ r : Int, e = .returned (.int .i64 r) ∧ decide (r < 0) = ltPt p q) ∧ Below w.heap.size w w' := by
  obtain ⟨a, b⟩ := p
  obtain ⟨c, d⟩ := q
  unfold Bd at hp hq
  simp only at hp hq
  have e1 : IntKind.i64.wrap (a - c) = a - c := i64_small (by omega) (by omega)
  have e2 : IntKind.i64.wrap (b - d) = b - d := i64_small (by omega) (by omega)
  have hb := ((Below.refl w.heap.size w).alloc (Nat.le_refl _) (.cells #[.int .i64 a, .int .i64 b] 33)).alloc (by simp) (.cells #[.int .i64 c, .int .i64 d] 33)
  unfold ptV
  by_cases h : a = c
  · subst h
    go_enter Try.func44, Try.ntmps44
    go_wp2_with fail
    go_ret
    exact ⟨⟨_, rfl, by simp [ltPt]; omega⟩, hb⟩
  · have h' : (a == c) = false := by simpa using h
    go_enter Try.func44, Try.ntmps44
    go_wp2_with fail
    go_ret
    exact ⟨⟨_, rfl, by simp [ltPt, h]; omega⟩, hb⟩

/-- The cells from ⟨blk, off⟩ on hold these points; none is frozen. -/
def PH (w : World) (blk off : Nat) (d : Array Pt) : Prop := ∀ t, t < d.size → w.cell? ⟨blk, off + t * 2, none⟩ = some (.int .i64 d[t]!.x) ∧ w.cell? ⟨blk, off + t * 2 + 1, none⟩ = some (.int .i64 d[t]!.y) ∧
  w.frozen? ⟨blk, off + t * 2, none⟩ = false ∧ w.frozen? ⟨blk, off + t * 2 + 1, none⟩ = false ∧ Bd d[t]!

theorem PH.of_block {w w' : World} {blk off : Nat} {d : Array Pt} (h : PH w blk off d) (hb : w'.heap[blk]? = w.heap[blk]?) : PH w' blk off d := fun t ht => by
  obtain ⟨h1, h2, h3, h4, h5⟩ := h t ht
  exact ⟨by rw [← h1]; simp only [World.cell?, hb], by rw [← h2]; simp only [World.cell?, hb], by rw [← h3]; simp only [World.frozen?, hb], by rw [← h4]; simp only [World.frozen?, hb], h5⟩
theorem PH.lt {w : World} {blk off : Nat} {d : Array Pt} (h : PH w blk off d) (h0 : 0 < d.size) : blk < w.heap.size := by
  obtain ⟨h1, _⟩ := h 0 h0
  apply Classical.byContradiction
  intro hn
  have : w.heap[blk]? = none := Array.getElem?_eq_none (by omega)
  simp [World.cell?, this] at h1
theorem PH.below {w w' : World} {blk off : Nat} {d : Array Pt} (h : PH w blk off d) (hb : Below w.heap.size w w') : PH w' blk off d := by
  by_cases h0 : 0 < d.size
  · exact h.of_block (hb.block blk (h.lt h0))
  · exact fun t ht => by omega

theorem PH.drew {w : World} {blk off : Nat} {d : Array Pt} (h : PH w blk off d) : PH w.drew blk off d := h.below (Below.refl _ _).drew

/-- The swap's stores. -/
def swapW (w : World) (blk off : Nat) (p q : Pt) (i j : Nat) : World :=
  (((w.setCell ⟨blk, off + i * 2, none⟩ (.int .i64 q.x)).setCell ⟨blk, off + i * 2 + 1, none⟩ (.int .i64 q.y)).setCell ⟨blk, off + j * 2, none⟩ (.int .i64 p.x)).setCell ⟨blk, off + j * 2 + 1, none⟩ (.int .i64 p.y)
theorem swapW_chg (w : World) (blk off : Nat) (p q : Pt) (i j : Nat) : Chg blk w (swapW w blk off p q i j) :=
  (((Chg.set blk _ w _).trans (Chg.set blk _ _ _)).trans (Chg.set blk _ _ _)).trans (Chg.set blk _ _ _)
theorem swp_get! (d : Array Pt) {i j : Nat} (hi : i < d.size) (hj : j < d.size) (k : Nat) : (swp d i j)[k]! = if k = j then d[i]! else if k = i then d[j]! else d[k]! := by
  by_cases e : k = j
  · rw [if_pos e, e]; exact swp_right d i j hj
  · rw [if_neg e]
    by_cases e2 : k = i
    · rw [if_pos e2, e2]; exact swp_left d i j hi (by omega)
    · rw [if_neg e2]; exact swp_other d i j k e2 e
theorem PH.swap {w : World} {blk off : Nat} {d : Array Pt} (h : PH w blk off d) {i j : Nat} (hi : i < d.size) (hj : j < d.size) : PH (swapW w blk off d[i]! d[j]! i j) blk off (swp d i j) := fun t ht => by
  rw [size_swp] at ht
  obtain ⟨h1, h2, h3, h4, h5⟩ := h t ht
  obtain ⟨i1, i2, _, _, i5⟩ := h i hi
  obtain ⟨j1, j2, _, _, j5⟩ := h j hj
  rw [swp_get! d hi hj t]
  have ne : ∀ {a b : Nat}, a ≠ b → (⟨blk, off + a, none⟩ : Addr) ≠ ⟨blk, off + b, none⟩ := fun h e => by injection e; omega
  have c : ∀ (W : World) (a b : Nat) (v : Value), a ≠ b → (W.setCell ⟨blk, off + a, none⟩ v).cell? ⟨blk, off + b, none⟩ = W.cell? ⟨blk, off + b, none⟩ := fun W a b v hab => World.cell?_setCell_other _ _ _ _ (ne hab)
  unfold swapW
  simp only [Nat.add_assoc] at h1 h2 h3 h4 i1 i2 j1 j2 ⊢
  simp only [World.frozen?_setCell]
  refine ⟨?_, ?_, h3, h4, ?_⟩
  · by_cases e : t = j
    · subst e
      rw [if_pos rfl, c _ _ _ _ (by omega)]
      by_cases e2 : t = i
      · subst e2
        exact World.cell?_setCell_same _ _ _ (by rw [c _ _ _ _ (by omega)]; exact World.cell?_setCell_same _ _ _ j1)
      · exact World.cell?_setCell_same _ _ _ (by rw [c _ _ _ _ (by omega), c _ _ _ _ (by omega)]; exact j1)
    · rw [if_neg e, c _ _ _ _ (by omega), c _ _ _ _ (by omega), c _ _ _ _ (by omega)]
      by_cases e2 : t = i
      · subst e2; rw [if_pos rfl]; exact World.cell?_setCell_same _ _ _ i1
      · rw [if_neg e2, c _ _ _ _ (by omega)]; exact h1
  · by_cases e : t = j
    · subst e
      rw [if_pos rfl]
      by_cases e2 : t = i
      · subst e2
        exact World.cell?_setCell_same _ _ _ (by rw [c _ _ _ _ (by omega)]; exact World.cell?_setCell_same _ _ _ (by rw [c _ _ _ _ (by omega)]; exact j2))
      · exact World.cell?_setCell_same _ _ _ (by rw [c _ _ _ _ (by omega), c _ _ _ _ (by omega), c _ _ _ _ (by omega)]; exact j2)
    · rw [if_neg e, c _ _ _ _ (by omega), c _ _ _ _ (by omega)]
      by_cases e2 : t = i
      · subst e2; rw [if_pos rfl]; exact World.cell?_setCell_same _ _ _ (by rw [c _ _ _ _ (by omega)]; exact i2)
      · rw [if_neg e2, c _ _ _ _ (by omega), c _ _ _ _ (by omega)]; exact h2
  · split
    · exact i5
    · split
      · exact j5
      · exact h5

end Go.Proofs.Ytpnnmdkhkjenmaa
