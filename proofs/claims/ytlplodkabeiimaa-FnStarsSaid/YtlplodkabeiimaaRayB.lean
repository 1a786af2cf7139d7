/-
  Rays and the sort of them: the comparer, the cells of a row of rays, the swap; the library's insertion sort (slices.insertionSortCmpFunc) walked. By an AI agent.
-/
import Derived.Test.YtlplodkabeiimaaLaws
import Derived.Test.YtlplodkabeiimaaStP
import Derived.Sort.AssemblyPlain
import Derived.WalkKit
import Derived.BigGuard
import Derived.BigCall
import Derived.Deep.Draws
import Derived.Deep.QuietTactic
import Derived.Deep.RegionHeld3
import Derived.BigQuiet
import Derived.StillTailTactics
namespace Go.Proofs.Ytlplodkabeiimaa
def ryV (p : Ry) : Value := .agg #[.int .i64 p.x, .int .i64 p.y, .int .i64 p.w]
namespace RaySort
open Go.RowKit
open Go.Sort (SWO swp swp_left swp_right swp_other size_swp)

def ltRy (p q : Ry) : Bool := decide (p.x < q.x) || (decide (p.x = q.x) && decide (p.y < q.y))
theorem ltRy_iff {p q : Ry} : ltRy p q = true ↔ bef p q := by simp [ltRy, bef]
def Bd (p : Ry) : Prop := -1000000000000 ≤ p.x ∧ p.x ≤ 1000000000000 ∧ -1000000000000 ≤ p.y ∧ p.y ≤ 1000000000000

theorem swo_ltRy : SWO ltRy where
  irrefl x := by simp [ltRy]
  trans x y z h1 h2 := by simp [ltRy] at *; omega
  ntrans x y z h1 h2 := by simp [ltRy] at *; omega

set_option maxHeartbeats 400000 in
theorem comparePoints_g (a b c d : Int) (w : World) (hp : (-1000000000000 ≤ a ∧ a ≤ 1000000000000) ∧ -1000000000000 ≤ b ∧ b ≤ 1000000000000) (hq : (-1000000000000 ≤ c ∧ c ≤ 1000000000000) ∧ -1000000000000 ≤ d ∧ d ≤ 1000000000000) :
    Calls Try.prog 59 #[.agg #[.int .i64 a, .int .i64 b], .agg #[.int .i64 c, .int .i64 d]] w fun e w' => e = .returned (.int .i64 (if a = c then b - d else a - c)) ∧ Below w.heap.size w w' := by
  have e1 : IntKind.i64.wrap (a - c) = a - c := i64_small (by omega) (by omega)
  have e2 : IntKind.i64.wrap (b - d) = b - d := i64_small (by omega) (by omega)
  have hb := ((Below.refl w.heap.size w).alloc (Nat.le_refl _) (.cells #[.int .i64 a, .int .i64 b] 61)).alloc (by simp) (.cells #[.int .i64 c, .int .i64 d] 61)
  by_cases h : a = c
  · subst h
    rw [if_pos rfl]
    go_enter Try.func59, Try.ntmps59
    go_wp2_with fail
    go_ret
    exact ⟨rfl, hb⟩
  · have h' : (a == c) = false := by simpa using h
    rw [if_neg h]
    go_enter Try.func59, Try.ntmps59
    go_wp2_with fail
    go_ret
    exact ⟨rfl, hb⟩

set_option maxHeartbeats 400000 in
theorem raySteps_c (a b c : Int) (w : World) :
    Calls Try.prog 60 #[.agg #[.int .i64 a, .int .i64 b, .int .i64 c]] w fun e w' => e = .returned (.agg #[.int .i64 a, .int .i64 b]) ∧ Below w.heap.size w w' := by
  go_enter Try.func60, Try.ntmps60
  go_wp2_with fail
  exact bodyPost_ret (v := .agg #[.int .i64 a, .int .i64 b]) (by simp [results, Try.results60, go_sem]) rfl ⟨rfl, ((Below.refl _ _).alloc (Nat.le_refl _) _).alloc (by simp) _⟩

set_option maxHeartbeats 800000 in
theorem compareRays_g (p q : Ry) (w : World) (hp : Bd p) (hq : Bd q) :
    Calls Try.prog 30 #[ryV p, ryV q] w fun e w' => e = .returned (.int .i64 (if p.x = q.x then p.y - q.y else p.x - q.x)) ∧ Below w.heap.size w w' := by
  obtain ⟨a, b, c⟩ := p
  obtain ⟨x, y, z⟩ := q
  unfold Bd at hp hq
  unfold ryV
  simp only at hp hq ⊢
  have CC := Lib.hid (fun w => comparePoints_g a b x y w ⟨⟨hp.1, hp.2.1⟩, hp.2.2⟩ ⟨⟨hq.1, hq.2.1⟩, hq.2.2⟩)
  have S1 := Lib.hid (raySteps_c a b c)
  have S2 := Lib.hid (raySteps_c x y z)
  generalize (if a = x then b - y else a - x) = R at CC ⊢
  clear hp hq
  have hb := ((Below.refl w.heap.size w).alloc (Nat.le_refl _) (.cells #[.int .i64 a, .int .i64 b, .int .i64 c] 35)).alloc (by simp) (.cells #[.int .i64 x, .int .i64 y, .int .i64 z] 35)
  go_enter Try.func30, Try.ntmps30
  go_wp2_with fail
  obtain ⟨wB, hwB⟩ : ∃ u : World, ((w.alloc (.cells #[.int .i64 a, .int .i64 b, .int .i64 c] 35)).alloc (.cells #[.int .i64 x, .int .i64 y, .int .i64 z] 35)) = u := ⟨_, rfl⟩
  have b0 : wB.cell? ⟨w.heap.size, 0, none⟩ = some (.int .i64 a) := by rw [← hwB]; simp [go_sem]
  have b1 : wB.cell? ⟨w.heap.size, 1, none⟩ = some (.int .i64 b) := by rw [← hwB]; simp [go_sem]
  have b2 : wB.cell? ⟨w.heap.size, 2, none⟩ = some (.int .i64 c) := by rw [← hwB]; simp [go_sem]
  have b3 : wB.cell? ⟨w.heap.size + 1, 0, none⟩ = some (.int .i64 x) := by rw [← hwB]; simp [go_sem]
  have b4 : wB.cell? ⟨w.heap.size + 1, 1, none⟩ = some (.int .i64 y) := by rw [← hwB]; simp [go_sem]
  have b5 : wB.cell? ⟨w.heap.size + 1, 2, none⟩ = some (.int .i64 z) := by rw [← hwB]; simp [go_sem]
  have bl : w.heap.size + 1 < wB.heap.size := by rw [← hwB]; simp
  rw [hwB] at hb ⊢
  clear hwB
  go_region_held3 (fun w' => (w'.cell? ⟨w.heap.size, 0, none⟩ = some (.int .i64 a) ∧ w'.cell? ⟨w.heap.size, 1, none⟩ = some (.int .i64 b) ∧ w'.cell? ⟨w.heap.size, 2, none⟩ = some (.int .i64 c)) ∧ w'.cell? ⟨w.heap.size + 1, 0, none⟩ = some (.int .i64 x) ∧ w'.cell? ⟨w.heap.size + 1, 1, none⟩ = some (.int .i64 y) ∧ w'.cell? ⟨w.heap.size + 1, 2, none⟩ = some (.int .i64 z)) (exact ⟨⟨by assumption, by assumption, by assumption⟩, by assumption, by assumption, by assumption⟩)
    (first
      | (go_at_call 60; (with_reducible refine (S1.out _).mono ?_); rintro e W1 ⟨rfl, hw1⟩; have m0 := bcell hw1 (Nat.lt_of_succ_lt bl) b0; have m1 := bcell hw1 (Nat.lt_of_succ_lt bl) b1; have m2 := bcell hw1 (Nat.lt_of_succ_lt bl) b2; have m3 := bcell hw1 bl b3; have m4 := bcell hw1 bl b4; have m5 := bcell hw1 bl b5; have l1 := Nat.lt_of_lt_of_le bl hw1.size)
      | (go_at_call 60; (with_reducible refine (S2.out _).mono ?_); rintro e W2 ⟨rfl, hw2⟩; have k0 := bcell hw2 (Nat.lt_of_succ_lt l1) m0; have k1 := bcell hw2 (Nat.lt_of_succ_lt l1) m1; have k2 := bcell hw2 (Nat.lt_of_succ_lt l1) m2; have k3 := bcell hw2 l1 m3; have k4 := bcell hw2 l1 m4; have k5 := bcell hw2 l1 m5; have l2 := Nat.lt_of_lt_of_le l1 hw2.size)
      | (go_at_call 59; (with_reducible refine (CC.out _).mono ?_); rintro e W3 ⟨rfl, hw3⟩; have n0 := bcell hw3 (Nat.lt_of_succ_lt l2) k0; have n1 := bcell hw3 (Nat.lt_of_succ_lt l2) k1; have n2 := bcell hw3 (Nat.lt_of_succ_lt l2) k2; have n3 := bcell hw3 l2 k3; have n4 := bcell hw3 l2 k4; have n5 := bcell hw3 l2 k5))
  go_wp2_with fail
  go_ret
  exact ⟨rfl, ball (ball (ball (hb.trans (Below.refl _ _).drew) hw1) hw2) hw3⟩

theorem compareRays_c (p q : Ry) (w : World) (hp : Bd p) (hq : Bd q) :
    Calls Try.prog 30 #[ryV p, ryV q] w fun e w' => (∃ r : Int, e = .returned (.int .i64 r) ∧ decide (r < 0) = ltRy p q) ∧ Below w.heap.size w w' :=
  (compareRays_g p q w hp hq).mono fun e w' h => ⟨⟨_, h.1, by unfold ltRy; split <;> rename_i hx <;> simp [hx] <;> omega⟩, h.2⟩

/-- The cells from ⟨blk, off⟩ on hold these rays; none is frozen. -/
def PH (w : World) (blk off : Nat) (d : Array Ry) : Prop := ∀ t, t < d.size → w.cell? ⟨blk, off + t * 3, none⟩ = some (.int .i64 d[t]!.x) ∧ w.cell? ⟨blk, off + t * 3 + 1, none⟩ = some (.int .i64 d[t]!.y) ∧ w.cell? ⟨blk, off + t * 3 + 2, none⟩ = some (.int .i64 d[t]!.w) ∧
  w.frozen? ⟨blk, off + t * 3, none⟩ = false ∧ w.frozen? ⟨blk, off + t * 3 + 1, none⟩ = false ∧ w.frozen? ⟨blk, off + t * 3 + 2, none⟩ = false ∧ Bd d[t]!

theorem PH.of_block {w w' : World} {blk off : Nat} {d : Array Ry} (h : PH w blk off d) (hb : w'.heap[blk]? = w.heap[blk]?) : PH w' blk off d := fun t ht => by
  obtain ⟨h1, h2, h6, h3, h4, h7, h5⟩ := h t ht
  exact ⟨by rw [← h1]; simp only [World.cell?, hb], by rw [← h2]; simp only [World.cell?, hb], by rw [← h6]; simp only [World.cell?, hb], by rw [← h3]; simp only [World.frozen?, hb], by rw [← h4]; simp only [World.frozen?, hb], by rw [← h7]; simp only [World.frozen?, hb], h5⟩
theorem PH.lt {w : World} {blk off : Nat} {d : Array Ry} (h : PH w blk off d) (h0 : 0 < d.size) : blk < w.heap.size := by
  obtain ⟨h1, _⟩ := h 0 h0
  apply Classical.byContradiction
  intro hn
  have : w.heap[blk]? = none := Array.getElem?_eq_none (by omega)
  simp [World.cell?, this] at h1
theorem PH.below {w w' : World} {blk off : Nat} {d : Array Ry} (h : PH w blk off d) (hb : Below w.heap.size w w') : PH w' blk off d := by
  by_cases h0 : 0 < d.size
  · exact h.of_block (hb.block blk (h.lt h0))
  · exact fun t ht => by omega

theorem PH.drew {w : World} {blk off : Nat} {d : Array Ry} (h : PH w blk off d) : PH w.drew blk off d := h.below (Below.refl _ _).drew

/-- The swap's stores. -/
def swapW (w : World) (blk off : Nat) (p q : Ry) (i j : Nat) : World :=
  (((((w.setCell ⟨blk, off + i * 3, none⟩ (.int .i64 q.x)).setCell ⟨blk, off + i * 3 + 1, none⟩ (.int .i64 q.y)).setCell ⟨blk, off + i * 3 + 2, none⟩ (.int .i64 q.w)).setCell ⟨blk, off + j * 3, none⟩ (.int .i64 p.x)).setCell ⟨blk, off + j * 3 + 1, none⟩ (.int .i64 p.y)).setCell ⟨blk, off + j * 3 + 2, none⟩ (.int .i64 p.w)
theorem swapW_chg (w : World) (blk off : Nat) (p q : Ry) (i j : Nat) : Chg blk w (swapW w blk off p q i j) :=
  (((((Chg.set blk _ w _).trans (Chg.set blk _ _ _)).trans (Chg.set blk _ _ _)).trans (Chg.set blk _ _ _)).trans (Chg.set blk _ _ _)).trans (Chg.set blk _ _ _)
theorem swp_get! (d : Array Ry) {i j : Nat} (hi : i < d.size) (hj : j < d.size) (k : Nat) : (swp d i j)[k]! = if k = j then d[i]! else if k = i then d[j]! else d[k]! := by
  by_cases e : k = j
  · rw [if_pos e, e]; exact swp_right d i j hj
  · rw [if_neg e]
    by_cases e2 : k = i
    · rw [if_pos e2, e2]; exact swp_left d i j hi (by omega)
    · rw [if_neg e2]; exact swp_other d i j k e2 e
theorem setc_ne {W : World} {blk off a b : Nat} {v : Value} (hab : a ≠ b) : (W.setCell ⟨blk, off + a, none⟩ v).cell? ⟨blk, off + b, none⟩ = W.cell? ⟨blk, off + b, none⟩ :=
  World.cell?_setCell_other _ _ _ _ (fun e => by injection e; omega)
/-- Three cells are stored from i on, then three from j on: what a cell then holds. -/
theorem swap_cell {W : World} {blk off i j t c : Nat} {u v : Nat → Value} (hi : ∀ m < 3, ∃ x, W.cell? ⟨blk, off + (i * 3 + m), none⟩ = some x) (hj : ∀ m < 3, ∃ x, W.cell? ⟨blk, off + (j * 3 + m), none⟩ = some x) (hc : c < 3) :
    ((((((W.setCell ⟨blk, off + (i * 3 + 0), none⟩ (u 0)).setCell ⟨blk, off + (i * 3 + 1), none⟩ (u 1)).setCell ⟨blk, off + (i * 3 + 2), none⟩ (u 2)).setCell ⟨blk, off + (j * 3 + 0), none⟩ (v 0)).setCell ⟨blk, off + (j * 3 + 1), none⟩ (v 1)).setCell ⟨blk, off + (j * 3 + 2), none⟩ (v 2)).cell? ⟨blk, off + (t * 3 + c), none⟩
      = if t = j then some (v c) else if t = i then some (u c) else W.cell? ⟨blk, off + (t * 3 + c), none⟩ := by
  have ex : ∀ {W : World} {a b : Nat} {x : Value}, (∃ y, W.cell? ⟨blk, off + b, none⟩ = some y) → ∃ y, (W.setCell ⟨blk, off + a, none⟩ x).cell? ⟨blk, off + b, none⟩ = some y := by
    intro W a b x ⟨y, hy⟩
    by_cases e : a = b
    · subst e; exact ⟨x, World.cell?_setCell_same _ _ _ hy⟩
    · exact ⟨y, by rw [setc_ne e]; exact hy⟩
  have st : ∀ {W : World} {a : Nat} {x : Value}, (∃ y, W.cell? ⟨blk, off + a, none⟩ = some y) → (W.setCell ⟨blk, off + a, none⟩ x).cell? ⟨blk, off + a, none⟩ = some x := fun ⟨y, hy⟩ => World.cell?_setCell_same _ _ _ hy
  have hI : ∀ m < 3, ∃ x, ((((W.setCell ⟨blk, off + (i * 3 + 0), none⟩ (u 0)).setCell ⟨blk, off + (i * 3 + 1), none⟩ (u 1)).setCell ⟨blk, off + (i * 3 + 2), none⟩ (u 2))).cell? ⟨blk, off + (j * 3 + m), none⟩ = some x := fun m hm => ex (ex (ex (hj m hm)))
  by_cases e : t = j
  · subst e
    rw [if_pos rfl]
    rcases (show c = 0 ∨ c = 1 ∨ c = 2 by omega) with rfl | rfl | rfl
    · rw [setc_ne (by omega), setc_ne (by omega)]; exact st (hI 0 (by omega))
    · rw [setc_ne (by omega)]; exact st (ex (hI 1 (by omega)))
    · exact st (ex (ex (hI 2 (by omega))))
  · rw [if_neg e, setc_ne (by omega), setc_ne (by omega), setc_ne (by omega)]
    by_cases e2 : t = i
    · subst e2
      rw [if_pos rfl]
      rcases (show c = 0 ∨ c = 1 ∨ c = 2 by omega) with rfl | rfl | rfl
      · rw [setc_ne (by omega), setc_ne (by omega)]; exact st (hi 0 (by omega))
      · rw [setc_ne (by omega)]; exact st (ex (hi 1 (by omega)))
      · exact st (ex (ex (hi 2 (by omega))))
    · rw [if_neg e2, setc_ne (by omega), setc_ne (by omega), setc_ne (by omega)]
def ryC (p : Ry) (m : Nat) : Value := if m = 0 then .int .i64 p.x else if m = 1 then .int .i64 p.y else .int .i64 p.w
theorem PH.swap {w : World} {blk off : Nat} {d : Array Ry} (h : PH w blk off d) {i j : Nat} (hi : i < d.size) (hj : j < d.size) : PH (swapW w blk off d[i]! d[j]! i j) blk off (swp d i j) := fun t ht => by
  rw [size_swp] at ht
  obtain ⟨h1, h2, h6, h3, h4, h7, h5⟩ := h t ht
  obtain ⟨i1, i2, i6, _, _, _, i5⟩ := h i hi
  obtain ⟨j1, j2, j6, _, _, _, j5⟩ := h j hj
  rw [swp_get! d hi hj t]
  have hI : ∀ m < 3, ∃ x, w.cell? ⟨blk, off + (i * 3 + m), none⟩ = some x := fun m hm => by
    rcases (show m = 0 ∨ m = 1 ∨ m = 2 by omega) with rfl | rfl | rfl
    · exact ⟨_, i1⟩
    · exact ⟨_, i2⟩
    · exact ⟨_, i6⟩
  have hJ : ∀ m < 3, ∃ x, w.cell? ⟨blk, off + (j * 3 + m), none⟩ = some x := fun m hm => by
    rcases (show m = 0 ∨ m = 1 ∨ m = 2 by omega) with rfl | rfl | rfl
    · exact ⟨_, j1⟩
    · exact ⟨_, j2⟩
    · exact ⟨_, j6⟩
  have K := fun c hc => swap_cell (W := w) (blk := blk) (off := off) (i := i) (j := j) (t := t) (c := c) (u := ryC d[j]!) (v := ryC d[i]!) hI hJ hc
  have k0 := K 0 (by omega); have k1 := K 1 (by omega); have k2 := K 2 (by omega)
  refine ⟨k0.trans ?_, k1.trans ?_, k2.trans ?_, ?_, ?_, ?_, ?_⟩
  · split
    · rfl
    · split
      · rfl
      · exact h1
  · split
    · rfl
    · split
      · rfl
      · exact h2
  · split
    · rfl
    · split
      · rfl
      · exact h6
  · unfold swapW; simp only [World.frozen?_setCell]; exact h3
  · unfold swapW; simp only [World.frozen?_setCell]; exact h4
  · unfold swapW; simp only [World.frozen?_setCell]; exact h7
  · split
    · exact i5
    · split
      · exact j5
      · exact h5

end RaySort
end Go.Proofs.Ytlplodkabeiimaa
