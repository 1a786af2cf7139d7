/-
  Some texts of this proof in one: TmsB TmsI. Each part tells what it proves. By an AI agent.
-/
import Derived.Test.YtbafgmicpopnoaaGreatDoorLaws
import Derived.Sort.AssemblyPlain
import Derived.WalkKit
import Derived.BigGuard
import Derived.BigCall
import Derived.Deep.Draws
import Derived.Deep.QuietTactic
import Derived.Deep.RegionHeld3
import Derived.BigQuiet
import Derived.StillTailTactics

/-
  Terms and the sort of them: the comparer, the cells of a row of terms, the swap. By an AI agent. Printed by gen_tms.py.
-/
namespace Go.Proofs.YtbafgmicpopnoaaGreatDoor
def tmV (p : Tm) : Value := .agg #[.int .i64 p.i, .int .i64 p.j, .int .i64 p.c]
namespace TmsSort
open Go.RowKit
open Go.Sort (SWO swp swp_left swp_right swp_other size_swp)

def Bd (p : Tm) : Prop := (-1000000000000 ≤ p.i ∧ p.i ≤ 1000000000000) ∧ (-1000000000000 ≤ p.j ∧ p.j ≤ 1000000000000) ∧ -1000000000000 ≤ p.c ∧ p.c ≤ 1000000000000
theorem swo_ltTm : SWO ltTm where
  irrefl x := by simp [ltTm]
  trans x y z h1 h2 := by simp [ltTm] at *; omega
  ntrans x y z h1 h2 := by simp [ltTm] at *; omega

set_option maxHeartbeats 400000 in
theorem compareTerms_g (p q : Tm) (w : World) (hp : Bd p) (hq : Bd q) :
    Calls Tryz.prog 54 #[tmV p, tmV q] w fun e w' => e = .returned (.int .i64 (if p.i = q.i then p.j - q.j else p.i - q.i)) ∧ Below w.heap.size w w' := by
  obtain ⟨a, b, c⟩ := p
  obtain ⟨d, e, f⟩ := q
  unfold Bd at hp hq
  unfold tmV
  simp only at hp hq ⊢
  have e1 : IntKind.i64.wrap (a - d) = a - d := i64_small (by omega) (by omega)
  have e2 : IntKind.i64.wrap (b - e) = b - e := i64_small (by omega) (by omega)
  have hb := ((Below.refl w.heap.size w).alloc (Nat.le_refl _) (.cells #[.int .i64 a, .int .i64 b, .int .i64 c] 43)).alloc (by simp) (.cells #[.int .i64 d, .int .i64 e, .int .i64 f] 43)
  clear hp hq
  by_cases h : a = d
  · subst h
    rw [if_pos rfl]
    go_enter Tryz.func54, Tryz.ntmps54
    go_wp2_with fail
    go_ret
    exact ⟨rfl, hb⟩
  · have h' : (a == d) = false := by simpa using h
    rw [if_neg h]
    go_enter Tryz.func54, Tryz.ntmps54
    go_wp2_with fail
    go_ret
    exact ⟨rfl, hb⟩

set_option maxHeartbeats 800000 in
theorem cmpTm_c (p q : Tm) (w : World) (hp : Bd p) (hq : Bd q) :
    Calls Tryz.prog 57 #[tmV p, tmV q] w fun e w' => (∃ r : Int, e = .returned (.int .i64 r) ∧ decide (r < 0) = ltTm p q) ∧ Below w.heap.size w w' := by
  have C := Lib.hid (fun w => compareTerms_g p q w hp hq)
  obtain ⟨a, b, c⟩ := p
  obtain ⟨x, y, z⟩ := q
  unfold Bd at hp hq
  unfold tmV at C ⊢
  simp only at hp hq C ⊢
  have HB := Lib.hid (And.intro hp hq)
  have HL := Lib.hid (show ltTm ⟨a, b, c⟩ ⟨x, y, z⟩ = decide ((if (if a = x then b - y else a - x) = 0 then c - z else (if a = x then b - y else a - x)) < 0) by
    unfold ltTm
    by_cases h1 : a = x
    · by_cases h2 : b = y
      · simp [h1, h2]
        first | omega | (rw [Bool.eq_iff_iff]; simp; omega)
      · simp [h1, h2]
        first | omega | (rw [if_neg (by omega)]; omega) | (rw [Bool.eq_iff_iff]; simp; omega)
    · simp [h1]
      first | omega | (rw [if_neg (by omega)]; omega) | (rw [Bool.eq_iff_iff]; simp; omega))
  rw [HL.out]
  have e1 : IntKind.i64.wrap (c - z) = c - z := i64_small (by omega) (by omega)
  clear hp hq
  generalize (if a = x then b - y else a - x) = R at C ⊢
  have hb := ((Below.refl w.heap.size w).alloc (Nat.le_refl _) (.cells #[.int .i64 a, .int .i64 b, .int .i64 c] 43)).alloc (by simp) (.cells #[.int .i64 x, .int .i64 y, .int .i64 z] 43)
  obtain ⟨wB, hwB⟩ : ∃ u : World, ((w.alloc (.cells #[.int .i64 a, .int .i64 b, .int .i64 c] 43)).alloc (.cells #[.int .i64 x, .int .i64 y, .int .i64 z] 43)) = u := ⟨_, rfl⟩
  have b0 : wB.cell? ⟨w.heap.size, 0, none⟩ = some (.int .i64 a) := by rw [← hwB]; simp [go_sem]
  have b1 : wB.cell? ⟨w.heap.size, 1, none⟩ = some (.int .i64 b) := by rw [← hwB]; simp [go_sem]
  have b2 : wB.cell? ⟨w.heap.size, 2, none⟩ = some (.int .i64 c) := by rw [← hwB]; simp [go_sem]
  have b3 : wB.cell? ⟨w.heap.size + 1, 0, none⟩ = some (.int .i64 x) := by rw [← hwB]; simp [go_sem]
  have b4 : wB.cell? ⟨w.heap.size + 1, 1, none⟩ = some (.int .i64 y) := by rw [← hwB]; simp [go_sem]
  have b5 : wB.cell? ⟨w.heap.size + 1, 2, none⟩ = some (.int .i64 z) := by rw [← hwB]; simp [go_sem]
  have bl : w.heap.size + 1 < wB.heap.size := by rw [← hwB]; simp
  have bl0 : w.heap.size < wB.heap.size := by omega
  by_cases h0 : R = 0
  · subst h0
    rw [if_pos rfl]
    go_enter Tryz.func57, Tryz.ntmps57
    go_wp2_with fail
    try rw [hwB]
    rw [hwB] at hb
    clear hwB
    refine (C.out _).mono ?_
    rintro e w1 ⟨rfl, hw1⟩
    have m2 := bcell hw1 bl0 b2
    have m5 := bcell hw1 bl b5
    clear b2 b5
    go_wp2_with fail
    go_ret
    exact ⟨⟨_, rfl, rfl⟩, ball hb hw1⟩
  · have h0' : (R == 0) = false := beq_eq_false_iff_ne.2 h0
    rw [if_neg h0]
    go_enter Tryz.func57, Tryz.ntmps57
    go_wp2_with fail
    try rw [hwB]
    rw [hwB] at hb
    clear hwB
    refine (C.out _).mono ?_
    rintro e w1 ⟨rfl, hw1⟩
    go_wp2_with fail
    go_ret
    exact ⟨⟨_, rfl, rfl⟩, ball hb hw1⟩

/-- The cells from ⟨blk, off⟩ on hold these terms; none is frozen. -/
def PH (w : World) (blk off : Nat) (d : Array Tm) : Prop := ∀ t, t < d.size → w.cell? ⟨blk, off + t * 3, none⟩ = some (.int .i64 d[t]!.i) ∧ w.cell? ⟨blk, off + t * 3 + 1, none⟩ = some (.int .i64 d[t]!.j) ∧ w.cell? ⟨blk, off + t * 3 + 2, none⟩ = some (.int .i64 d[t]!.c) ∧
  w.frozen? ⟨blk, off + t * 3, none⟩ = false ∧ w.frozen? ⟨blk, off + t * 3 + 1, none⟩ = false ∧ w.frozen? ⟨blk, off + t * 3 + 2, none⟩ = false ∧ Bd d[t]!

theorem PH.of_block {w w' : World} {blk off : Nat} {d : Array Tm} (h : PH w blk off d) (hb : w'.heap[blk]? = w.heap[blk]?) : PH w' blk off d := fun t ht => by
  obtain ⟨h1, h2, h6, h3, h4, h7, h5⟩ := h t ht
  exact ⟨by rw [← h1]; simp only [World.cell?, hb], by rw [← h2]; simp only [World.cell?, hb], by rw [← h6]; simp only [World.cell?, hb], by rw [← h3]; simp only [World.frozen?, hb], by rw [← h4]; simp only [World.frozen?, hb], by rw [← h7]; simp only [World.frozen?, hb], h5⟩
theorem PH.lt {w : World} {blk off : Nat} {d : Array Tm} (h : PH w blk off d) (h0 : 0 < d.size) : blk < w.heap.size := by
  obtain ⟨h1, _⟩ := h 0 h0
  apply Classical.byContradiction
  intro hn
  have : w.heap[blk]? = none := Array.getElem?_eq_none (by omega)
  simp [World.cell?, this] at h1
theorem PH.below {w w' : World} {blk off : Nat} {d : Array Tm} (h : PH w blk off d) (hb : Below w.heap.size w w') : PH w' blk off d := by
  by_cases h0 : 0 < d.size
  · exact h.of_block (hb.block blk (h.lt h0))
  · exact fun t ht => by omega

theorem PH.drew {w : World} {blk off : Nat} {d : Array Tm} (h : PH w blk off d) : PH w.drew blk off d := h.below (Below.refl _ _).drew

/-- The swap's stores. -/
def swapW (w : World) (blk off : Nat) (p q : Tm) (i j : Nat) : World :=
  (((((w.setCell ⟨blk, off + i * 3, none⟩ (.int .i64 q.i)).setCell ⟨blk, off + i * 3 + 1, none⟩ (.int .i64 q.j)).setCell ⟨blk, off + i * 3 + 2, none⟩ (.int .i64 q.c)).setCell ⟨blk, off + j * 3, none⟩ (.int .i64 p.i)).setCell ⟨blk, off + j * 3 + 1, none⟩ (.int .i64 p.j)).setCell ⟨blk, off + j * 3 + 2, none⟩ (.int .i64 p.c)
theorem swapW_chg (w : World) (blk off : Nat) (p q : Tm) (i j : Nat) : Chg blk w (swapW w blk off p q i j) :=
  (((((Chg.set blk _ w _).trans (Chg.set blk _ _ _)).trans (Chg.set blk _ _ _)).trans (Chg.set blk _ _ _)).trans (Chg.set blk _ _ _)).trans (Chg.set blk _ _ _)
theorem swp_get! (d : Array Tm) {i j : Nat} (hi : i < d.size) (hj : j < d.size) (k : Nat) : (swp d i j)[k]! = if k = j then d[i]! else if k = i then d[j]! else d[k]! := by
  by_cases e : k = j
  · rw [if_pos e, e]; exact swp_right d i j hj
  · rw [if_neg e]
    by_cases e2 : k = i
    · rw [if_pos e2, e2]; exact swp_left d i j hi (by omega)
    · rw [if_neg e2]; exact swp_other d i j k e2 e
theorem setc_ne {W : World} {blk off a b : Nat} {v : Value} (hab : a ≠ b) : (W.setCell ⟨blk, off + a, none⟩ v).cell? ⟨blk, off + b, none⟩ = W.cell? ⟨blk, off + b, none⟩ :=
  World.cell?_setCell_other _ _ _ _ (fun e => by injection e; omega)
/-- Three cells are stored from i on, then three from j on: what a cell then holds. -/
theorem swap_cell {W : World} {blk off i j t c : Nat} {u v : Nat → Value} (hi : ∀ m < 3, ∃ x, W.cell? ⟨blk, off + (i * 3 + m), none⟩ = some x) (hj : ∀ m < 3, ∃ x, W.cell? ⟨blk, off + (j * 3 + m), none⟩ = some x) (hc : c < 3) :
    ((((((W.setCell ⟨blk, off + (i * 3 + 0), none⟩ (u 0)).setCell ⟨blk, off + (i * 3 + 1), none⟩ (u 1)).setCell ⟨blk, off + (i * 3 + 2), none⟩ (u 2)).setCell ⟨blk, off + (j * 3 + 0), none⟩ (v 0)).setCell ⟨blk, off + (j * 3 + 1), none⟩ (v 1)).setCell ⟨blk, off + (j * 3 + 2), none⟩ (v 2)).cell? ⟨blk, off + (t * 3 + c), none⟩
      = if t = j then some (v c) else if t = i then some (u c) else W.cell? ⟨blk, off + (t * 3 + c), none⟩ := by
  have ex : ∀ {W : World} {a b : Nat} {x : Value}, (∃ y, W.cell? ⟨blk, off + b, none⟩ = some y) → ∃ y, (W.setCell ⟨blk, off + a, none⟩ x).cell? ⟨blk, off + b, none⟩ = some y := by
    intro W a b x ⟨y, hy⟩
    by_cases e : a = b
    · subst e; exact ⟨x, World.cell?_setCell_same _ _ _ hy⟩
    · exact ⟨y, by rw [setc_ne e]; exact hy⟩
  have st : ∀ {W : World} {a : Nat} {x : Value}, (∃ y, W.cell? ⟨blk, off + a, none⟩ = some y) → (W.setCell ⟨blk, off + a, none⟩ x).cell? ⟨blk, off + a, none⟩ = some x := fun ⟨y, hy⟩ => World.cell?_setCell_same _ _ _ hy
  have hI : ∀ m < 3, ∃ x, ((((W.setCell ⟨blk, off + (i * 3 + 0), none⟩ (u 0)).setCell ⟨blk, off + (i * 3 + 1), none⟩ (u 1)).setCell ⟨blk, off + (i * 3 + 2), none⟩ (u 2))).cell? ⟨blk, off + (j * 3 + m), none⟩ = some x := fun m hm => ex (ex (ex (hj m hm)))
  by_cases e : t = j
  · subst e
    rw [if_pos rfl]
    rcases (show c = 0 ∨ c = 1 ∨ c = 2 by omega) with rfl | rfl | rfl
    · rw [setc_ne (by omega), setc_ne (by omega)]; exact st (hI 0 (by omega))
    · rw [setc_ne (by omega)]; exact st (ex (hI 1 (by omega)))
    · exact st (ex (ex (hI 2 (by omega))))
  · rw [if_neg e, setc_ne (by omega), setc_ne (by omega), setc_ne (by omega)]
    by_cases e2 : t = i
    · subst e2
      rw [if_pos rfl]
      rcases (show c = 0 ∨ c = 1 ∨ c = 2 by omega) with rfl | rfl | rfl
      · rw [setc_ne (by omega), setc_ne (by omega)]; exact st (hi 0 (by omega))
      · rw [setc_ne (by omega)]; exact st (ex (hi 1 (by omega)))
      · exact st (ex (ex (hi 2 (by omega))))
    · rw [if_neg e2, setc_ne (by omega), setc_ne (by omega), setc_ne (by omega)]
def tmC (p : Tm) (m : Nat) : Value := if m = 0 then .int .i64 p.i else if m = 1 then .int .i64 p.j else .int .i64 p.c
theorem PH.swap {w : World} {blk off : Nat} {d : Array Tm} (h : PH w blk off d) {i j : Nat} (hi : i < d.size) (hj : j < d.size) : PH (swapW w blk off d[i]! d[j]! i j) blk off (swp d i j) := fun t ht => by
  rw [size_swp] at ht
  obtain ⟨h1, h2, h6, h3, h4, h7, h5⟩ := h t ht
  obtain ⟨i1, i2, i6, _, _, _, i5⟩ := h i hi
  obtain ⟨j1, j2, j6, _, _, _, j5⟩ := h j hj
  rw [swp_get! d hi hj t]
  have hI : ∀ m < 3, ∃ x, w.cell? ⟨blk, off + (i * 3 + m), none⟩ = some x := fun m hm => by
    rcases (show m = 0 ∨ m = 1 ∨ m = 2 by omega) with rfl | rfl | rfl
    · exact ⟨_, i1⟩
    · exact ⟨_, i2⟩
    · exact ⟨_, i6⟩
  have hJ : ∀ m < 3, ∃ x, w.cell? ⟨blk, off + (j * 3 + m), none⟩ = some x := fun m hm => by
    rcases (show m = 0 ∨ m = 1 ∨ m = 2 by omega) with rfl | rfl | rfl
    · exact ⟨_, j1⟩
    · exact ⟨_, j2⟩
    · exact ⟨_, j6⟩
  have K := fun c hc => swap_cell (W := w) (blk := blk) (off := off) (i := i) (j := j) (t := t) (c := c) (u := tmC d[j]!) (v := tmC d[i]!) hI hJ hc
  have k0 := K 0 (by omega); have k1 := K 1 (by omega); have k2 := K 2 (by omega)
  refine ⟨k0.trans ?_, k1.trans ?_, k2.trans ?_, ?_, ?_, ?_, ?_⟩
  · split
    · rfl
    · split
      · rfl
      · exact h1
  · split
    · rfl
    · split
      · rfl
      · exact h2
  · split
    · rfl
    · split
      · rfl
      · exact h6
  · unfold swapW; simp only [World.frozen?_setCell]; exact h3
  · unfold swapW; simp only [World.frozen?_setCell]; exact h4
  · unfold swapW; simp only [World.frozen?_setCell]; exact h7
  · split
    · exact i5
    · split
      · exact j5
      · exact h5

end TmsSort
end Go.Proofs.YtbafgmicpopnoaaGreatDoor

/-
  The library's insertion sort over terms, walked. By an AI agent.
-/
namespace Go.Proofs.YtbafgmicpopnoaaGreatDoor
namespace TmsSort
open Go.RowKit
open Go.Sort (SWO swp swp_left swp_right swp_other size_swp insInner insOuter)

def cmpV : Value := .func (.func 57) #[] #[]

section
variable {α : Type} [Inhabited α] (lt : α → α → Bool)
theorem insInner_go (a j : Nat) (d : Array α) (hj : a < j) (hl : lt d[j]! d[j - 1]! = true) : insInner lt a j d = insInner lt a (j - 1) (swp d j (j - 1)) := by
  obtain ⟨k, rfl⟩ : ∃ k, j = k + 1 := ⟨j - 1, by omega⟩
  rw [insInner]
  simp only [Nat.add_sub_cancel] at hl ⊢
  simp [hj, hl]
theorem insInner_stop (a j : Nat) (d : Array α) (h : j ≤ a ∨ lt d[j]! d[j - 1]! = false) : insInner lt a j d = d := by
  cases j with
  | zero => rw [insInner]
  | succ k =>
    rw [insInner]
    simp only [Nat.add_sub_cancel] at h
    rcases h with h | h
    · simp [show ¬ k + 1 > a by omega]
    · simp [h]
theorem insOuter_go (a b i : Nat) (d : Array α) (h : i < b) : insOuter lt a b i d = insOuter lt a b (i + 1) (insInner lt a i d) := by rw [insOuter, if_pos h]
theorem insOuter_stop (a b i : Nat) (d : Array α) (h : ¬ i < b) : insOuter lt a b i d = d := by rw [insOuter, if_neg h]
end

/-- What the sort's functions do. -/
def SortsTo (w : World) (blk off n : Nat) (d' : Array Tm) (e : Ending) (w' : World) : Prop := e = .returned (.tuple #[]) ∧ PH w' blk off d' ∧ Chg blk w w' ∧ d'.size = n

set_option maxHeartbeats 1600000 in
set_option maxRecDepth 100000 in
theorem insertionSort_c (blk off cap a b : Nat) (d : Array Tm) (w : World) (hH : PH w blk off d) (hab : a ≤ b) (hb : b ≤ d.size) (hsz : d.size < 2305843009213693952) :
    Calls Tryz.prog 90 #[.slice (some ⟨blk, off, none⟩) d.size cap, .int .i64 a, .int .i64 b, cmpV] w (SortsTo w blk off d.size (Sort.insertionSort ltTm d a b)) := by
  have HP := Lib.hid hH; clear hH
  unfold cmpV
  go_enter Tryz.func90, Tryz.ntmps90
  go_wp2_with fail
  go_loopw [8] (fun vi wr => ∃ (i : Nat) (dk : Array Tm), vi = .int .i64 i ∧ a < i ∧ i ≤ b + 1 ∧ dk.size = d.size ∧ PH wr blk off dk ∧ Chg blk w wr ∧ insOuter ltTm a b i dk = insOuter ltTm a b (a + 1) d) (fun vi _ => b + 1 - (intOf vi).toNat)
  case atStart => exact ⟨a + 1, d, by go_num, by omega, by omega, rfl, HP.out, Chg.refl _ _, rfl⟩
  case round =>
    obtain ⟨i, dk, rfl, hai, hib, hsk, hph, hchg, hO⟩ := hrel
    have HO := Lib.hid hO; clear hO
    have HK := Lib.hid hph; clear hph
    have HSK := Lib.hid hsk; clear hsk
    by_cases hlt : i < b
    case neg =>
      go_wp2_with fail
      go_end0
      refine ⟨rfl, ?_, hchg, ?_⟩
      all_goals unfold Sort.insertionSort
      all_goals rw [← HO.out, insOuter_stop _ _ _ _ _ hlt]
      · exact HK.out
      · exact HSK.out
    case pos =>
      go_wp2_with fail
      go_loopw [9] (fun vj wr2 => ∃ (j : Nat) (dj : Array Tm), vj = .int .i64 j ∧ a ≤ j ∧ j ≤ i ∧ dj.size = d.size ∧ PH wr2 blk off dj ∧ Chg blk w wr2 ∧ insInner ltTm a j dj = insInner ltTm a i dk) (fun vj _ => (intOf vj).toNat)
      case atStart => exact ⟨i, dk, rfl, by omega, Nat.le_refl _, HSK.out, HK.out, hchg, rfl⟩
      case round =>
        obtain ⟨j, dj, rfl, haj, hji, hsj, hph2, hchg2, hI⟩ := hrel
        have HI := Lib.hid hI; clear hI
        have HJ := Lib.hid hph2; clear hph2
        have HSJ := Lib.hid hsj; clear hsj
        by_cases hja : a < j
        case neg =>
          go_wp2_with fail
          go_quiet (fail)
          go_wp2_with fail
          go_roundw
          case rel => exact ⟨i + 1, dj, by go_num, by omega, by omega, HSJ.out, HJ.out.below (bdrewN (Below.refl _ _) nq), hchg2.trans (Chg.drewN _ _ nq), by rw [← HO.out, insOuter_go _ _ _ _ _ hlt, ← HI.out, insInner_stop _ _ _ _ (Or.inl (by omega))]⟩
          case measure => simp [intOf]; omega
        case pos =>
          obtain ⟨k, hk⟩ : ∃ k, j = k + 1 := ⟨j - 1, by omega⟩
          have e0 : (j : Int) - 1 = (k : Int) := by omega
          have HK1 := Lib.hid hk; clear hk
          obtain ⟨p1, p2, p6, p3, p4, p7, p5⟩ := HJ.out j (by have := HSJ.out; omega)
          obtain ⟨q1, q2, q6, q3, q4, q7, q5⟩ := HJ.out k (by have := HSJ.out; have := HK1.out; omega)
          have x1 : (0 : Int) ≤ (j : Int) := by omega
          have x2 : (j : Int) < (d.size : Int) := by omega
          have x3 : (0 : Int) ≤ (k : Int) := by omega
          have x4 : (k : Int) < (d.size : Int) := by omega
          have e1 : IntKind.i64.wrap (k : Int) = (k : Int) := i64_small (by omega) (by omega)
          have hbl := HJ.out.lt (by have := HSJ.out; omega)
          have hcmp := fun w => cmpTm_c dj[j]! dj[k]! w p5 q5
          unfold tmV at hcmp
          have HCMP := Lib.hid hcmp; clear hcmp
          go_wp2_with fail
          go_region_held3 (fun w' => w'.cell? ⟨blk, off + j * 3, none⟩ = some (.int .i64 dj[j]!.i) ∧ w'.cell? ⟨blk, off + j * 3 + 1, none⟩ = some (.int .i64 dj[j]!.j) ∧ w'.cell? ⟨blk, off + j * 3 + 2, none⟩ = some (.int .i64 dj[j]!.c) ∧ w'.cell? ⟨blk, off + k * 3, none⟩ = some (.int .i64 dj[k]!.i) ∧ w'.cell? ⟨blk, off + k * 3 + 1, none⟩ = some (.int .i64 dj[k]!.j) ∧ w'.cell? ⟨blk, off + k * 3 + 2, none⟩ = some (.int .i64 dj[k]!.c)) (exact ⟨by assumption, by assumption, by assumption, by assumption, by assumption, by assumption⟩)
            (first
              | (go_at_call 57; (with_reducible refine (HCMP.out _).mono ?_); rintro e W1 ⟨⟨r, rfl, hr⟩, hw1⟩; have m1 := bcell hw1 hbl p1; have m2 := bcell hw1 hbl p2; have m3 := bcell hw1 hbl q1; have m4 := bcell hw1 hbl q2; have m5 := bcell hw1 hbl p6; have m6 := bcell hw1 hbl q6))
          have hb1 : Below wr.heap.size wr W1 := (Below.refl _ _).drew.trans hw1
          have HJ1 := Lib.hid (HJ.out.below hb1)
          have hc1 := hchg2.trans (Chg.of_below hb1)
          obtain ⟨p1, p2, p6, p3, p4, p7, _⟩ := HJ1.out j (by have := HSJ.out; omega)
          obtain ⟨q1, q2, q6, q3, q4, q7, _⟩ := HJ1.out k (by have := HSJ.out; have := HK1.out; omega)
          clear HCMP hr hw1 m1 m2 m3 m4 m5 m6
          generalize hcc : ltTm dj[j]! dj[k]! = c
          have HCC := Lib.hid hcc; clear hcc
          have hSW := (HJ1.out.swap (i := j) (j := k) (by have := HSJ.out; omega) (by have := HSJ.out; have := HK1.out; omega))
          have hSC := swapW_chg W1 blk off dj[j]! dj[k]! j k
          cases c
          case false =>
            go_wp2_with fail
            go_roundw
            case rel => exact ⟨i + 1, dj, by go_num, by omega, by omega, HSJ.out, HJ1.out, hc1, by rw [← HO.out, insOuter_go _ _ _ _ _ hlt, ← HI.out, insInner_stop _ _ _ _ (Or.inr (by rw [show j - 1 = k by have := HK1.out; omega]; exact HCC.out))]⟩
            case measure => simp [intOf]; omega
          case true =>
            unfold swapW at hSW hSC
            have HSW := Lib.hid hSW; have HSC := Lib.hid hSC; clear hSW hSC
            go_wp2_with fail
            go_region
            go_wp2_with fail
            go_roundw
            case rel => exact ⟨k, swp dj j k, rfl, by have := HK1.out; omega, by have := HK1.out; omega, by rw [size_swp]; exact HSJ.out, HSW.out.drew, (hc1.trans HSC.out).trans (Chg.drew _ _), by rw [← HI.out, insInner_go ltTm a j dj hja (by rw [show j - 1 = k by have := HK1.out; omega]; exact HCC.out), show j - 1 = k by have := HK1.out; omega]⟩
            case measure => simp [intOf]; have := HK1.out; omega

end TmsSort
end Go.Proofs.YtbafgmicpopnoaaGreatDoor
