/-
  Some texts of this proof in one: SortB HullP GeA GeB GeC SortI. Each part tells what it proves. By an AI agent.
-/
import Derived.Test.YtcionneopgdebaaGreatLaws
import Derived.Sort.AssemblyPlain
import Derived.WalkKit
import Derived.BigGuard
import Derived.BigCall
import Derived.Deep.Draws
import Derived.Deep.QuietTactic
import Derived.Deep.RegionHeld3
import Derived.BigQuiet
import Derived.StillTailTactics

/-
  Points and the sort of them: the comparer, the cells of a row of points, the swap; the library's insertion sort (slices.insertionSortCmpFunc) walked. By an AI agent.
-/
namespace Go.Proofs.YtcionneopgdebaaGreat
open Go.RowKit
open Go.Sort (SWO swp swp_left swp_right swp_other size_swp)

structure Pt where
  x : Int
  y : Int
  deriving Inhabited, DecidableEq

def ltPt (p q : Pt) : Bool := decide (p.x < q.x) || (decide (p.x = q.x) && decide (p.y < q.y))
def Bd (p : Pt) : Prop := -1000000000000 ≤ p.x ∧ p.x ≤ 1000000000000 ∧ -1000000000000 ≤ p.y ∧ p.y ≤ 1000000000000
def ptV (p : Pt) : Value := .agg #[.int .i64 p.x, .int .i64 p.y]

theorem swo_ltPt : SWO ltPt where
  irrefl x := by simp [ltPt]
  trans x y z h1 h2 := by simp [ltPt] at *; omega
  ntrans x y z h1 h2 := by simp [ltPt] at *; omega
theorem ltPt_eq {x y : Pt} (h1 : ltPt x y = false) (h2 : ltPt y x = false) : x = y := by
  obtain ⟨a, b⟩ := x
  obtain ⟨c, d⟩ := y
  simp [ltPt] at *
  omega

set_option maxHeartbeats 400000 in
theorem comparePoints_c (p q : Pt) (w : World) (hp : Bd p) (hq : Bd q) :
    Calls Tryz.prog 59 #[ptV p, ptV q] w fun e w' => (∃ r : Int, e = .returned (.int .i64 r) ∧ decide (r < 0) = ltPt p q) ∧ Below w.heap.size w w' := by
  obtain ⟨a, b⟩ := p
  obtain ⟨c, d⟩ := q
  unfold Bd at hp hq
  simp only at hp hq
  have e1 : IntKind.i64.wrap (a - c) = a - c := i64_small (by omega) (by omega)
  have e2 : IntKind.i64.wrap (b - d) = b - d := i64_small (by omega) (by omega)
  have hb := ((Below.refl w.heap.size w).alloc (Nat.le_refl _) (.cells #[.int .i64 a, .int .i64 b] 66)).alloc (by simp) (.cells #[.int .i64 c, .int .i64 d] 66)
  unfold ptV
  by_cases h : a = c
  · subst h
    go_enter Tryz.func59, Tryz.ntmps59
    go_wp2_with fail
    go_ret
    exact ⟨⟨_, rfl, by simp [ltPt]; omega⟩, hb⟩
  · have h' : (a == c) = false := by simpa using h
    go_enter Tryz.func59, Tryz.ntmps59
    go_wp2_with fail
    go_ret
    exact ⟨⟨_, rfl, by simp [ltPt, h]; omega⟩, hb⟩

/-- The cells from ⟨blk, off⟩ on hold these points; none is frozen. -/
def PH (w : World) (blk off : Nat) (d : Array Pt) : Prop := ∀ t, t < d.size → w.cell? ⟨blk, off + t * 2, none⟩ = some (.int .i64 d[t]!.x) ∧ w.cell? ⟨blk, off + t * 2 + 1, none⟩ = some (.int .i64 d[t]!.y) ∧
  w.frozen? ⟨blk, off + t * 2, none⟩ = false ∧ w.frozen? ⟨blk, off + t * 2 + 1, none⟩ = false ∧ Bd d[t]!

theorem PH.of_block {w w' : World} {blk off : Nat} {d : Array Pt} (h : PH w blk off d) (hb : w'.heap[blk]? = w.heap[blk]?) : PH w' blk off d := fun t ht => by
  obtain ⟨h1, h2, h3, h4, h5⟩ := h t ht
  exact ⟨by rw [← h1]; simp only [World.cell?, hb], by rw [← h2]; simp only [World.cell?, hb], by rw [← h3]; simp only [World.frozen?, hb], by rw [← h4]; simp only [World.frozen?, hb], h5⟩
theorem PH.lt {w : World} {blk off : Nat} {d : Array Pt} (h : PH w blk off d) (h0 : 0 < d.size) : blk < w.heap.size := by
  obtain ⟨h1, _⟩ := h 0 h0
  apply Classical.byContradiction
  intro hn
  have : w.heap[blk]? = none := Array.getElem?_eq_none (by omega)
  simp [World.cell?, this] at h1
theorem PH.below {w w' : World} {blk off : Nat} {d : Array Pt} (h : PH w blk off d) (hb : Below w.heap.size w w') : PH w' blk off d := by
  by_cases h0 : 0 < d.size
  · exact h.of_block (hb.block blk (h.lt h0))
  · exact fun t ht => by omega

theorem PH.drew {w : World} {blk off : Nat} {d : Array Pt} (h : PH w blk off d) : PH w.drew blk off d := h.below (Below.refl _ _).drew

/-- The swap's stores. -/
def swapW (w : World) (blk off : Nat) (p q : Pt) (i j : Nat) : World :=
  (((w.setCell ⟨blk, off + i * 2, none⟩ (.int .i64 q.x)).setCell ⟨blk, off + i * 2 + 1, none⟩ (.int .i64 q.y)).setCell ⟨blk, off + j * 2, none⟩ (.int .i64 p.x)).setCell ⟨blk, off + j * 2 + 1, none⟩ (.int .i64 p.y)
theorem swapW_chg (w : World) (blk off : Nat) (p q : Pt) (i j : Nat) : Chg blk w (swapW w blk off p q i j) :=
  (((Chg.set blk _ w _).trans (Chg.set blk _ _ _)).trans (Chg.set blk _ _ _)).trans (Chg.set blk _ _ _)
theorem swp_get! (d : Array Pt) {i j : Nat} (hi : i < d.size) (hj : j < d.size) (k : Nat) : (swp d i j)[k]! = if k = j then d[i]! else if k = i then d[j]! else d[k]! := by
  by_cases e : k = j
  · rw [if_pos e, e]; exact swp_right d i j hj
  · rw [if_neg e]
    by_cases e2 : k = i
    · rw [if_pos e2, e2]; exact swp_left d i j hi (by omega)
    · rw [if_neg e2]; exact swp_other d i j k e2 e
theorem PH.swap {w : World} {blk off : Nat} {d : Array Pt} (h : PH w blk off d) {i j : Nat} (hi : i < d.size) (hj : j < d.size) : PH (swapW w blk off d[i]! d[j]! i j) blk off (swp d i j) := fun t ht => by
  rw [size_swp] at ht
  obtain ⟨h1, h2, h3, h4, h5⟩ := h t ht
  obtain ⟨i1, i2, _, _, i5⟩ := h i hi
  obtain ⟨j1, j2, _, _, j5⟩ := h j hj
  rw [swp_get! d hi hj t]
  have ne : ∀ {a b : Nat}, a ≠ b → (⟨blk, off + a, none⟩ : Addr) ≠ ⟨blk, off + b, none⟩ := fun h e => by injection e; omega
  have c : ∀ (W : World) (a b : Nat) (v : Value), a ≠ b → (W.setCell ⟨blk, off + a, none⟩ v).cell? ⟨blk, off + b, none⟩ = W.cell? ⟨blk, off + b, none⟩ := fun W a b v hab => World.cell?_setCell_other _ _ _ _ (ne hab)
  unfold swapW
  simp only [Nat.add_assoc] at h1 h2 h3 h4 i1 i2 j1 j2 ⊢
  simp only [World.frozen?_setCell]
  refine ⟨?_, ?_, h3, h4, ?_⟩
  · by_cases e : t = j
    · subst e
      rw [if_pos rfl, c _ _ _ _ (by omega)]
      by_cases e2 : t = i
      · subst e2
        exact World.cell?_setCell_same _ _ _ (by rw [c _ _ _ _ (by omega)]; exact World.cell?_setCell_same _ _ _ j1)
      · exact World.cell?_setCell_same _ _ _ (by rw [c _ _ _ _ (by omega), c _ _ _ _ (by omega)]; exact j1)
    · rw [if_neg e, c _ _ _ _ (by omega), c _ _ _ _ (by omega), c _ _ _ _ (by omega)]
      by_cases e2 : t = i
      · subst e2; rw [if_pos rfl]; exact World.cell?_setCell_same _ _ _ i1
      · rw [if_neg e2, c _ _ _ _ (by omega)]; exact h1
  · by_cases e : t = j
    · subst e
      rw [if_pos rfl]
      by_cases e2 : t = i
      · subst e2
        exact World.cell?_setCell_same _ _ _ (by rw [c _ _ _ _ (by omega)]; exact World.cell?_setCell_same _ _ _ (by rw [c _ _ _ _ (by omega)]; exact j2))
      · exact World.cell?_setCell_same _ _ _ (by rw [c _ _ _ _ (by omega), c _ _ _ _ (by omega), c _ _ _ _ (by omega)]; exact j2)
    · rw [if_neg e, c _ _ _ _ (by omega), c _ _ _ _ (by omega)]
      by_cases e2 : t = i
      · subst e2; rw [if_pos rfl]; exact World.cell?_setCell_same _ _ _ (by rw [c _ _ _ _ (by omega)]; exact i2)
      · rw [if_neg e2, c _ _ _ _ (by omega), c _ _ _ _ (by omega)]; exact h2
  · split
    · exact i5
    · split
      · exact j5
      · exact h5

end Go.Proofs.YtcionneopgdebaaGreat

/-
  Points, plain: the strictly sorted list of some points, their hull by the monotone chain, the boundary's points. By an AI agent.
-/
namespace Go.Proofs.YtcionneopgdebaaGreat
open Go.Sort (SWO)

/-- The sorted list. -/
def srt (l : List Pt) : List Pt := l.mergeSort fun x y => !ltPt y x

def Strict (l : List Pt) : Prop := l.Pairwise fun a b => ltPt a b = true
theorem lt_irrefl (a : Pt) : ltPt a a = false := swo_ltPt.irrefl a
theorem lt_asymm {a b : Pt} (h : ltPt a b = true) : ltPt b a = false := by
  simp [ltPt] at h ⊢
  omega
theorem strict_ext : ∀ {l1 l2 : List Pt}, Strict l1 → Strict l2 → (∀ x, x ∈ l1 ↔ x ∈ l2) → l1 = l2
  | [], [], _, _, _ => rfl
  | [], b :: l2, _, _, h => by have := (h b).2 (by simp); simp at this
  | a :: l1, [], _, _, h => by have := (h a).1 (by simp); simp at this
  | a :: l1, b :: l2, h1, h2, h => by
    obtain ⟨ha, h1'⟩ := List.pairwise_cons.1 h1
    obtain ⟨hb, h2'⟩ := List.pairwise_cons.1 h2
    have hab : a = b := by
      rcases List.mem_cons.1 ((h a).1 (by simp)) with e | e
      · exact e
      · rcases List.mem_cons.1 ((h b).2 (by simp)) with e' | e'
        · exact e'.symm
        · have := lt_asymm (ha b e')
          rw [hb a e] at this
          exact absurd this (by simp)
    subst hab
    rw [strict_ext h1' h2' fun x => ?_]
    constructor
    · intro hx
      rcases List.mem_cons.1 ((h x).1 (List.mem_cons_of_mem _ hx)) with e | e
      · subst e; have := ha _ hx; rw [lt_irrefl] at this; exact absurd this (by simp)
      · exact e
    · intro hx
      rcases List.mem_cons.1 ((h x).2 (List.mem_cons_of_mem _ hx)) with e | e
      · subst e; have := hb _ hx; rw [lt_irrefl] at this; exact absurd this (by simp)
      · exact e

/-- A point put in its place, once. -/
def insP (p : Pt) : List Pt → List Pt
  | [] => [p]
  | q :: l => if ltPt q p = true then q :: insP p l else if q = p then q :: l else p :: q :: l
theorem insP_mem {p x : Pt} : ∀ {l : List Pt}, x ∈ insP p l ↔ x = p ∨ x ∈ l
  | [] => by simp [insP]
  | q :: l => by
    unfold insP
    split
    · rw [List.mem_cons, insP_mem, List.mem_cons]
      constructor
      · rintro (h | h | h)
        · exact Or.inr (Or.inl h)
        · exact Or.inl h
        · exact Or.inr (Or.inr h)
      · rintro (h | h | h)
        · exact Or.inr (Or.inl h)
        · exact Or.inl h
        · exact Or.inr (Or.inr h)
    · split
      · rename_i h; subst h
        simp
      · simp
theorem insP_strict {p : Pt} : ∀ {l : List Pt}, Strict l → Strict (insP p l)
  | [], _ => List.pairwise_singleton _ _
  | q :: l, h => by
    obtain ⟨hq, hl⟩ := List.pairwise_cons.1 h
    unfold insP
    split
    · rename_i hqp
      refine List.pairwise_cons.2 ⟨fun x hx => ?_, insP_strict hl⟩
      rcases insP_mem.1 hx with e | e
      · subst e; exact hqp
      · exact hq x e
    · split
      · exact h
      · rename_i h1 h2
        have hpq : ltPt p q = true := by
          cases hc : ltPt p q
          · exact absurd (ltPt_eq (by simpa using h1) hc) h2
          · rfl
        refine List.pairwise_cons.2 ⟨fun x hx => ?_, h⟩
        rcases List.mem_cons.1 hx with e | e
        · subst e; exact hpq
        · exact swo_ltPt.trans p q x hpq (hq x e)
/-- Where the place is. -/
theorem insP_at {p : Pt} : ∀ {l : List Pt} {k : Nat}, k ≤ l.length → (∀ i, i < k → ltPt (l.getD i default) p = true) → (k < l.length → ltPt (l.getD k default) p = false) →
    insP p l = if k < l.length ∧ l.getD k default = p then l else l.take k ++ p :: l.drop k
  | [], k, hk, _, _ => by
    have : k = 0 := by simpa using hk
    subst this
    simp [insP]
  | q :: l, 0, _, _, h => by
    have h0 : ltPt q p = false := by simpa using h (by simp)
    unfold insP
    rw [if_neg (by rw [h0]; simp)]
    simp
  | q :: l, k + 1, hk, hlt, h => by
    have h0 : ltPt q p = true := by simpa using hlt 0 (by omega)
    unfold insP
    rw [if_pos h0, insP_at (l := l) (k := k) (by simpa using hk) (fun i hi => by simpa using hlt (i + 1) (by omega)) (fun hkl => by simpa using h (by simpa using hkl))]
    simp only [List.length_cons, Nat.add_lt_add_iff_right, List.getD_cons_succ, List.take_succ_cons, List.drop_succ_cons]
    split
    · rfl
    · rfl
def pySortF (l : List Pt) : List Pt := l.foldl (fun o p => insP p o) []
theorem pySortF_snoc (l : List Pt) (p : Pt) : pySortF (l ++ [p]) = insP p (pySortF l) := by simp [pySortF]
theorem fold_ins (l : List Pt) : ∀ (o : List Pt), Strict o → Strict (l.foldl (fun o p => insP p o) o) ∧ ∀ x, x ∈ l.foldl (fun o p => insP p o) o ↔ x ∈ o ∨ x ∈ l := by
  induction l with
  | nil => intro o h; exact ⟨h, fun x => by simp⟩
  | cons p l ih =>
    intro o h
    obtain ⟨h1, h2⟩ := ih (insP p o) (insP_strict h)
    refine ⟨h1, fun x => ?_⟩
    rw [List.foldl_cons, h2, insP_mem, List.mem_cons]
    constructor
    · rintro ((h | h) | h)
      · exact Or.inr (Or.inl h)
      · exact Or.inl h
      · exact Or.inr (Or.inr h)
    · rintro (h | h | h)
      · exact Or.inl (Or.inr h)
      · exact Or.inl (Or.inl h)
      · exact Or.inr h
theorem pySortF_strict (l : List Pt) : Strict (pySortF l) := (fold_ins l [] List.Pairwise.nil).1
theorem pySortF_mem (l : List Pt) (x : Pt) : x ∈ pySortF l ↔ x ∈ l := by
  have := (fold_ins l [] List.Pairwise.nil).2 x
  simpa [pySortF] using this

/-- Each of equal neighbours once. -/
def compactF : List Pt → List Pt
  | a :: b :: l => if a = b then compactF (b :: l) else a :: compactF (b :: l)
  | l => l
theorem compactF_mem {x : Pt} : ∀ {l : List Pt}, x ∈ compactF l ↔ x ∈ l
  | [] => Iff.rfl
  | [a] => Iff.rfl
  | a :: b :: l => by
    unfold compactF
    split
    · rename_i h; subst h
      rw [compactF_mem]; simp
    · rw [List.mem_cons, compactF_mem, List.mem_cons (a := x) (b := a)]
theorem compactF_strict : ∀ {l : List Pt}, (l.Pairwise fun a b => ltPt b a = false) → Strict (compactF l)
  | [], _ => List.Pairwise.nil
  | [a], _ => List.pairwise_singleton _ _
  | a :: b :: l, h => by
    obtain ⟨ha, hl⟩ := List.pairwise_cons.1 h
    unfold compactF
    split
    · exact compactF_strict hl
    · rename_i hne
      refine List.pairwise_cons.2 ⟨fun x hx => ?_, compactF_strict hl⟩
      have hx' := compactF_mem.1 hx
      have hab : ltPt a b = true := by
        cases hc : ltPt a b
        · exact absurd (ltPt_eq hc (ha b (by simp))) hne
        · rfl
      rcases List.mem_cons.1 hx' with e | e
      · subst e; exact hab
      · cases hc : ltPt a x
        · have hbx := (List.pairwise_cons.1 hl).1 x e
          have := swo_ltPt.ntrans a x b hc hbx
          rw [hab] at this
          exact absurd this (by simp)
        · rfl
theorem srt_pairwise (l : List Pt) : (srt l).Pairwise fun a b => ltPt b a = false := by
  have h := List.pairwise_mergeSort (le := fun x y => !ltPt y x) (fun a b c h1 h2 => by
    simp only [Bool.not_eq_true'] at h1 h2 ⊢
    exact swo_ltPt.ntrans c b a h2 h1) (fun a b => by
    simp only [Bool.or_eq_true, Bool.not_eq_true']
    cases hc : ltPt b a
    · exact Or.inl rfl
    · exact Or.inr (lt_asymm hc)) l
  exact h.imp fun h => by simpa using h
theorem srt_mem {l : List Pt} {x : Pt} : x ∈ srt l ↔ x ∈ l := (List.mergeSort_perm l _).mem_iff
/-- THE TWO WAYS TO SORT AGREE. -/
theorem sorted_same (l : List Pt) : compactF (srt l) = pySortF l :=
  strict_ext (compactF_strict (srt_pairwise l)) (pySortF_strict l) fun x => by rw [compactF_mem, srt_mem, pySortF_mem]
/-! ### The hull -/
def turnZ (a b p : Pt) : Int := (b.x - a.x) * (p.y - a.y) - (b.y - a.y) * (p.x - a.x)
def popB (out : List Pt) (p : Pt) : Bool := decide (1 < out.length) && decide (turnZ (out.getD (out.length - 2) default) (out.getD (out.length - 1) default) p ≤ 0)
/-- What is left of a chain ahead of p. -/
def popF (out : List Pt) (p : Pt) : List Pt := if _h : popB out p = true then popF out.dropLast p else out
termination_by out.length
decreasing_by
  have h1 : 1 < out.length := by have := _h; unfold popB at this; simp at this; omega
  simp; omega
theorem popF_go {out : List Pt} {p : Pt} (h : popB out p = true) : popF out p = popF out.dropLast p := by rw [popF, dif_pos h]
theorem popF_stop {out : List Pt} {p : Pt} (h : popB out p = false) : popF out p = out := by rw [popF, dif_neg (by rw [h]; simp)]
def halfF (l : List Pt) : List Pt := l.foldl (fun o p => popF o p ++ [p]) []
theorem halfF_snoc (l : List Pt) (p : Pt) : halfF (l ++ [p]) = popF (halfF l) p ++ [p] := by simp [halfF]
def hullF (s : List Pt) : List Pt := if s.length < 2 then s else (halfF s).dropLast ++ (halfF s.reverse).dropLast

end Go.Proofs.YtcionneopgdebaaGreat

/-
  Plain: the sides of a hull by the monotone chain are the pairs of points that have all points on their left, and those on the line between them. By an AI agent.
-/
namespace Go.Proofs.YtcionneopgdebaaGreat
namespace Geo
open Go.Sort (SWO)


/-! ### Angles -/
/-- The cross product of b - a with d - c. -/
def crs (a b c d : Pt) : Int := (b.x - a.x) * (d.y - c.y) - (b.y - a.y) * (d.x - c.x)
theorem crs_flip (a b c d : Pt) : crs c d a b = - crs a b c d := by unfold crs; grind
theorem crs_rev (a b c d : Pt) : crs a b d c = - crs a b c d := by unfold crs; grind
theorem crs_cat (a b c d e : Pt) : crs a b c e = crs a b c d + crs a b d e := by unfold crs; grind
theorem crs_self (a b : Pt) : crs a b a b = 0 := by unfold crs; grind
theorem crs_nil (a b c : Pt) : crs a b c c = 0 := by unfold crs; grind
theorem turn_crs (a b p : Pt) : turnZ a b p = crs a b a p := rfl
theorem lt_iff (a b : Pt) : ltPt a b = true ↔ a.x < b.x ∨ (a.x = b.x ∧ a.y < b.y) := by simp [ltPt]
theorem ang0 {a b c d e f : Int} (hu : 0 < a ∨ (a = 0 ∧ 0 < b)) (hv : 0 < c ∨ (c = 0 ∧ 0 < d)) (hw : 0 < e ∨ (e = 0 ∧ 0 < f)) (h1 : 0 ≤ a * d - b * c) (h2 : 0 ≤ c * f - d * e) : 0 ≤ a * f - b * e := by
  have id1 : (a * f - b * e) * c = (a * d - b * c) * e + (c * f - d * e) * a := by grind
  rcases hv with hc | ⟨hc, hd⟩
  · have he : 0 ≤ e := by omega
    have ha : 0 ≤ a := by omega
    have := Int.mul_nonneg h1 he
    have := Int.mul_nonneg h2 ha
    refine Int.le_of_mul_le_mul_right (a := c) ?_ hc
    omega
  · subst hc
    have he : e = 0 := by
      rcases hw with h | ⟨h, _⟩
      · have := Int.mul_pos hd h
        omega
      · exact h
    subst he
    have hf : 0 < f := by omega
    have ha : 0 ≤ a := by omega
    have := Int.mul_nonneg ha (Int.le_of_lt hf)
    omega
variable {a b c d e f : Pt}
theorem ang_le (hu : ltPt a b = true) (hv : ltPt c d = true) (hw : ltPt e f = true) (h1 : 0 ≤ crs a b c d) (h2 : 0 ≤ crs c d e f) : 0 ≤ crs a b e f := by
  rw [lt_iff] at hu hv hw
  exact ang0 (by omega) (by omega) (by omega) h1 h2
theorem ang_lt_le (hu : ltPt a b = true) (hv : ltPt c d = true) (hw : ltPt e f = true) (h1 : 0 < crs a b c d) (h2 : 0 ≤ crs c d e f) : 0 < crs a b e f := by
  by_cases h : 0 < crs a b e f
  · exact h
  · have := ang_le hv hw hu h2 (by have := crs_flip a b e f; omega)
    have := crs_flip a b c d
    omega
theorem ang_le_lt (hu : ltPt a b = true) (hv : ltPt c d = true) (hw : ltPt e f = true) (h1 : 0 ≤ crs a b c d) (h2 : 0 < crs c d e f) : 0 < crs a b e f := by
  by_cases h : 0 < crs a b e f
  · exact h
  · have := ang_le hw hu hv (by have := crs_flip a b e f; omega) h1
    have := crs_flip c d e f
    omega

/-! ### The chain as a stack -/
def leP (a b : Pt) : Prop := ltPt b a = false
theorem le_iff (a b : Pt) : leP a b ↔ a.x < b.x ∨ (a.x = b.x ∧ a.y ≤ b.y) := by
  unfold leP; simp [ltPt]; omega
theorem lt_le {a b : Pt} (h : ltPt a b = true) : leP a b := by rw [lt_iff] at h; rw [le_iff]; omega
theorem le_refl (a : Pt) : leP a a := by rw [le_iff]; omega
theorem tri (a b : Pt) : ltPt a b = true ∨ a = b ∨ ltPt b a = true := by
  obtain ⟨a1, a2⟩ := a
  obtain ⟨b1, b2⟩ := b
  simp only [lt_iff, Pt.mk.injEq]
  omega
theorem le_cases {a b : Pt} (h : leP a b) : a = b ∨ ltPt a b = true := by
  rcases tri a b with h1 | h1 | h1
  · exact Or.inr h1
  · exact Or.inl h1
  · exact absurd h (by simp [leP, h1])
theorem lt_tr {a b c : Pt} (h1 : ltPt a b = true) (h2 : ltPt b c = true) : ltPt a c = true := swo_ltPt.trans _ _ _ h1 h2

/-- All points are to the left of a b, and those on the line lie between. -/
def Lft (X : List Pt) (a b : Pt) : Prop := ∀ x, x ∈ X → 0 ≤ crs a b a x ∧ (crs a b a x = 0 → leP a x ∧ leP x b)
inductive Ch (X : List Pt) : List Pt → Prop
  | one (a : Pt) : a ∈ X → (∀ x, x ∈ X → leP a x) → Ch X [a]
  | cons (q r : Pt) (st : List Pt) : Ch X (r :: st) → q ∈ X → ltPt r q = true → Lft X r q → (∀ s t, st = s :: t → 0 < crs s r r q) → Ch X (q :: r :: st)
def popR : List Pt → Pt → List Pt
  | q :: r :: st, p => if turnZ r q p ≤ 0 then popR (r :: st) p else q :: r :: st
  | [q], _ => [q]
  | [], _ => []
theorem Ch.mem {X st : List Pt} (h : Ch X st) : ∀ x, x ∈ st → x ∈ X := by
  induction h with
  | one a ha _ => intro x hx; simp at hx; subst hx; exact ha
  | cons q r st _ hq _ _ _ ih =>
    intro x hx
    rcases List.mem_cons.1 hx with e | e
    · subst e; exact hq
    · exact ih x e
/-- A new point far enough to the left. -/
theorem Ch.ext {X : List Pt} {p : Pt} : ∀ {st : List Pt} {q r : Pt}, Ch X (q :: r :: st) → ltPt q p = true → 0 < crs r q q p → Ch (X ++ [p]) (q :: r :: st)
  | st, q, r, .cons _ _ _ h hq hrq hl hc, hqp, ht => by
    refine .cons q r st ?_ (by simp [hq]) hrq ?_ hc
    · cases h with
      | one _ hr hmin =>
        refine .one r (by simp [hr]) fun x hx => ?_
        rcases List.mem_append.1 hx with h | h
        · exact hmin x h
        · simp at h; subst h; exact lt_le (lt_tr hrq hqp)
      | cons _ s st' h' hr' hsr hl' hc' =>
        have h1 := hc s st' rfl
        have h2 : 0 < crs s r q p := ang_lt_le hsr hrq hqp h1 (Int.le_of_lt ht)
        have h3 : 0 < crs s r r p := by have := crs_cat s r r q p; omega
        exact Ch.ext (.cons r s st' h' hr' hsr hl' hc') (lt_tr hrq hqp) h3
    · intro x hx
      rcases List.mem_append.1 hx with h | h
      · exact hl x h
      · simp at h; subst h
        have h1 : crs r q r x = crs r q r q + crs r q q x := crs_cat r q r q x
        rw [crs_self] at h1
        exact ⟨by omega, fun h => by omega⟩
/-- A step. -/
theorem Ch.step {X : List Pt} {p : Pt} (hp : ∀ x, x ∈ X → ltPt x p = true) : ∀ {st : List Pt} {q : Pt}, Ch X (q :: st) → (∀ x, x ∈ X → ltPt q x = true → 0 ≤ crs q p q x) → Ch (X ++ [p]) (p :: popR (q :: st) p)
  | [], q, h, hx => by
    cases h with
    | one _ hq hmin =>
      refine .cons p q [] (.one q (by simp [hq]) fun x hx => ?_) (by simp) (hp q hq) (fun x hx' => ?_) (fun s t h => by simp at h)
      · rcases List.mem_append.1 hx with h | h
        · exact hmin x h
        · simp at h; subst h; exact lt_le (hp q hq)
      · rcases List.mem_append.1 hx' with h | h
        · rcases le_cases (hmin x h) with e | e
          · subst e; rw [crs_nil]; exact ⟨by omega, fun _ => ⟨le_refl _, lt_le (hp q hq)⟩⟩
          · exact ⟨hx x h e, fun _ => ⟨lt_le e, lt_le (hp x h)⟩⟩
        · simp at h; subst h
          rw [crs_self]; exact ⟨by omega, fun _ => ⟨lt_le (hp q hq), le_refl _⟩⟩
  | r :: st, q, h, hx => by
    have hq : q ∈ X := h.mem q (by simp)
    have hr : r ∈ X := h.mem r (by simp)
    cases h with
    | cons _ _ _ h hq hrq hl hc =>
    unfold popR
    have tc := turn_crs r q p
    have t1 : crs r q r p = crs r q r q + crs r q q p := crs_cat r q r q p
    rw [crs_self] at t1
    split
    · rename_i ht
      refine Ch.step hp h fun x hx' hrx => ?_
      have h1 := (hl x hx').1
      have h2 := crs_flip r q r p
      exact ang_le (hp r hr) hrq hrx (by omega) h1
    · rename_i ht
      have hch : Ch X (q :: r :: st) := .cons q r st h hq hrq hl hc
      refine .cons p q (r :: st) (hch.ext (hp q hq) (by omega)) (by simp) (hp q hq) (fun x hx' => ?_) (fun s t h => ?_)
      · rcases List.mem_append.1 hx' with h | h
        · rcases tri q x with e | e | e
          · exact ⟨hx x h e, fun _ => ⟨lt_le e, lt_le (hp x h)⟩⟩
          · subst e; rw [crs_nil]; exact ⟨by omega, fun _ => ⟨le_refl _, lt_le (hp q hq)⟩⟩
          · have h1 := (hl x h).1
            have h2 : crs r q r x = crs r q r q + crs r q q x := crs_cat r q r q x
            rw [crs_self] at h2
            have h3 := crs_flip x q r q
            have h4 := crs_rev r q x q
            have h5 := ang_le_lt e hrq (hp q hq) (a := x) (b := q) (by omega) (by omega : 0 < crs r q q p)
            have h6 := crs_flip q p x q
            have h7 := crs_rev q p x q
            exact ⟨by omega, fun h => by omega⟩
        · simp at h; subst h
          rw [crs_self]; exact ⟨by omega, fun _ => ⟨lt_le (hp q hq), le_refl _⟩⟩
      · cases h; omega


/-! ### The chain of a sorted list -/
theorem popB_rev (q r : Pt) (st : List Pt) (p : Pt) : popB ((q :: r :: st).reverse) p = decide (turnZ r q p ≤ 0) := by
  have e : (q :: r :: st).reverse = st.reverse ++ [r, q] := by simp
  unfold popB
  rw [e]
  have hl : (st.reverse ++ [r, q]).length = st.length + 2 := by simp
  rw [hl]
  have h1 : (st.reverse ++ [r, q]).getD (st.length + 2 - 2) default = r := by
    rw [List.getD_eq_getElem?_getD, List.getElem?_append_right (by simp)]; simp
  have h2 : (st.reverse ++ [r, q]).getD (st.length + 2 - 1) default = q := by
    rw [List.getD_eq_getElem?_getD, List.getElem?_append_right (by simp)]; simp
  rw [h1, h2]
  simp
theorem popF_rev (p : Pt) : ∀ st : List Pt, popF st.reverse p = (popR st p).reverse
  | [] => by rw [popF_stop (by simp [popB])]; rfl
  | [q] => by rw [popF_stop (by simp [popB])]; rfl
  | q :: r :: st => by
    have hb := popB_rev q r st p
    unfold popR
    split
    · rename_i h
      rw [popF_go (by rw [hb]; simp [h])]
      have e : (q :: r :: st).reverse.dropLast = (r :: st).reverse := by simp
      rw [e, popF_rev p (r :: st)]
    · rename_i h
      rw [popF_stop (by rw [hb]; simp [h])]
theorem half_go : ∀ (rest P st : List Pt) (q : Pt), Strict (P ++ rest) → halfF P = (q :: st).reverse → Ch P (q :: st) → (∀ x, x ∈ P → leP x q) →
    ∃ q' st', halfF (P ++ rest) = (q' :: st').reverse ∧ Ch (P ++ rest) (q' :: st') ∧ (∀ x, x ∈ P ++ rest → leP x q')
  | [], P, st, q, _, h1, h2, h3 => by rw [List.append_nil]; exact ⟨q, st, h1, h2, h3⟩
  | p :: rest, P, st, q, hs, h1, h2, h3 => by
    have hlt : ∀ x, x ∈ P → ltPt x p = true := fun x hx => (List.pairwise_append.1 hs).2.2 x hx p (by simp)
    have e : P ++ p :: rest = (P ++ [p]) ++ rest := by simp
    rw [e] at hs ⊢
    refine half_go rest (P ++ [p]) (popR (q :: st) p) p hs ?_ (h2.step hlt fun x hx hqx => ?_) fun x hx => ?_
    · rw [halfF_snoc, h1, popF_rev, List.reverse_cons]
    · have := h3 x hx
      unfold leP at this
      rw [hqx] at this
      exact absurd this (by simp)
    · rcases List.mem_append.1 hx with h | h
      · exact lt_le (hlt x h)
      · simp at h; subst h; exact le_refl _
theorem half_ch : ∀ (l : List Pt), l ≠ [] → Strict l → ∃ q st, halfF l = (q :: st).reverse ∧ Ch l (q :: st) ∧ ∀ x, x ∈ l → leP x q
  | [], h, _ => absurd rfl h
  | p :: l, _, hs => by
    have := half_go l [p] [] p hs (by simp [halfF, popF_stop, popB]) (.one p (by simp) fun x hx => by simp at hx; subst hx; exact le_refl _) fun x hx => by simp at hx; subst hx; exact le_refl _
    exact this

/-! ### Pairs of neighbours -/
def prs : List Pt → List (Pt × Pt)
  | a :: b :: l => (a, b) :: prs (b :: l)
  | _ => []
theorem prs_snoc (a b : Pt) : ∀ l : List Pt, prs (l ++ [a, b]) = prs (l ++ [a]) ++ [(a, b)]
  | [] => rfl
  | [c] => rfl
  | c :: d :: l => by
    have := prs_snoc a b (d :: l)
    simp only [List.cons_append, prs] at this ⊢
    rw [this]
theorem prs_cat (a : Pt) : ∀ (l m : List Pt), prs (l ++ a :: m) = prs (l ++ [a]) ++ prs (a :: m)
  | [], m => by simp [prs]
  | [c], m => by simp [prs]
  | c :: d :: l, m => by
    have := prs_cat a (d :: l) m
    simp only [List.cons_append, prs] at this ⊢
    rw [this]
theorem prs_map (f : Pt → Pt) : ∀ l : List Pt, prs (l.map f) = (prs l).map fun q => (f q.1, f q.2)
  | [] => rfl
  | [a] => rfl
  | a :: b :: l => by
    have := prs_map f (b :: l)
    simp only [List.map_cons, prs] at this ⊢
    rw [this]
theorem prs_mem {a b : Pt} : ∀ {l : List Pt}, (a, b) ∈ prs l → a ∈ l ∧ b ∈ l
  | [], h => by simp [prs] at h
  | [c], h => by simp [prs] at h
  | c :: d :: l, h => by
    rcases List.mem_cons.1 h with e | e
    · cases e; simp
    · obtain ⟨h1, h2⟩ := prs_mem e
      exact ⟨List.mem_cons_of_mem _ h1, List.mem_cons_of_mem _ h2⟩
/-- What goes round comes back. -/
theorem prs_sum (f : Pt → Int) (a z : Pt) : ∀ l : List Pt, ((prs (a :: (l ++ [z]))).map fun q => f q.2 - f q.1).sum = f z - f a := by
  intro l
  induction l generalizing a with
  | nil => simp [prs]
  | cons b l ih => simp only [List.cons_append, prs, List.map_cons, List.sum_cons, ih b]; omega
/-- The sides of a chain: each is one, and there are no others. -/
theorem Ch.sides {X st : List Pt} (h : Ch X st) : ∀ a b, (a, b) ∈ prs st.reverse → a ∈ X ∧ b ∈ X ∧ ltPt a b = true ∧ Lft X a b := by
  induction h with
  | one a ha _ => intro a b h; simp [prs] at h
  | cons q r st hch hq hrq hl _ ih =>
    intro a b h
    have e : (q :: r :: st).reverse = st.reverse ++ [r, q] := by simp
    rw [e, prs_snoc] at h
    rcases List.mem_append.1 h with h | h
    · exact ih a b (by simpa using h)
    · simp at h
      obtain ⟨e1, e2⟩ := h
      subst e1; subst e2
      exact ⟨hch.mem _ (by simp), hq, hrq, hl⟩
theorem Ch.low {X st : List Pt} (h : Ch X st) : ∃ a r, st.reverse = a :: r ∧ a ∈ X ∧ ∀ x, x ∈ X → leP a x := by
  induction h with
  | one a ha hm => exact ⟨a, [], rfl, ha, hm⟩
  | cons q r st hch hq hrq hl _ ih =>
    obtain ⟨a, r', e, h1, h2⟩ := ih
    refine ⟨a, r' ++ [q], ?_, h1, h2⟩
    rw [List.reverse_cons, e]; rfl
theorem Ch.incr {X st : List Pt} (h : Ch X st) : Strict st.reverse := by
  induction h with
  | one a _ _ => exact List.pairwise_singleton _ _
  | cons q r st hch hq hrq hl _ ih =>
    rw [List.reverse_cons]
    refine List.pairwise_append.2 ⟨ih, List.pairwise_singleton _ _, fun x hx y hy => ?_⟩
    simp at hy; subst hy
    rw [List.reverse_cons] at ih hx
    rcases List.mem_append.1 hx with h | h
    · exact lt_tr ((List.pairwise_append.1 ih).2.2 x h r (by simp)) hrq
    · simp at h; subst h; exact hrq
/-- Between two neighbours there is each point that is not the last. -/
theorem Ch.between {X st : List Pt} {q : Pt} (h : Ch X (q :: st)) {a : Pt} (ha : a ∈ X) (haq : ltPt a q = true) : ∃ p s, (p, s) ∈ prs (q :: st).reverse ∧ leP p a ∧ ltPt a s = true := by

  suffices H : ∀ st, Ch X st → ∀ q t, st = q :: t → ltPt a q = true → ∃ p s, (p, s) ∈ prs st.reverse ∧ leP p a ∧ ltPt a s = true from H _ h q st rfl haq
  intro st h
  induction h with
  | one b hb hm =>
    intro q t e hlt
    cases e
    exact absurd (hm a ha) (by simp [leP, hlt])
  | cons q r st hch hq hrq hl _ ih =>
    intro q' t e hlt
    cases e
    have e : (q :: r :: st).reverse = st.reverse ++ [r, q] := by simp
    rw [e, prs_snoc]
    rcases tri r a with h | h | h
    · exact ⟨r, q, by simp, lt_le h, hlt⟩
    · subst h; exact ⟨r, q, by simp, le_refl _, hlt⟩
    · obtain ⟨p, s, h1, h2, h3⟩ := ih r st rfl h
      exact ⟨p, s, List.mem_append.2 (Or.inl (by simpa using h1)), h2, h3⟩
/-- A side between two points that has all points to its left is a side of the chain. -/
theorem Ch.all {X st : List Pt} {q : Pt} (h : Ch X (q :: st)) (hq : ∀ x, x ∈ X → leP x q) {a b : Pt} (ha : a ∈ X) (hb : b ∈ X) (hab : ltPt a b = true) (hl : Lft X a b) : (a, b) ∈ prs (q :: st).reverse := by
  have haq : ltPt a q = true := by
    rcases le_cases (hq b hb) with e | e
    · subst e; exact hab
    · exact lt_tr hab e
  obtain ⟨p, s, hm, hpa, has⟩ := h.between ha haq
  obtain ⟨hp, hs, hps, hpl⟩ := h.sides p s hm
  rcases le_cases hpa with e | e
  · subst e
    have h1 := (hl s hs)
    have h2 := (hpl b hb)
    have h3 := crs_flip p s p b
    have h4 := (h1.2 (by omega)).2
    have h5 := (h2.2 (by omega)).2
    rcases le_cases h4 with e | e
    · subst e; exact hm
    · exact absurd h5 (by simp [leP, e])
  · -- p is ahead of a : then p is on the line of a b, outside
    exfalso
    have h1 := (hl p hp)
    have h2 := (hl s hs).1
    have h3 := (hpl a ha).1
    -- w = (p,a), v = (a,s), u = (a,b)
    have i1 := crs_cat p s p a s
    have i2 := crs_self p s
    have i3 := crs_flip p s a s
    have i4 := crs_flip a s p s
    have i5 := crs_cat a s p a s
    have i6 := crs_self a s
    have i7 := crs_flip p a a s
    have i8 := crs_rev a b p a
    have i9 := crs_flip a b p a
    -- 0 ≤ crs p a a b and 0 ≤ crs a b a s
    have j1 : 0 ≤ crs p a a s := ang_le e hab has (by omega) h2
    have j2 : crs p a a s = 0 := by omega
    have j3 : 0 ≤ crs a b p a := ang_le hab has e h2 (by omega)
    have j4 := (h1.2 (by omega)).1
    exact absurd j4 (by simp [leP, e])


/-! ### Reflection -/
def ngP (p : Pt) : Pt := ⟨-p.x, -p.y⟩
theorem ng_ng (p : Pt) : ngP (ngP p) = p := by unfold ngP; simp
theorem ng_inj {p q : Pt} (h : ngP p = ngP q) : p = q := by rw [← ng_ng p, h, ng_ng]
theorem ng_crs (a b c d : Pt) : crs (ngP a) (ngP b) (ngP c) (ngP d) = crs a b c d := by unfold crs ngP; grind
theorem ng_turn (a b c : Pt) : turnZ (ngP a) (ngP b) (ngP c) = turnZ a b c := ng_crs a b a c
theorem ng_lt (a b : Pt) : ltPt (ngP a) (ngP b) = ltPt b a := by
  have h : ltPt (ngP a) (ngP b) = true ↔ ltPt b a = true := by rw [lt_iff, lt_iff]; unfold ngP; simp only; omega
  cases h1 : ltPt (ngP a) (ngP b) <;> cases h2 : ltPt b a <;> simp_all
theorem ng_le (a b : Pt) : leP (ngP a) (ngP b) ↔ leP b a := by unfold leP; rw [ng_lt]
theorem popR_ng (p : Pt) : ∀ st : List Pt, popR (st.map ngP) (ngP p) = (popR st p).map ngP
  | [] => rfl
  | [q] => rfl
  | q :: r :: st => by
    have := popR_ng p (r :: st)
    simp only [List.map_cons] at this ⊢
    unfold popR
    rw [ng_turn]
    split
    · rw [this]
    · rfl
theorem popF_ng (out : List Pt) (p : Pt) : popF (out.map ngP) (ngP p) = (popF out p).map ngP := by
  have h1 := popF_rev p out.reverse
  have h2 := popF_rev (ngP p) (out.reverse.map ngP)
  rw [List.reverse_reverse] at h1
  rw [← List.map_reverse, List.reverse_reverse] at h2
  rw [h2, h1, popR_ng, List.map_reverse]
theorem half_fold_ng : ∀ (l o : List Pt), (l.map ngP).foldl (fun o p => popF o p ++ [p]) (o.map ngP) = (l.foldl (fun o p => popF o p ++ [p]) o).map ngP
  | [], _ => rfl
  | p :: l, o => by
    simp only [List.map_cons, List.foldl_cons]
    rw [popF_ng, ← half_fold_ng l (popF o p ++ [p])]
    simp
theorem half_ng (l : List Pt) : halfF (l.map ngP) = (halfF l).map ngP := half_fold_ng l []
theorem map_ng_ng (l : List Pt) : (l.map ngP).map ngP = l := by
  rw [List.map_map]
  have : (ngP ∘ ngP) = id := by funext p; exact ng_ng p
  rw [this, List.map_id]
theorem strict_ng {l : List Pt} (h : Strict l) : Strict (l.reverse.map ngP) := by
  unfold Strict
  rw [List.pairwise_map, List.pairwise_reverse]
  exact h.imp fun h => by rw [ng_lt]; exact h

/-! ### The hull -/
def sidesF (H : List Pt) : List (Pt × Pt) := prs (H ++ H.take 1)
def Btw (a x b : Pt) : Prop := (leP a x ∧ leP x b) ∨ (leP b x ∧ leP x a)
/-- A side of the hull of some points. -/
def Edg (X : List Pt) (a b : Pt) : Prop := a ∈ X ∧ b ∈ X ∧ a ≠ b ∧ ∀ x, x ∈ X → 0 ≤ crs a b a x ∧ (crs a b a x = 0 → Btw a x b)
theorem lt_ne {a b : Pt} (h : ltPt a b = true) : a ≠ b := by intro e; subst e; rw [lt_irrefl] at h; exact absurd h (by simp)
theorem le_lt_false {a b : Pt} (h : leP a b) (h2 : ltPt b a = true) : False := by unfold leP at h; rw [h2] at h; exact absurd h (by simp)
theorem btw_lt {a x b : Pt} (hab : ltPt a b = true) : Btw a x b ↔ leP a x ∧ leP x b := by
  constructor
  · rintro (h | ⟨h1, h2⟩)
    · exact h
    · rcases le_cases h1 with e | e
      · subst e; exact absurd (le_lt_false h2 hab) id
      · exact absurd (le_lt_false h2 (lt_tr hab e)) id
  · exact Or.inl
theorem edg_lft {X : List Pt} {a b : Pt} (hab : ltPt a b = true) : Edg X a b ↔ a ∈ X ∧ b ∈ X ∧ Lft X a b := by
  unfold Edg Lft
  constructor
  · rintro ⟨h1, h2, _, h3⟩
    exact ⟨h1, h2, fun x hx => ⟨(h3 x hx).1, fun h => (btw_lt hab).1 ((h3 x hx).2 h)⟩⟩
  · rintro ⟨h1, h2, h3⟩
    exact ⟨h1, h2, lt_ne hab, fun x hx => ⟨(h3 x hx).1, fun h => (btw_lt hab).2 ((h3 x hx).2 h)⟩⟩
theorem mem_ng {X : List Pt} {a : Pt} : ngP a ∈ X.reverse.map ngP ↔ a ∈ X := by
  rw [List.mem_map]
  constructor
  · rintro ⟨b, hb, e⟩
    rw [← ng_inj e]; simpa using hb
  · intro h; exact ⟨a, by simpa using h, rfl⟩
theorem edg_ng {X : List Pt} {a b : Pt} : Edg (X.reverse.map ngP) (ngP a) (ngP b) ↔ Edg X a b := by
  unfold Edg
  rw [mem_ng, mem_ng]
  constructor
  · rintro ⟨h1, h2, h3, h4⟩
    refine ⟨h1, h2, fun e => h3 (by rw [e]), fun x hx => ?_⟩
    have := h4 (ngP x) (mem_ng.2 hx)
    rw [ng_crs] at this
    refine ⟨this.1, fun h => ?_⟩
    have := this.2 h
    unfold Btw at this ⊢
    rw [ng_le, ng_le, ng_le, ng_le] at this
    exact this.elim (fun h => Or.inr ⟨h.2, h.1⟩ |>.elim (fun h => Or.inl h) fun h => Or.inr h) fun h => Or.inl ⟨h.2, h.1⟩
  · rintro ⟨h1, h2, h3, h4⟩
    refine ⟨h1, h2, fun e => h3 (ng_inj e), fun x hx => ?_⟩
    rw [← ng_ng x, ng_crs]
    have := h4 (ngP x) (mem_ng.1 (by rw [ng_ng]; exact hx))
    refine ⟨this.1, fun h => ?_⟩
    have := this.2 h
    unfold Btw at this ⊢
    rw [ng_le, ng_le, ng_le, ng_le]
    exact this.elim (fun h => Or.inr ⟨h.2, h.1⟩) fun h => Or.inl ⟨h.2, h.1⟩
theorem prs_fst (z : Pt) : ∀ l : List Pt, (prs (l ++ [z])).map Prod.fst = l
  | [] => rfl
  | [a] => rfl
  | a :: b :: l => by
    have := prs_fst z (b :: l)
    simp only [List.cons_append, prs, List.map_cons] at this ⊢
    rw [this]
theorem sides_fst : ∀ H : List Pt, (sidesF H).map Prod.fst = H
  | [] => rfl
  | a :: l => prs_fst a (a :: l)

theorem hull_parts {l : List Pt} (hs : Strict l) (h2 : 2 ≤ l.length) : ∃ lo up : List Pt, sidesF (hullF l) = prs lo ++ prs up ∧
    (prs lo).map Prod.fst ++ (prs up).map Prod.fst = hullF l ∧
    (∀ a b, (a, b) ∈ prs lo ↔ ltPt a b = true ∧ Edg l a b) ∧ (∀ a b, (a, b) ∈ prs up ↔ ltPt b a = true ∧ Edg l a b) ∧ (prs lo).Nodup ∧ (prs up).Nodup ∧
    (∀ x ∈ l, ∃ p s, p ∈ hullF l ∧ s ∈ hullF l ∧ leP p x ∧ leP x s ∧ 0 ≤ crs p s p x) ∧ (∀ x ∈ l, ∃ p s, p ∈ hullF l ∧ s ∈ hullF l ∧ leP p x ∧ leP x s ∧ crs p s p x ≤ 0) ∧ (∀ x, x ∈ hullF l → x ∈ l) ∧ Strict ((prs lo).map Prod.fst) ∧ Strict ((prs up).map Prod.fst).reverse := by
  have hne : l ≠ [] := by intro e; subst e; simp at h2
  obtain ⟨q, st, e1, c1, t1⟩ := half_ch l hne hs
  obtain ⟨q', st', e2, c2, t2⟩ := half_ch (l.reverse.map ngP) (by simpa using hne) (strict_ng hs)
  obtain ⟨a, r, f1, m1, b1⟩ := c1.low
  obtain ⟨a', r', f2, m2, b2⟩ := c2.low
  have hq : q ∈ l := c1.mem q (by simp)
  have hq' : q' ∈ l.reverse.map ngP := c2.mem q' (by simp)
  have le_anti : ∀ {x y : Pt}, leP x y → leP y x → x = y := fun h1 h2 => (le_cases h1).elim id fun h => absurd (le_lt_false h2 h) id
  have ha' : a' = ngP q := by
    refine le_anti (b2 _ (mem_ng.2 hq)) ?_
    rw [← ng_ng a', ng_le]
    exact t1 _ (mem_ng.1 (by rw [ng_ng]; exact m2))
  have hqa : q' = ngP a := by
    refine le_anti ?_ (t2 _ (mem_ng.2 m1))
    rw [← ng_ng q', ng_le]
    exact b1 _ (mem_ng.1 (by rw [ng_ng]; exact hq'))
  have haq : ltPt a q = true := by
    rcases le_cases (b1 q hq) with e | e
    · exfalso
      subst e
      obtain ⟨x, y, l', el⟩ : ∃ x y l', l = x :: y :: l' := by
        match l, h2 with
        | x :: y :: l', _ => exact ⟨x, y, l', rfl⟩
      subst el
      have hxy := (List.pairwise_cons.1 hs).1 y (by simp)
      have hx := le_anti (b1 x (by simp)) (t1 x (by simp))
      have hy := le_anti (b1 y (by simp)) (t1 y (by simp))
      rw [← hx, ← hy, lt_irrefl] at hxy
      exact absurd hxy (by simp)
    · exact e
  have haq' : ltPt a' q' = true := by rw [ha', hqa, ng_lt]; exact haq
  obtain ⟨r0, hr0⟩ : ∃ r0, st.reverse = a :: r0 := by
    cases st with
    | nil => simp at f1; rw [f1.1, lt_irrefl] at haq; exact absurd haq (by simp)
    | cons s t =>
      rw [List.reverse_cons] at f1
      cases h : (s :: t).reverse with
      | nil => simp at h
      | cons u v => rw [h] at f1; simp at f1; exact ⟨v, by rw [f1.1]⟩
  obtain ⟨r2, hr2⟩ : ∃ r2, st'.reverse = a' :: r2 := by
    cases st' with
    | nil => simp at f2; rw [f2.1, lt_irrefl] at haq'; exact absurd haq' (by simp)
    | cons s t =>
      rw [List.reverse_cons] at f2
      cases h : (s :: t).reverse with
      | nil => simp at h
      | cons u v => rw [h] at f2; simp at f2; exact ⟨v, by rw [f2.1]⟩
  have elo : halfF l = (a :: r0) ++ [q] := by rw [e1, List.reverse_cons, hr0]
  have eup' : halfF (l.reverse.map ngP) = (a' :: r2) ++ [q'] := by rw [e2, List.reverse_cons, hr2]
  have eup : halfF l.reverse = (q :: r2.map ngP) ++ [a] := by
    have := half_ng (l.reverse.map ngP)
    rw [map_ng_ng, eup'] at this
    rw [this, ha', hqa]
    simp [ng_ng]
  have eH : hullF l = (a :: r0) ++ (q :: r2.map ngP) := by
    unfold hullF
    rw [if_neg (by omega), elo, eup, List.dropLast_concat, List.dropLast_concat]
  have eS : sidesF (hullF l) = prs (halfF l) ++ prs (halfF l.reverse) := by
    unfold sidesF
    rw [eH, elo, eup]
    have : (a :: r0) ++ (q :: r2.map ngP) ++ List.take 1 ((a :: r0) ++ (q :: r2.map ngP)) = (a :: r0) ++ q :: (r2.map ngP ++ [a]) := by simp
    rw [this, prs_cat]; rfl
  have hlo : ∀ x y, (x, y) ∈ prs (halfF l) ↔ ltPt x y = true ∧ Edg l x y := by
    intro x y
    rw [e1]
    constructor
    · intro h
      obtain ⟨h1, h2, h3, h4⟩ := c1.sides x y h
      exact ⟨h3, (edg_lft h3).2 ⟨h1, h2, h4⟩⟩
    · rintro ⟨h1, h2⟩
      obtain ⟨h3, h4, h5⟩ := (edg_lft h1).1 h2
      exact c1.all t1 h3 h4 h1 h5
  have hup : ∀ x y, (x, y) ∈ prs (halfF l.reverse) ↔ ltPt y x = true ∧ Edg l x y := by
    intro x y
    have := half_ng (l.reverse.map ngP)
    rw [map_ng_ng, e2] at this
    rw [this, prs_map, List.mem_map]
    constructor
    · rintro ⟨⟨u, v⟩, h, e⟩
      cases e
      obtain ⟨h1, h2, h3, h4⟩ := c2.sides u v h
      refine ⟨by rw [ng_lt]; exact h3, edg_ng.1 ?_⟩
      rw [ng_ng, ng_ng]
      exact (edg_lft h3).2 ⟨h1, h2, h4⟩
    · rintro ⟨h1, h2⟩
      have h0 : ltPt (ngP x) (ngP y) = true := by rw [ng_lt]; exact h1
      obtain ⟨h3, h4, h5⟩ := (edg_lft h0).1 (edg_ng.2 h2)
      exact ⟨(ngP x, ngP y), c2.all t2 h3 h4 h0 h5, by rw [ng_ng, ng_ng]⟩
  have hsub : ∀ x, x ∈ hullF l → x ∈ l := by
    intro x hx
    rw [← sides_fst (hullF l), eS, List.map_append, List.mem_append, List.mem_map, List.mem_map] at hx
    rcases hx with ⟨⟨u, v⟩, h, e⟩ | ⟨⟨u, v⟩, h, e⟩
    · cases e; exact ((hlo u v).1 h).2.1
    · cases e; exact ((hup u v).1 h).2.1
  have strict_nodup : ∀ {m : List Pt}, Strict m → m.Nodup := fun h => h.imp fun h => lt_ne h
  have nd : ∀ {m : List Pt} (z : Pt), (m ++ [z]).Nodup → (prs (m ++ [z])).Nodup := fun {m} z h => by
    have : ((prs (m ++ [z])).map Prod.fst).Nodup := by rw [prs_fst]; exact (List.nodup_append.1 h).1
    exact List.Pairwise.of_map Prod.fst (fun a b h e => h (by rw [e])) this
  refine ⟨halfF l, halfF l.reverse, eS, ?_, hlo, hup, ?_, ?_, ?_, ?_, hsub, ?_, ?_⟩
  · rw [elo, eup, prs_fst, prs_fst, eH]
  · have := strict_nodup c1.incr
    rw [← e1, elo] at this
    rw [elo]; exact nd q this
  · have := strict_nodup c2.incr
    rw [← e2, eup'] at this
    rw [eup]
    refine nd a ?_
    have h3 : (((a' :: r2) ++ [q']).map ngP).Nodup := by
      refine List.Pairwise.map _ (fun x y h e => h (ng_inj e)) this
    rw [ha', hqa] at h3
    simpa [ng_ng] using h3
  · intro x hx
    rcases le_cases (t1 x hx) with e | e
    · subst e
      exact ⟨x, x, by rw [eH]; simp, by rw [eH]; simp, le_refl _, le_refl _, by rw [crs_nil]; omega⟩
    · obtain ⟨p, s, h1, h2, h3⟩ := c1.between hx e
      have h4 := (c1.sides p s h1).2.2.2 x hx
      have hm := prs_mem h1
      rw [← e1, elo] at hm
      refine ⟨p, s, ?_, ?_, h2, lt_le h3, h4.1⟩
      · rw [eH]; have := hm.1; simp at this ⊢; exact this.elim Or.inl fun h => h.elim (fun h => Or.inr (Or.inl h)) fun h => Or.inr (Or.inr (Or.inl h))
      · rw [eH]; have := hm.2; simp at this ⊢; exact this.elim Or.inl fun h => h.elim (fun h => Or.inr (Or.inl h)) fun h => Or.inr (Or.inr (Or.inl h))
  · intro x hx
    have hx' := mem_ng.2 hx
    rcases le_cases (t2 _ hx') with e | e
    · rw [hqa] at e
      have e := ng_inj e
      subst e
      exact ⟨x, x, by rw [eH]; simp, by rw [eH]; simp, le_refl _, le_refl _, by rw [crs_nil]; omega⟩
    · obtain ⟨p, s, h1, h2, h3⟩ := c2.between hx' e
      have h4 := ((c2.sides p s h1).2.2.2 _ hx').1
      have hm := prs_mem h1
      rw [← e2, eup', ha', hqa] at hm
      have fl : ∀ u, u ∈ ngP q :: r2 ++ [ngP a] → ngP u ∈ hullF l := by
        intro u hu
        rw [eH]
        simp at hu ⊢
        rcases hu with h | h | h
        · subst h; simp [ng_ng]
        · exact Or.inr (Or.inr (Or.inr ⟨u, h, rfl⟩))
        · subst h; simp [ng_ng]
      refine ⟨ngP s, ngP p, fl _ hm.2, fl _ hm.1, ?_, ?_, ?_⟩
      · rw [← ng_ng x, ng_le]; exact lt_le h3
      · rw [← ng_ng x, ng_le]; exact h2
      · have i1 := ng_crs (ngP s) (ngP p) (ngP s) x
        rw [ng_ng, ng_ng] at i1
        rw [← i1]
        have j1 := crs_cat s p s p (ngP x)
        have j2 := crs_rev s p p s
        have j3 := crs_flip p s p (ngP x)
        have j4 : crs s p s p = 0 := crs_self s p
        have j5 : crs s p p (ngP x) = - crs p s p (ngP x) := by unfold crs; grind
        omega
  · have := c1.incr
    rw [← e1, elo] at this
    rw [elo, prs_fst]
    exact (List.pairwise_append.1 this).1
  · have := c2.incr
    rw [← e2, eup'] at this
    have h3 := (List.pairwise_append.1 this).1
    rw [eup, prs_fst]
    unfold Strict
    rw [List.pairwise_reverse]
    have h4 : ((a' :: r2).map ngP).Pairwise fun x y => ltPt y x = true := by
      rw [List.pairwise_map]
      exact h3.imp fun h => by rw [ng_lt]; exact h
    rw [ha'] at h4
    simpa [ng_ng] using h4
/-- THE SIDES OF THE HULL, each once. -/
theorem hull_sides {l : List Pt} (hs : Strict l) (h2 : 2 ≤ l.length) : (sidesF (hullF l)).Nodup ∧ ∀ a b, (a, b) ∈ sidesF (hullF l) ↔ Edg l a b := by
  obtain ⟨lo, up, h1, _, h3, h4, n1, n2, _⟩ := hull_parts hs h2
  rw [h1]
  constructor
  · refine List.nodup_append.2 ⟨n1, n2, fun x hx y hy e => ?_⟩
    subst e
    obtain ⟨u, v⟩ := x
    have := lt_asymm ((h3 u v).1 hx).1
    rw [((h4 u v).1 hy).1] at this
    exact absurd this (by simp)
  · intro a b
    rw [List.mem_append, h3, h4]
    constructor
    · rintro (h | h)
      · exact h.2
      · exact h.2
    · intro h
      rcases tri a b with e | e | e
      · exact Or.inl ⟨e, h⟩
      · exact absurd e h.2.2.1
      · exact Or.inr ⟨e, h⟩
end Geo
end Go.Proofs.YtcionneopgdebaaGreat

/-
  Plain: what is least over the points is least over the hull; faces; the hull of a hull. By an AI agent.
-/
namespace Go.Proofs.YtcionneopgdebaaGreat
namespace Geo
open Go.Sort (SWO)


/-! ### What is least over the points is least over the hull -/
theorem least0 {dx D px sx py sy x y ux uy : Int} (hD : D = sx - px) (hd : dx = x - px) (h1 : 0 < D) (h2 : 0 ≤ dx) (h3 : dx ≤ D) (hc : 0 ≤ ux * (D * (y - py) - (sy - py) * dx)) :
    ux * py - uy * px ≤ ux * y - uy * x ∨ ux * sy - uy * sx ≤ ux * y - uy * x := by
  have e1 : x = px + dx := by omega
  have e2 : sx = px + D := by omega
  subst e1; subst e2
  have id1 : D * (ux * y - uy * (px + dx)) = (D - dx) * (ux * py - uy * px) + dx * (ux * sy - uy * (px + D)) + ux * (D * (y - py) - (sy - py) * dx) := by grind
  generalize ux * py - uy * px = P at *
  generalize ux * sy - uy * (px + D) = S at *
  generalize ux * y - uy * (px + dx) = F at *
  have h4 : 0 ≤ D - dx := by omega
  by_cases hps : P ≤ S
  · left
    have := Int.mul_le_mul_of_nonneg_left hps h2
    have id2 : (D - dx) * P = D * P - dx * P := by grind
    refine Int.le_of_mul_le_mul_left (a := D) ?_ h1
    omega
  · right
    have := Int.mul_le_mul_of_nonneg_left (show S ≤ P by omega) h4
    have id2 : (D - dx) * S = D * S - dx * S := by grind
    refine Int.le_of_mul_le_mul_left (a := D) ?_ h1
    omega
def fct (ux uy : Int) (p : Pt) : Int := ux * p.y - uy * p.x
theorem least1 {ux uy : Int} {p s x : Pt} (h1 : leP p x) (h2 : leP x s) (hc : 0 ≤ ux * crs p s p x) (hu : 0 ≤ ux ∨ s.x ≠ p.x) : fct ux uy p ≤ fct ux uy x ∨ fct ux uy s ≤ fct ux uy x := by
  rw [le_iff] at h1 h2
  unfold fct
  by_cases hD : p.x < s.x
  · unfold crs at hc
    exact least0 (D := s.x - p.x) (dx := x.x - p.x) rfl rfl (by omega) (by omega) (by omega) hc
  · have e1 : x.x = p.x := by omega
    rw [e1]
    left
    have hu : 0 ≤ ux := by omega
    have := Int.mul_le_mul_of_nonneg_left (show p.y ≤ x.y by omega) hu
    omega
theorem least2 {ux uy : Int} {p s x : Pt} (h1 : leP p x) (h2 : leP x s) (hc : 0 ≤ ux * crs p s p x) (hu : ux ≤ 0 ∨ s.x ≠ p.x) : fct ux uy p ≤ fct ux uy x ∨ fct ux uy s ≤ fct ux uy x := by
  by_cases hD : s.x = p.x
  · rw [le_iff] at h1 h2
    unfold fct
    have e1 : x.x = p.x := by omega
    rw [e1, hD]
    right
    have hu : ux ≤ 0 := by omega
    have := Int.mul_nonneg_of_nonpos_of_nonpos hu (show x.y - s.y ≤ 0 by omega)
    rw [Int.mul_sub] at this
    omega
  · exact least1 h1 h2 hc (Or.inr hD)
theorem hull_small {l : List Pt} (h : ¬ 2 ≤ l.length) : hullF l = l := by unfold hullF; rw [if_pos (by omega)]
theorem support {l : List Pt} (hs : Strict l) (ux uy : Int) {x : Pt} (hx : x ∈ l) : ∃ h, h ∈ hullF l ∧ fct ux uy h ≤ fct ux uy x := by
  by_cases h2 : 2 ≤ l.length
  · obtain ⟨lo, up, _, _, _, _, _, _, b1, b2, _⟩ := hull_parts hs h2
    by_cases hu : 0 ≤ ux
    · obtain ⟨p, s, m1, m2, h1, h2, h3⟩ := b1 x hx
      rcases least1 (uy := uy) h1 h2 (Int.mul_nonneg hu h3) (Or.inl hu) with h | h
      · exact ⟨p, m1, h⟩
      · exact ⟨s, m2, h⟩
    · obtain ⟨p, s, m1, m2, h1, h2, h3⟩ := b2 x hx
      rcases least2 (ux := ux) (uy := uy) h1 h2 (Int.mul_nonneg_of_nonpos_of_nonpos (show ux ≤ 0 by omega) h3) (Or.inl (by omega)) with h | h
      · exact ⟨p, m1, h⟩
      · exact ⟨s, m2, h⟩
  · rw [hull_small h2]
    exact ⟨x, hx, Int.le_refl _⟩
theorem hull_sub {l : List Pt} (hs : Strict l) {x : Pt} (hx : x ∈ hullF l) : x ∈ l := by
  by_cases h2 : 2 ≤ l.length
  · obtain ⟨lo, up, _, _, _, _, _, _, _, _, h, _⟩ := hull_parts hs h2
    exact h x hx
  · rwa [hull_small h2] at hx
theorem crs_fct (a b c x : Pt) : crs a b c x = fct (b.x - a.x) (b.y - a.y) x - fct (b.x - a.x) (b.y - a.y) c := by unfold crs fct; grind

/-! ### Faces -/
theorem ex_min {α : Type} (r : α → α → Prop) (tot : ∀ a b, r a b ∨ r b a) (tr : ∀ a b c, r a b → r b c → r a c) : ∀ (X : List α), X ≠ [] → ∃ m, m ∈ X ∧ ∀ x, x ∈ X → r m x
  | [], h => absurd rfl h
  | [a], _ => ⟨a, by simp, fun x hx => by simp at hx; subst hx; exact (tot x x).elim id id⟩
  | a :: b :: l, _ => by
    obtain ⟨m, hm, h⟩ := ex_min r tot tr (b :: l) (by simp)
    rcases tot a m with h1 | h1
    · refine ⟨a, by simp, fun x hx => ?_⟩
      rcases List.mem_cons.1 hx with e | e
      · subst e; exact (tot x x).elim id id
      · exact tr _ _ _ h1 (h x e)
    · refine ⟨m, List.mem_cons_of_mem _ hm, fun x hx => ?_⟩
      rcases List.mem_cons.1 hx with e | e
      · subst e; exact h1
      · exact h x e
theorem le_tr {a b c : Pt} (h1 : leP a b) (h2 : leP b c) : leP a c := by rw [le_iff] at *; omega
theorem le_tot (a b : Pt) : leP a b ∨ leP b a := by rw [le_iff, le_iff]; omega
theorem le_as {a b : Pt} (h1 : leP a b) (h2 : leP b a) : a = b := (le_cases h1).elim id fun h => absurd (le_lt_false h2 h) id
/-- p and s are the first and the last point of X with X on the left, in the direction from a to b. -/
def Face (X : List Pt) (a b p s : Pt) : Prop := p ∈ X ∧ s ∈ X ∧ crs a b p s = 0 ∧ (ltPt a b = true → leP p s) ∧ (ltPt b a = true → leP s p) ∧ ∀ x, x ∈ X → 0 ≤ crs a b p x ∧ (crs a b p x = 0 → Btw p x s)
theorem btw_symm {a x b : Pt} (h : Btw a x b) : Btw b x a := h.elim Or.inr Or.inl
theorem ex_face (X : List Pt) (hX : X ≠ []) {a b : Pt} (hab : a ≠ b) : ∃ p s, Face X a b p s := by
  obtain ⟨m, hm, hmin⟩ := ex_min (fun x y => fct (b.x - a.x) (b.y - a.y) x ≤ fct (b.x - a.x) (b.y - a.y) y) (fun x y => Int.le_total _ _) (fun x y z => Int.le_trans) X hX
  have hF : X.filter (fun x => decide (fct (b.x - a.x) (b.y - a.y) x = fct (b.x - a.x) (b.y - a.y) m)) ≠ [] := by
    intro e
    have : m ∈ X.filter (fun x => decide (fct (b.x - a.x) (b.y - a.y) x = fct (b.x - a.x) (b.y - a.y) m)) := by simp [hm]
    rw [e] at this; simp at this
  obtain ⟨u, hu, hu'⟩ := ex_min leP le_tot (fun x y z => le_tr) _ hF
  obtain ⟨v, hv, hv'⟩ := ex_min (fun x y => leP y x) (fun x y => le_tot y x) (fun x y z h1 h2 => le_tr h2 h1) _ hF
  simp only [List.mem_filter, decide_eq_true_eq] at hu hv hu' hv'
  rcases tri a b with h | h | h
  · refine ⟨u, v, hu.1, hv.1, by rw [crs_fct]; omega, fun _ => hu' v hv, fun h' => ?_, fun x hx => ?_⟩
    · rw [lt_asymm h] at h'; exact absurd h' (by simp)
    · have := hmin x hx
      refine ⟨by rw [crs_fct]; omega, fun h0 => ?_⟩
      rw [crs_fct] at h0
      exact Or.inl ⟨hu' x ⟨hx, by omega⟩, hv' x ⟨hx, by omega⟩⟩
  · exact absurd h hab
  · refine ⟨v, u, hv.1, hu.1, by rw [crs_fct]; omega, fun h' => ?_, fun _ => hu' v hv, fun x hx => ?_⟩
    · rw [lt_asymm h] at h'; exact absurd h' (by simp)
    · have := hmin x hx
      refine ⟨by rw [crs_fct]; omega, fun h0 => ?_⟩
      rw [crs_fct] at h0
      exact Or.inr ⟨hu' x ⟨hx, by omega⟩, hv' x ⟨hx, by omega⟩⟩
/-- The same direction. -/
def Dirs (a b p s : Pt) : Prop := crs a b p s = 0 ∧ ((ltPt a b = true ∧ ltPt p s = true) ∨ (ltPt b a = true ∧ ltPt s p = true))
theorem Dirs.symm {a b p s : Pt} (h : Dirs a b p s) : Dirs p s a b := ⟨by have := h.1; have := crs_flip a b p s; omega, h.2.elim (fun h => Or.inl ⟨h.2, h.1⟩) fun h => Or.inr ⟨h.2, h.1⟩⟩
theorem par0 {a b p s c x : Pt} (h : crs a b p s = 0) (h1 : ltPt a b = true) (h2 : ltPt p s = true) (h3 : 0 ≤ crs a b c x) : 0 ≤ crs p s c x := by
  have f1 := crs_flip a b p s
  rcases tri c x with e | e | e
  · exact ang_le h2 h1 e (by omega) h3
  · subst e; rw [crs_nil]; omega
  · have f2 := crs_flip a b x c
    have f3 := crs_rev a b x c
    have f4 := ang_le e h1 h2 (a := x) (b := c) (by omega) (by omega)
    have f5 := crs_flip p s x c
    have f6 := crs_rev p s x c
    omega
theorem par {a b p s : Pt} (h : Dirs a b p s) (c x : Pt) (h3 : 0 ≤ crs a b c x) : 0 ≤ crs p s c x := by
  rcases h.2 with ⟨h1, h2⟩ | ⟨h1, h2⟩
  · exact par0 h.1 h1 h2 h3
  · have e : ∀ a b c d : Pt, crs b a d c = crs a b c d := fun a b c d => by unfold crs; grind
    have := par0 (a := b) (b := a) (p := s) (s := p) (c := x) (x := c) (by rw [e]; exact h.1) h1 h2 (by rw [e]; exact h3)
    rwa [e] at this
theorem par_zero {a b p s : Pt} (h : Dirs a b p s) (c x : Pt) : crs a b c x = 0 ↔ crs p s c x = 0 := by
  have r1 := crs_rev a b c x
  have r2 := crs_rev p s c x
  constructor
  · intro h0
    have := par h c x (by omega)
    have := par h x c (by omega)
    omega
  · intro h0
    have := par h.symm c x (by omega)
    have := par h.symm x c (by omega)
    omega
theorem face_dirs {X : List Pt} {a b p s : Pt} (hab : a ≠ b) (h : Face X a b p s) (hps : p ≠ s) : Dirs a b p s := by
  obtain ⟨m1, m2, m3, m4, m5, m6⟩ := h
  refine ⟨m3, ?_⟩
  rcases tri a b with h | h | h
  · exact Or.inl ⟨h, (le_cases (m4 h)).elim (fun e => absurd e hps) id⟩
  · exact absurd h hab
  · exact Or.inr ⟨h, (le_cases (m5 h)).elim (fun e => absurd e.symm hps) id⟩
theorem face_edg {X : List Pt} {a b p s : Pt} (hab : a ≠ b) (h : Face X a b p s) (hps : p ≠ s) : Edg X p s := by
  have hd := face_dirs hab h hps
  obtain ⟨m1, m2, m3, m4, m5, m6⟩ := h
  exact ⟨m1, m2, hps, fun x hx => ⟨par hd p x (m6 x hx).1, fun h0 => (m6 x hx).2 ((par_zero hd p x).2 h0)⟩⟩
/-! ### The hull of a hull -/
theorem edg_btw_inj {a b u v : Pt} (hab : a ≠ b) (h1 : Btw u a v) (h2 : Btw u b v) (h3 : Btw a u b) (h4 : Btw a v b) (hd : (ltPt a b = true → leP u v) ∧ (ltPt b a = true → leP v u)) : u = a ∧ v = b := by
  unfold Btw at *
  simp only [le_iff, lt_iff] at *
  obtain ⟨a1, a2⟩ := a
  obtain ⟨b1, b2⟩ := b
  obtain ⟨u1, u2⟩ := u
  obtain ⟨v1, v2⟩ := v
  simp only [Pt.mk.injEq, ne_eq] at *
  omega
theorem edg_mem {l : List Pt} (hs : Strict l) (h2 : 2 ≤ l.length) {a b : Pt} (h : Edg l a b) : a ∈ hullF l ∧ b ∈ hullF l := by
  have := ((hull_sides hs h2).2 a b).2 h
  have := prs_mem this
  simp only [List.mem_append] at this
  exact ⟨this.1.elim id List.mem_of_mem_take, this.2.elim id List.mem_of_mem_take⟩
theorem edg_hull {l : List Pt} (hs : Strict l) (h2 : 2 ≤ l.length) (a b : Pt) : Edg (hullF l) a b ↔ Edg l a b := by
  constructor
  · rintro ⟨h1, h3, hab, h4⟩
    have hne : l ≠ [] := by intro e; subst e; simp at h2
    obtain ⟨p, s, hf⟩ := ex_face l hne hab
    have hf' := hf
    obtain ⟨m1, m2, m3, m4, m5, m6⟩ := hf'
    obtain ⟨h, hh, hle⟩ := support hs (b.x - a.x) (b.y - a.y) m1
    have g1 := (h4 h hh).1
    have g2 := (m6 a (hull_sub hs h1)).1
    have g3 := (m6 b (hull_sub hs h3)).1
    have g4 := crs_self a b
    rw [crs_fct] at g1 g2 g3 g4
    have b1 := (m6 a (hull_sub hs h1)).2 (by rw [crs_fct]; omega)
    have b2 := (m6 b (hull_sub hs h3)).2 (by rw [crs_fct]; omega)
    have hps : p ≠ s := by
      intro e
      subst e
      have f : ∀ {x : Pt}, Btw p x p → x = p := fun h => h.elim (fun h => (le_as h.1 h.2).symm) fun h => (le_as h.1 h.2).symm
      exact hab ((f b1).trans (f b2).symm)
    have he := face_edg hab hf hps
    obtain ⟨k1, k2⟩ := edg_mem hs h2 he
    have m3' := m3
    rw [crs_fct] at m3'
    have b3 := (h4 p k1).2 (by rw [crs_fct]; omega)
    have b4 := (h4 s k2).2 (by rw [crs_fct]; omega)
    obtain ⟨e1, e2⟩ := edg_btw_inj hab b1 b2 b3 b4 ⟨m4, m5⟩
    subst e1; subst e2
    exact he
  · intro h
    obtain ⟨k1, k2⟩ := edg_mem hs h2 h
    exact ⟨k1, k2, h.2.2.1, fun x hx => h.2.2.2 x (hull_sub hs hx)⟩
theorem hull_ext {l m : List Pt} (hl : Strict l) (hm : Strict m) (hl2 : 2 ≤ l.length) (hm2 : 2 ≤ m.length) (h : ∀ a b, Edg l a b ↔ Edg m a b) : hullF l = hullF m := by
  obtain ⟨lo, up, _, e1, a1, b1, _, _, _, _, _, s1, t1⟩ := hull_parts hl hl2
  obtain ⟨lo', up', _, e2, a2, b2, _, _, _, _, _, s2, t2⟩ := hull_parts hm hm2
  rw [← e1, ← e2]
  congr 1
  · refine strict_ext s1 s2 fun x => ?_
    rw [List.mem_map, List.mem_map]
    constructor
    · rintro ⟨⟨u, v⟩, h1, h2⟩; exact ⟨(u, v), (a2 u v).2 (by rw [← h]; exact (a1 u v).1 h1), h2⟩
    · rintro ⟨⟨u, v⟩, h1, h2⟩; exact ⟨(u, v), (a1 u v).2 (by rw [h]; exact (a2 u v).1 h1), h2⟩
  · rw [← List.reverse_inj]
    refine strict_ext t1 t2 fun x => ?_
    rw [List.mem_reverse, List.mem_reverse, List.mem_map, List.mem_map]
    constructor
    · rintro ⟨⟨u, v⟩, h1, h2⟩; exact ⟨(u, v), (b2 u v).2 (by rw [← h]; exact (b1 u v).1 h1), h2⟩
    · rintro ⟨⟨u, v⟩, h1, h2⟩; exact ⟨(u, v), (b1 u v).2 (by rw [h]; exact (b2 u v).1 h1), h2⟩
theorem edg_ext {X Y : List Pt} (h : ∀ x, x ∈ X ↔ x ∈ Y) (a b : Pt) : Edg X a b ↔ Edg Y a b := by
  unfold Edg; simp only [h]
theorem two_of_ne {l : List Pt} {a b : Pt} (ha : a ∈ l) (hb : b ∈ l) (hab : a ≠ b) : 2 ≤ l.length := by
  match l, ha, hb with
  | [], ha, _ => simp at ha
  | [c], ha, hb => simp at ha hb; exact absurd (ha.trans hb.symm) hab
  | c :: d :: l, _, _ => simp
theorem ex_side {l : List Pt} (hs : Strict l) (h2 : 2 ≤ l.length) : ∃ a b, Edg l a b := by
  obtain ⟨x, hx⟩ : ∃ x, x ∈ l := by
    match l, h2 with
    | x :: l, _ => exact ⟨x, by simp⟩
  obtain ⟨h, hh, _⟩ := support hs 0 0 hx
  rw [← sides_fst (hullF l), List.mem_map] at hh
  obtain ⟨⟨a, b⟩, h1, _⟩ := hh
  exact ⟨a, b, ((hull_sides hs h2).2 a b).1 h1⟩
/-- THE HULL OF A HULL IS THE HULL. -/
theorem hull_hull {l : List Pt} (hs : Strict l) : hullF (pySortF (hullF l)) = hullF l := by
  by_cases h2 : 2 ≤ l.length
  · obtain ⟨a, b, he⟩ := ex_side hs h2
    obtain ⟨k1, k2⟩ := edg_mem hs h2 he
    refine hull_ext (pySortF_strict _) hs (two_of_ne ((pySortF_mem _ _).2 k1) ((pySortF_mem _ _).2 k2) he.2.2.1) h2 fun x y => ?_
    rw [edg_ext (pySortF_mem (hullF l)), edg_hull hs h2]
  · rw [hull_small h2]
    have : pySortF l = l := strict_ext (pySortF_strict l) hs (pySortF_mem l)
    rw [this, hull_small h2]
end Geo
end Go.Proofs.YtcionneopgdebaaGreat

/-
  Plain: sums over the sides of hulls; the double area of a sum of two hulls is that of both and twice something that is not negative. By an AI agent.
-/
namespace Go.Proofs.YtcionneopgdebaaGreat
namespace Geo
open Go.Sort (SWO)


/-! ### Sums over sides -/
theorem nodup_sum {α : Type} (f : α → Int) : ∀ {l m : List α}, l.Nodup → m.Nodup → (∀ x, x ∈ l ↔ x ∈ m) → (l.map f).sum = (m.map f).sum
  | [], m, _, _, h => by
    have : m = [] := by
      cases m with
      | nil => rfl
      | cons a m => have := (h a).2 (by simp); simp at this
    rw [this]
  | a :: l, m, hl, hm, h => by
    obtain ⟨m1, m2, e⟩ := List.append_of_mem ((h a).1 (by simp))
    subst e
    obtain ⟨ha, hl'⟩ := List.nodup_cons.1 hl
    have hp : (m1 ++ a :: m2).Perm (a :: (m1 ++ m2)) := List.perm_middle
    have hm' := hp.nodup hm
    obtain ⟨ha', hm''⟩ := List.nodup_cons.1 hm'
    have := nodup_sum f hl' hm'' fun x => by
      have h1 := h x
      have h2 : x ∈ m1 ++ a :: m2 ↔ x ∈ a :: (m1 ++ m2) := hp.mem_iff
      rw [h2, List.mem_cons, List.mem_cons] at h1
      constructor
      · intro hx
        exact (h1.1 (Or.inr hx)).elim (fun e => absurd hx (by rw [e]; exact ha)) id
      · intro hx
        exact (h1.2 (Or.inr hx)).elim (fun e => absurd hx (by rw [e]; exact ha')) id
    simp only [List.map_cons, List.sum_cons, List.map_append, List.sum_append] at this ⊢
    omega
theorem sum_add {α : Type} (f g : α → Int) : ∀ l : List α, (l.map fun x => f x + g x).sum = (l.map f).sum + (l.map g).sum
  | [] => rfl
  | a :: l => by have := sum_add f g l; simp only [List.map_cons, List.sum_cons, this]; omega
theorem sum_mul {α : Type} (c : Int) (f : α → Int) : ∀ l : List α, (l.map fun x => c * f x).sum = c * (l.map f).sum
  | [] => by simp
  | a :: l => by have := sum_mul c f l; simp only [List.map_cons, List.sum_cons, this]; grind
theorem sum_congr {α : Type} {f g : α → Int} : ∀ {l : List α}, (∀ x, x ∈ l → f x = g x) → (l.map f).sum = (l.map g).sum
  | [], _ => rfl
  | a :: l, h => by
    have := sum_congr (l := l) fun x hx => h x (List.mem_cons_of_mem _ hx)
    simp only [List.map_cons, List.sum_cons, this, h a (by simp)]
theorem sum_nonneg {α : Type} {f : α → Int} : ∀ {l : List α}, (∀ x, x ∈ l → 0 ≤ f x) → 0 ≤ (l.map f).sum
  | [], _ => by simp
  | a :: l, h => by
    have := sum_nonneg (l := l) fun x hx => h x (List.mem_cons_of_mem _ hx)
    have := h a (by simp)
    simp only [List.map_cons, List.sum_cons]; omega
/-- What goes round comes back. -/
theorem loop (f : Pt → Int) : ∀ H : List Pt, ((sidesF H).map fun e => f e.2 - f e.1).sum = 0
  | [] => rfl
  | a :: l => by
    have := prs_sum f a a l
    unfold sidesF
    simp only [List.take_succ_cons, List.take_zero, List.cons_append] at this ⊢
    rw [this]; omega
def crz (p q : Pt) : Int := p.x * q.y - p.y * q.x
def dblS (H : List Pt) : Int := ((sidesF H).map fun e => crz e.1 e.2).sum

/-! ### The sum of two hulls -/
variable {A B S : List Pt}
end Geo
end Go.Proofs.YtcionneopgdebaaGreat

/-
  The library's insertion sort over points, walked. By an AI agent.
-/
namespace Go.Proofs.YtcionneopgdebaaGreat
open Go.RowKit
open Go.Sort (SWO swp swp_left swp_right swp_other size_swp insInner insOuter)

def cmpV : Value := .func (.func 59) #[] #[]

section
variable {α : Type} [Inhabited α] (lt : α → α → Bool)
theorem insInner_go (a j : Nat) (d : Array α) (hj : a < j) (hl : lt d[j]! d[j - 1]! = true) : insInner lt a j d = insInner lt a (j - 1) (swp d j (j - 1)) := by
  obtain ⟨k, rfl⟩ : ∃ k, j = k + 1 := ⟨j - 1, by omega⟩
  rw [insInner]
  simp only [Nat.add_sub_cancel] at hl ⊢
  simp [hj, hl]
theorem insInner_stop (a j : Nat) (d : Array α) (h : j ≤ a ∨ lt d[j]! d[j - 1]! = false) : insInner lt a j d = d := by
  cases j with
  | zero => rw [insInner]
  | succ k =>
    rw [insInner]
    simp only [Nat.add_sub_cancel] at h
    rcases h with h | h
    · simp [show ¬ k + 1 > a by omega]
    · simp [h]
theorem insOuter_go (a b i : Nat) (d : Array α) (h : i < b) : insOuter lt a b i d = insOuter lt a b (i + 1) (insInner lt a i d) := by rw [insOuter, if_pos h]
theorem insOuter_stop (a b i : Nat) (d : Array α) (h : ¬ i < b) : insOuter lt a b i d = d := by rw [insOuter, if_neg h]
end

/-- What the sort's functions do. -/
def SortsTo (w : World) (blk off n : Nat) (d' : Array Pt) (e : Ending) (w' : World) : Prop := e = .returned (.tuple #[]) ∧ PH w' blk off d' ∧ Chg blk w w' ∧ d'.size = n

set_option maxHeartbeats 1600000 in
set_option maxRecDepth 100000 in
theorem insertionSort_c (blk off cap a b : Nat) (d : Array Pt) (w : World) (hH : PH w blk off d) (hab : a ≤ b) (hb : b ≤ d.size) (hsz : d.size < 2305843009213693952) :
    Calls Tryz.prog 97 #[.slice (some ⟨blk, off, none⟩) d.size cap, .int .i64 a, .int .i64 b, cmpV] w (SortsTo w blk off d.size (Sort.insertionSort ltPt d a b)) := by
  have HP := Lib.hid hH; clear hH
  unfold cmpV
  go_enter Tryz.func97, Tryz.ntmps97
  go_wp2_with fail
  go_loopw [8] (fun vi wr => ∃ (i : Nat) (dk : Array Pt), vi = .int .i64 i ∧ a < i ∧ i ≤ b + 1 ∧ dk.size = d.size ∧ PH wr blk off dk ∧ Chg blk w wr ∧ insOuter ltPt a b i dk = insOuter ltPt a b (a + 1) d) (fun vi _ => b + 1 - (intOf vi).toNat)
  case atStart => exact ⟨a + 1, d, by go_num, by omega, by omega, rfl, HP.out, Chg.refl _ _, rfl⟩
  case round =>
    obtain ⟨i, dk, rfl, hai, hib, hsk, hph, hchg, hO⟩ := hrel
    have HO := Lib.hid hO; clear hO
    have HK := Lib.hid hph; clear hph
    have HSK := Lib.hid hsk; clear hsk
    by_cases hlt : i < b
    case neg =>
      go_wp2_with fail
      go_end0
      refine ⟨rfl, ?_, hchg, ?_⟩
      all_goals unfold Sort.insertionSort
      all_goals rw [← HO.out, insOuter_stop _ _ _ _ _ hlt]
      · exact HK.out
      · exact HSK.out
    case pos =>
      go_wp2_with fail
      go_loopw [9] (fun vj wr2 => ∃ (j : Nat) (dj : Array Pt), vj = .int .i64 j ∧ a ≤ j ∧ j ≤ i ∧ dj.size = d.size ∧ PH wr2 blk off dj ∧ Chg blk w wr2 ∧ insInner ltPt a j dj = insInner ltPt a i dk) (fun vj _ => (intOf vj).toNat)
      case atStart => exact ⟨i, dk, rfl, by omega, Nat.le_refl _, HSK.out, HK.out, hchg, rfl⟩
      case round =>
        obtain ⟨j, dj, rfl, haj, hji, hsj, hph2, hchg2, hI⟩ := hrel
        have HI := Lib.hid hI; clear hI
        have HJ := Lib.hid hph2; clear hph2
        have HSJ := Lib.hid hsj; clear hsj
        by_cases hja : a < j
        case neg =>
          go_wp2_with fail
          go_quiet (fail)
          go_wp2_with fail
          go_roundw
          case rel => exact ⟨i + 1, dj, by go_num, by omega, by omega, HSJ.out, HJ.out.below (bdrewN (Below.refl _ _) nq), hchg2.trans (Chg.drewN _ _ nq), by rw [← HO.out, insOuter_go _ _ _ _ _ hlt, ← HI.out, insInner_stop _ _ _ _ (Or.inl (by omega))]⟩
          case measure => simp [intOf]; omega
        case pos =>
          obtain ⟨k, hk⟩ : ∃ k, j = k + 1 := ⟨j - 1, by omega⟩
          have e0 : (j : Int) - 1 = (k : Int) := by omega
          have HK1 := Lib.hid hk; clear hk
          obtain ⟨p1, p2, p3, p4, p5⟩ := HJ.out j (by have := HSJ.out; omega)
          obtain ⟨q1, q2, q3, q4, q5⟩ := HJ.out k (by have := HSJ.out; have := HK1.out; omega)
          have x1 : (0 : Int) ≤ (j : Int) := by omega
          have x2 : (j : Int) < (d.size : Int) := by omega
          have x3 : (0 : Int) ≤ (k : Int) := by omega
          have x4 : (k : Int) < (d.size : Int) := by omega
          have e1 : IntKind.i64.wrap (k : Int) = (k : Int) := i64_small (by omega) (by omega)
          have hbl := HJ.out.lt (by have := HSJ.out; omega)
          have hcmp := fun w => comparePoints_c dj[j]! dj[k]! w p5 q5
          unfold ptV at hcmp
          have HCMP := Lib.hid hcmp; clear hcmp
          go_wp2_with fail
          go_region_held3 (fun w' => w'.cell? ⟨blk, off + j * 2, none⟩ = some (.int .i64 dj[j]!.x) ∧ w'.cell? ⟨blk, off + j * 2 + 1, none⟩ = some (.int .i64 dj[j]!.y) ∧ w'.cell? ⟨blk, off + k * 2, none⟩ = some (.int .i64 dj[k]!.x) ∧ w'.cell? ⟨blk, off + k * 2 + 1, none⟩ = some (.int .i64 dj[k]!.y)) (exact ⟨by assumption, by assumption, by assumption, by assumption⟩)
            (first
              | (go_at_call 59; (with_reducible refine (HCMP.out _).mono ?_); rintro e W1 ⟨⟨r, rfl, hr⟩, hw1⟩; have m1 := bcell hw1 hbl p1; have m2 := bcell hw1 hbl p2; have m3 := bcell hw1 hbl q1; have m4 := bcell hw1 hbl q2))
          have hb1 : Below wr.heap.size wr W1 := (Below.refl _ _).drew.trans hw1
          have HJ1 := Lib.hid (HJ.out.below hb1)
          have hc1 := hchg2.trans (Chg.of_below hb1)
          obtain ⟨p1, p2, p3, p4, _⟩ := HJ1.out j (by have := HSJ.out; omega)
          obtain ⟨q1, q2, q3, q4, _⟩ := HJ1.out k (by have := HSJ.out; have := HK1.out; omega)
          clear HCMP hr hw1 m1 m2 m3 m4
          generalize hcc : ltPt dj[j]! dj[k]! = c
          have HCC := Lib.hid hcc; clear hcc
          have hSW := (HJ1.out.swap (i := j) (j := k) (by have := HSJ.out; omega) (by have := HSJ.out; have := HK1.out; omega))
          have hSC := swapW_chg W1 blk off dj[j]! dj[k]! j k
          cases c
          case false =>
            go_wp2_with fail
            go_roundw
            case rel => exact ⟨i + 1, dj, by go_num, by omega, by omega, HSJ.out, HJ1.out, hc1, by rw [← HO.out, insOuter_go _ _ _ _ _ hlt, ← HI.out, insInner_stop _ _ _ _ (Or.inr (by rw [show j - 1 = k by have := HK1.out; omega]; exact HCC.out))]⟩
            case measure => simp [intOf]; omega
          case true =>
            unfold swapW at hSW hSC
            have HSW := Lib.hid hSW; have HSC := Lib.hid hSC; clear hSW hSC
            go_wp2_with fail
            go_region
            go_wp2_with fail
            go_roundw
            case rel => exact ⟨k, swp dj j k, rfl, by have := HK1.out; omega, by have := HK1.out; omega, by rw [size_swp]; exact HSJ.out, HSW.out.drew, (hc1.trans HSC.out).trans (Chg.drew _ _), by rw [← HI.out, insInner_go ltPt a j dj hja (by rw [show j - 1 = k by have := HK1.out; omega]; exact HCC.out), show j - 1 = k by have := HK1.out; omega]⟩
            case measure => simp [intOf]; have := HK1.out; omega

end Go.Proofs.YtcionneopgdebaaGreat
