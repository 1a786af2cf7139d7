/-
  Some texts of this proof in one: SortB SortI HullP. Each part tells what it proves. By an AI agent.
-/
import Derived.Test.YtapbdfkaaeoonaaLaws
import Derived.Sort.AssemblyPlain
import Derived.WalkKit
import Derived.BigGuard
import Derived.BigCall
import Derived.Deep.Draws
import Derived.Deep.QuietTactic
import Derived.Deep.RegionHeld3
import Derived.BigQuiet
import Derived.StillTailTactics

/-
  Points and the sort of them: the comparer, the cells of a row of points, the swap; the library's insertion sort (slices.insertionSortCmpFunc) walked. By an AI agent.
-/
namespace Go.Proofs.Ytapbdfkaaeoonaa
open Go.RowKit
open Go.Sort (SWO swp swp_left swp_right swp_other size_swp)

structure Pt where
  x : Int
  y : Int
  deriving Inhabited, DecidableEq

def ltPt (p q : Pt) : Bool := decide (p.x < q.x) || (decide (p.x = q.x) && decide (p.y < q.y))
def Bd (p : Pt) : Prop := -1000000000000 ≤ p.x ∧ p.x ≤ 1000000000000 ∧ -1000000000000 ≤ p.y ∧ p.y ≤ 1000000000000
def ptV (p : Pt) : Value := .agg #[.int .i64 p.x, .int .i64 p.y]

theorem swo_ltPt : SWO ltPt where
  irrefl x := by simp [ltPt]
  trans x y z h1 h2 := by simp [ltPt] at *; omega
  ntrans x y z h1 h2 := by simp [ltPt] at *; omega
theorem ltPt_eq {x y : Pt} (h1 : ltPt x y = false) (h2 : ltPt y x = false) : x = y := by
  obtain ⟨a, b⟩ := x
  obtain ⟨c, d⟩ := y
  simp [ltPt] at *
  omega

set_option maxHeartbeats 400000 in
theorem comparePoints_c (p q : Pt) (w : World) (hp : Bd p) (hq : Bd q) :
    Calls Try.prog 66 #[ptV p, ptV q] w fun e w' => (∃ r : Int, e = .returned (.int .i64 r) ∧ decide (r < 0) = ltPt p q) ∧ Below w.heap.size w w' := by
  obtain ⟨a, b⟩ := p
  obtain ⟨c, d⟩ := q
  unfold Bd at hp hq
  simp only at hp hq
  have e1 : IntKind.i64.wrap (a - c) = a - c := i64_small (by omega) (by omega)
  have e2 : IntKind.i64.wrap (b - d) = b - d := i64_small (by omega) (by omega)
  have hb := ((Below.refl w.heap.size w).alloc (Nat.le_refl _) (.cells #[.int .i64 a, .int .i64 b] 35)).alloc (by simp) (.cells #[.int .i64 c, .int .i64 d] 35)
  unfold ptV
  by_cases h : a = c
  · subst h
    go_enter Try.func66, Try.ntmps66
    go_wp2_with fail
    go_ret
    exact ⟨⟨_, rfl, by simp [ltPt]; omega⟩, hb⟩
  · have h' : (a == c) = false := by simpa using h
    go_enter Try.func66, Try.ntmps66
    go_wp2_with fail
    go_ret
    exact ⟨⟨_, rfl, by simp [ltPt, h]; omega⟩, hb⟩

/-- The cells from ⟨blk, off⟩ on hold these points; none is frozen. -/
def PH (w : World) (blk off : Nat) (d : Array Pt) : Prop := ∀ t, t < d.size → w.cell? ⟨blk, off + t * 2, none⟩ = some (.int .i64 d[t]!.x) ∧ w.cell? ⟨blk, off + t * 2 + 1, none⟩ = some (.int .i64 d[t]!.y) ∧
  w.frozen? ⟨blk, off + t * 2, none⟩ = false ∧ w.frozen? ⟨blk, off + t * 2 + 1, none⟩ = false ∧ Bd d[t]!

theorem PH.of_block {w w' : World} {blk off : Nat} {d : Array Pt} (h : PH w blk off d) (hb : w'.heap[blk]? = w.heap[blk]?) : PH w' blk off d := fun t ht => by
  obtain ⟨h1, h2, h3, h4, h5⟩ := h t ht
  exact ⟨by rw [← h1]; simp only [World.cell?, hb], by rw [← h2]; simp only [World.cell?, hb], by rw [← h3]; simp only [World.frozen?, hb], by rw [← h4]; simp only [World.frozen?, hb], h5⟩
theorem PH.lt {w : World} {blk off : Nat} {d : Array Pt} (h : PH w blk off d) (h0 : 0 < d.size) : blk < w.heap.size := by
  obtain ⟨h1, _⟩ := h 0 h0
  apply Classical.byContradiction
  intro hn
  have : w.heap[blk]? = none := Array.getElem?_eq_none (by omega)
  simp [World.cell?, this] at h1
theorem PH.below {w w' : World} {blk off : Nat} {d : Array Pt} (h : PH w blk off d) (hb : Below w.heap.size w w') : PH w' blk off d := by
  by_cases h0 : 0 < d.size
  · exact h.of_block (hb.block blk (h.lt h0))
  · exact fun t ht => by omega

theorem PH.drew {w : World} {blk off : Nat} {d : Array Pt} (h : PH w blk off d) : PH w.drew blk off d := h.below (Below.refl _ _).drew

/-- The swap's stores. -/
def swapW (w : World) (blk off : Nat) (p q : Pt) (i j : Nat) : World :=
  (((w.setCell ⟨blk, off + i * 2, none⟩ (.int .i64 q.x)).setCell ⟨blk, off + i * 2 + 1, none⟩ (.int .i64 q.y)).setCell ⟨blk, off + j * 2, none⟩ (.int .i64 p.x)).setCell ⟨blk, off + j * 2 + 1, none⟩ (.int .i64 p.y)
theorem swapW_chg (w : World) (blk off : Nat) (p q : Pt) (i j : Nat) : Chg blk w (swapW w blk off p q i j) :=
  (((Chg.set blk _ w _).trans (Chg.set blk _ _ _)).trans (Chg.set blk _ _ _)).trans (Chg.set blk _ _ _)
theorem swp_get! (d : Array Pt) {i j : Nat} (hi : i < d.size) (hj : j < d.size) (k : Nat) : (swp d i j)[k]! = if k = j then d[i]! else if k = i then d[j]! else d[k]! := by
  by_cases e : k = j
  · rw [if_pos e, e]; exact swp_right d i j hj
  · rw [if_neg e]
    by_cases e2 : k = i
    · rw [if_pos e2, e2]; exact swp_left d i j hi (by omega)
    · rw [if_neg e2]; exact swp_other d i j k e2 e
theorem PH.swap {w : World} {blk off : Nat} {d : Array Pt} (h : PH w blk off d) {i j : Nat} (hi : i < d.size) (hj : j < d.size) : PH (swapW w blk off d[i]! d[j]! i j) blk off (swp d i j) := fun t ht => by
  rw [size_swp] at ht
  obtain ⟨h1, h2, h3, h4, h5⟩ := h t ht
  obtain ⟨i1, i2, _, _, i5⟩ := h i hi
  obtain ⟨j1, j2, _, _, j5⟩ := h j hj
  rw [swp_get! d hi hj t]
  have ne : ∀ {a b : Nat}, a ≠ b → (⟨blk, off + a, none⟩ : Addr) ≠ ⟨blk, off + b, none⟩ := fun h e => by injection e; omega
  have c : ∀ (W : World) (a b : Nat) (v : Value), a ≠ b → (W.setCell ⟨blk, off + a, none⟩ v).cell? ⟨blk, off + b, none⟩ = W.cell? ⟨blk, off + b, none⟩ := fun W a b v hab => World.cell?_setCell_other _ _ _ _ (ne hab)
  unfold swapW
  simp only [Nat.add_assoc] at h1 h2 h3 h4 i1 i2 j1 j2 ⊢
  simp only [World.frozen?_setCell]
  refine ⟨?_, ?_, h3, h4, ?_⟩
  · by_cases e : t = j
    · subst e
      rw [if_pos rfl, c _ _ _ _ (by omega)]
      by_cases e2 : t = i
      · subst e2
        exact World.cell?_setCell_same _ _ _ (by rw [c _ _ _ _ (by omega)]; exact World.cell?_setCell_same _ _ _ j1)
      · exact World.cell?_setCell_same _ _ _ (by rw [c _ _ _ _ (by omega), c _ _ _ _ (by omega)]; exact j1)
    · rw [if_neg e, c _ _ _ _ (by omega), c _ _ _ _ (by omega), c _ _ _ _ (by omega)]
      by_cases e2 : t = i
      · subst e2; rw [if_pos rfl]; exact World.cell?_setCell_same _ _ _ i1
      · rw [if_neg e2, c _ _ _ _ (by omega)]; exact h1
  · by_cases e : t = j
    · subst e
      rw [if_pos rfl]
      by_cases e2 : t = i
      · subst e2
        exact World.cell?_setCell_same _ _ _ (by rw [c _ _ _ _ (by omega)]; exact World.cell?_setCell_same _ _ _ (by rw [c _ _ _ _ (by omega)]; exact j2))
      · exact World.cell?_setCell_same _ _ _ (by rw [c _ _ _ _ (by omega), c _ _ _ _ (by omega), c _ _ _ _ (by omega)]; exact j2)
    · rw [if_neg e, c _ _ _ _ (by omega), c _ _ _ _ (by omega)]
      by_cases e2 : t = i
      · subst e2; rw [if_pos rfl]; exact World.cell?_setCell_same _ _ _ (by rw [c _ _ _ _ (by omega)]; exact i2)
      · rw [if_neg e2, c _ _ _ _ (by omega), c _ _ _ _ (by omega)]; exact h2
  · split
    · exact i5
    · split
      · exact j5
      · exact h5

end Go.Proofs.Ytapbdfkaaeoonaa

/-
  The library's insertion sort over points, walked. By an AI agent.
-/
namespace Go.Proofs.Ytapbdfkaaeoonaa
open Go.RowKit
open Go.Sort (SWO swp swp_left swp_right swp_other size_swp insInner insOuter)

def cmpV : Value := .func (.func 66) #[] #[]

section
variable {α : Type} [Inhabited α] (lt : α → α → Bool)
theorem insInner_go (a j : Nat) (d : Array α) (hj : a < j) (hl : lt d[j]! d[j - 1]! = true) : insInner lt a j d = insInner lt a (j - 1) (swp d j (j - 1)) := by
  obtain ⟨k, rfl⟩ : ∃ k, j = k + 1 := ⟨j - 1, by omega⟩
  rw [insInner]
  simp only [Nat.add_sub_cancel] at hl ⊢
  simp [hj, hl]
theorem insInner_stop (a j : Nat) (d : Array α) (h : j ≤ a ∨ lt d[j]! d[j - 1]! = false) : insInner lt a j d = d := by
  cases j with
  | zero => rw [insInner]
  | succ k =>
    rw [insInner]
    simp only [Nat.add_sub_cancel] at h
    rcases h with h | h
    · simp [show ¬ k + 1 > a by omega]
    · simp [h]
theorem insOuter_go (a b i : Nat) (d : Array α) (h : i < b) : insOuter lt a b i d = insOuter lt a b (i + 1) (insInner lt a i d) := by rw [insOuter, if_pos h]
theorem insOuter_stop (a b i : Nat) (d : Array α) (h : ¬ i < b) : insOuter lt a b i d = d := by rw [insOuter, if_neg h]
end

/-- What the sort's functions do. -/
def SortsTo (w : World) (blk off n : Nat) (d' : Array Pt) (e : Ending) (w' : World) : Prop := e = .returned (.tuple #[]) ∧ PH w' blk off d' ∧ Chg blk w w' ∧ d'.size = n

set_option maxHeartbeats 1600000 in
set_option maxRecDepth 100000 in
theorem insertionSort_c (blk off cap a b : Nat) (d : Array Pt) (w : World) (hH : PH w blk off d) (hab : a ≤ b) (hb : b ≤ d.size) (hsz : d.size < 2305843009213693952) :
    Calls Try.prog 81 #[.slice (some ⟨blk, off, none⟩) d.size cap, .int .i64 a, .int .i64 b, cmpV] w (SortsTo w blk off d.size (Sort.insertionSort ltPt d a b)) := by
  have HP := Lib.hid hH; clear hH
  unfold cmpV
  go_enter Try.func81, Try.ntmps81
  go_wp2_with fail
  go_loopw [8] (fun vi wr => ∃ (i : Nat) (dk : Array Pt), vi = .int .i64 i ∧ a < i ∧ i ≤ b + 1 ∧ dk.size = d.size ∧ PH wr blk off dk ∧ Chg blk w wr ∧ insOuter ltPt a b i dk = insOuter ltPt a b (a + 1) d) (fun vi _ => b + 1 - (intOf vi).toNat)
  case atStart => exact ⟨a + 1, d, by go_num, by omega, by omega, rfl, HP.out, Chg.refl _ _, rfl⟩
  case round =>
    obtain ⟨i, dk, rfl, hai, hib, hsk, hph, hchg, hO⟩ := hrel
    have HO := Lib.hid hO; clear hO
    have HK := Lib.hid hph; clear hph
    have HSK := Lib.hid hsk; clear hsk
    by_cases hlt : i < b
    case neg =>
      go_wp2_with fail
      go_end0
      refine ⟨rfl, ?_, hchg, ?_⟩
      all_goals unfold Sort.insertionSort
      all_goals rw [← HO.out, insOuter_stop _ _ _ _ _ hlt]
      · exact HK.out
      · exact HSK.out
    case pos =>
      go_wp2_with fail
      go_loopw [9] (fun vj wr2 => ∃ (j : Nat) (dj : Array Pt), vj = .int .i64 j ∧ a ≤ j ∧ j ≤ i ∧ dj.size = d.size ∧ PH wr2 blk off dj ∧ Chg blk w wr2 ∧ insInner ltPt a j dj = insInner ltPt a i dk) (fun vj _ => (intOf vj).toNat)
      case atStart => exact ⟨i, dk, rfl, by omega, Nat.le_refl _, HSK.out, HK.out, hchg, rfl⟩
      case round =>
        obtain ⟨j, dj, rfl, haj, hji, hsj, hph2, hchg2, hI⟩ := hrel
        have HI := Lib.hid hI; clear hI
        have HJ := Lib.hid hph2; clear hph2
        have HSJ := Lib.hid hsj; clear hsj
        by_cases hja : a < j
        case neg =>
          go_wp2_with fail
          go_quiet (fail)
          go_wp2_with fail
          go_roundw
          case rel => exact ⟨i + 1, dj, by go_num, by omega, by omega, HSJ.out, HJ.out.below (bdrewN (Below.refl _ _) nq), hchg2.trans (Chg.drewN _ _ nq), by rw [← HO.out, insOuter_go _ _ _ _ _ hlt, ← HI.out, insInner_stop _ _ _ _ (Or.inl (by omega))]⟩
          case measure => simp [intOf]; omega
        case pos =>
          obtain ⟨k, hk⟩ : ∃ k, j = k + 1 := ⟨j - 1, by omega⟩
          have e0 : (j : Int) - 1 = (k : Int) := by omega
          have HK1 := Lib.hid hk; clear hk
          obtain ⟨p1, p2, p3, p4, p5⟩ := HJ.out j (by have := HSJ.out; omega)
          obtain ⟨q1, q2, q3, q4, q5⟩ := HJ.out k (by have := HSJ.out; have := HK1.out; omega)
          have x1 : (0 : Int) ≤ (j : Int) := by omega
          have x2 : (j : Int) < (d.size : Int) := by omega
          have x3 : (0 : Int) ≤ (k : Int) := by omega
          have x4 : (k : Int) < (d.size : Int) := by omega
          have e1 : IntKind.i64.wrap (k : Int) = (k : Int) := i64_small (by omega) (by omega)
          have hbl := HJ.out.lt (by have := HSJ.out; omega)
          have hcmp := fun w => comparePoints_c dj[j]! dj[k]! w p5 q5
          unfold ptV at hcmp
          have HCMP := Lib.hid hcmp; clear hcmp
          go_wp2_with fail
          go_region_held3 (fun w' => w'.cell? ⟨blk, off + j * 2, none⟩ = some (.int .i64 dj[j]!.x) ∧ w'.cell? ⟨blk, off + j * 2 + 1, none⟩ = some (.int .i64 dj[j]!.y) ∧ w'.cell? ⟨blk, off + k * 2, none⟩ = some (.int .i64 dj[k]!.x) ∧ w'.cell? ⟨blk, off + k * 2 + 1, none⟩ = some (.int .i64 dj[k]!.y)) (exact ⟨by assumption, by assumption, by assumption, by assumption⟩)
            (first
              | (go_at_call 66; (with_reducible refine (HCMP.out _).mono ?_); rintro e W1 ⟨⟨r, rfl, hr⟩, hw1⟩; have m1 := bcell hw1 hbl p1; have m2 := bcell hw1 hbl p2; have m3 := bcell hw1 hbl q1; have m4 := bcell hw1 hbl q2))
          have hb1 : Below wr.heap.size wr W1 := (Below.refl _ _).drew.trans hw1
          have HJ1 := Lib.hid (HJ.out.below hb1)
          have hc1 := hchg2.trans (Chg.of_below hb1)
          obtain ⟨p1, p2, p3, p4, _⟩ := HJ1.out j (by have := HSJ.out; omega)
          obtain ⟨q1, q2, q3, q4, _⟩ := HJ1.out k (by have := HSJ.out; have := HK1.out; omega)
          clear HCMP hr hw1 m1 m2 m3 m4
          generalize hcc : ltPt dj[j]! dj[k]! = c
          have HCC := Lib.hid hcc; clear hcc
          have hSW := (HJ1.out.swap (i := j) (j := k) (by have := HSJ.out; omega) (by have := HSJ.out; have := HK1.out; omega))
          have hSC := swapW_chg W1 blk off dj[j]! dj[k]! j k
          cases c
          case false =>
            go_wp2_with fail
            go_roundw
            case rel => exact ⟨i + 1, dj, by go_num, by omega, by omega, HSJ.out, HJ1.out, hc1, by rw [← HO.out, insOuter_go _ _ _ _ _ hlt, ← HI.out, insInner_stop _ _ _ _ (Or.inr (by rw [show j - 1 = k by have := HK1.out; omega]; exact HCC.out))]⟩
            case measure => simp [intOf]; omega
          case true =>
            unfold swapW at hSW hSC
            have HSW := Lib.hid hSW; have HSC := Lib.hid hSC; clear hSW hSC
            go_wp2_with fail
            go_region
            go_wp2_with fail
            go_roundw
            case rel => exact ⟨k, swp dj j k, rfl, by have := HK1.out; omega, by have := HK1.out; omega, by rw [size_swp]; exact HSJ.out, HSW.out.drew, (hc1.trans HSC.out).trans (Chg.drew _ _), by rw [← HI.out, insInner_go ltPt a j dj hja (by rw [show j - 1 = k by have := HK1.out; omega]; exact HCC.out), show j - 1 = k by have := HK1.out; omega]⟩
            case measure => simp [intOf]; have := HK1.out; omega

end Go.Proofs.Ytapbdfkaaeoonaa

/-
  Points, plain: the strictly sorted list of some points, their hull by the monotone chain, the boundary's points. By an AI agent.
-/
namespace Go.Proofs.Ytapbdfkaaeoonaa
open Go.Sort (SWO)

/-- The sorted list. -/
def srt (l : List Pt) : List Pt := l.mergeSort fun x y => !ltPt y x

def Strict (l : List Pt) : Prop := l.Pairwise fun a b => ltPt a b = true
theorem lt_irrefl (a : Pt) : ltPt a a = false := swo_ltPt.irrefl a
theorem lt_asymm {a b : Pt} (h : ltPt a b = true) : ltPt b a = false := by
  simp [ltPt] at h ⊢
  omega
theorem strict_ext : ∀ {l1 l2 : List Pt}, Strict l1 → Strict l2 → (∀ x, x ∈ l1 ↔ x ∈ l2) → l1 = l2
  | [], [], _, _, _ => rfl
  | [], b :: l2, _, _, h => by have := (h b).2 (by simp); simp at this
  | a :: l1, [], _, _, h => by have := (h a).1 (by simp); simp at this
  | a :: l1, b :: l2, h1, h2, h => by
    obtain ⟨ha, h1'⟩ := List.pairwise_cons.1 h1
    obtain ⟨hb, h2'⟩ := List.pairwise_cons.1 h2
    have hab : a = b := by
      rcases List.mem_cons.1 ((h a).1 (by simp)) with e | e
      · exact e
      · rcases List.mem_cons.1 ((h b).2 (by simp)) with e' | e'
        · exact e'.symm
        · have := lt_asymm (ha b e')
          rw [hb a e] at this
          exact absurd this (by simp)
    subst hab
    rw [strict_ext h1' h2' fun x => ?_]
    constructor
    · intro hx
      rcases List.mem_cons.1 ((h x).1 (List.mem_cons_of_mem _ hx)) with e | e
      · subst e; have := ha _ hx; rw [lt_irrefl] at this; exact absurd this (by simp)
      · exact e
    · intro hx
      rcases List.mem_cons.1 ((h x).2 (List.mem_cons_of_mem _ hx)) with e | e
      · subst e; have := hb _ hx; rw [lt_irrefl] at this; exact absurd this (by simp)
      · exact e

/-- A point put in its place, once. -/
def insP (p : Pt) : List Pt → List Pt
  | [] => [p]
  | q :: l => if ltPt q p = true then q :: insP p l else if q = p then q :: l else p :: q :: l
theorem insP_mem {p x : Pt} : ∀ {l : List Pt}, x ∈ insP p l ↔ x = p ∨ x ∈ l
  | [] => by simp [insP]
  | q :: l => by
    unfold insP
    split
    · rw [List.mem_cons, insP_mem, List.mem_cons]
      constructor
      · rintro (h | h | h)
        · exact Or.inr (Or.inl h)
        · exact Or.inl h
        · exact Or.inr (Or.inr h)
      · rintro (h | h | h)
        · exact Or.inr (Or.inl h)
        · exact Or.inl h
        · exact Or.inr (Or.inr h)
    · split
      · rename_i h; subst h
        simp
      · simp
theorem insP_strict {p : Pt} : ∀ {l : List Pt}, Strict l → Strict (insP p l)
  | [], _ => List.pairwise_singleton _ _
  | q :: l, h => by
    obtain ⟨hq, hl⟩ := List.pairwise_cons.1 h
    unfold insP
    split
    · rename_i hqp
      refine List.pairwise_cons.2 ⟨fun x hx => ?_, insP_strict hl⟩
      rcases insP_mem.1 hx with e | e
      · subst e; exact hqp
      · exact hq x e
    · split
      · exact h
      · rename_i h1 h2
        have hpq : ltPt p q = true := by
          cases hc : ltPt p q
          · exact absurd (ltPt_eq (by simpa using h1) hc) h2
          · rfl
        refine List.pairwise_cons.2 ⟨fun x hx => ?_, h⟩
        rcases List.mem_cons.1 hx with e | e
        · subst e; exact hpq
        · exact swo_ltPt.trans p q x hpq (hq x e)
/-- Where the place is. -/
theorem insP_at {p : Pt} : ∀ {l : List Pt} {k : Nat}, k ≤ l.length → (∀ i, i < k → ltPt (l.getD i default) p = true) → (k < l.length → ltPt (l.getD k default) p = false) →
    insP p l = if k < l.length ∧ l.getD k default = p then l else l.take k ++ p :: l.drop k
  | [], k, hk, _, _ => by
    have : k = 0 := by simpa using hk
    subst this
    simp [insP]
  | q :: l, 0, _, _, h => by
    have h0 : ltPt q p = false := by simpa using h (by simp)
    unfold insP
    rw [if_neg (by rw [h0]; simp)]
    simp
  | q :: l, k + 1, hk, hlt, h => by
    have h0 : ltPt q p = true := by simpa using hlt 0 (by omega)
    unfold insP
    rw [if_pos h0, insP_at (l := l) (k := k) (by simpa using hk) (fun i hi => by simpa using hlt (i + 1) (by omega)) (fun hkl => by simpa using h (by simpa using hkl))]
    simp only [List.length_cons, Nat.add_lt_add_iff_right, List.getD_cons_succ, List.take_succ_cons, List.drop_succ_cons]
    split
    · rfl
    · rfl
def pySortF (l : List Pt) : List Pt := l.foldl (fun o p => insP p o) []
theorem pySortF_snoc (l : List Pt) (p : Pt) : pySortF (l ++ [p]) = insP p (pySortF l) := by simp [pySortF]
theorem fold_ins (l : List Pt) : ∀ (o : List Pt), Strict o → Strict (l.foldl (fun o p => insP p o) o) ∧ ∀ x, x ∈ l.foldl (fun o p => insP p o) o ↔ x ∈ o ∨ x ∈ l := by
  induction l with
  | nil => intro o h; exact ⟨h, fun x => by simp⟩
  | cons p l ih =>
    intro o h
    obtain ⟨h1, h2⟩ := ih (insP p o) (insP_strict h)
    refine ⟨h1, fun x => ?_⟩
    rw [List.foldl_cons, h2, insP_mem, List.mem_cons]
    constructor
    · rintro ((h | h) | h)
      · exact Or.inr (Or.inl h)
      · exact Or.inl h
      · exact Or.inr (Or.inr h)
    · rintro (h | h | h)
      · exact Or.inl (Or.inr h)
      · exact Or.inl (Or.inl h)
      · exact Or.inr h
theorem pySortF_strict (l : List Pt) : Strict (pySortF l) := (fold_ins l [] List.Pairwise.nil).1
theorem pySortF_mem (l : List Pt) (x : Pt) : x ∈ pySortF l ↔ x ∈ l := by
  have := (fold_ins l [] List.Pairwise.nil).2 x
  simpa [pySortF] using this

/-- Each of equal neighbours once. -/
def compactF : List Pt → List Pt
  | a :: b :: l => if a = b then compactF (b :: l) else a :: compactF (b :: l)
  | l => l
theorem compactF_mem {x : Pt} : ∀ {l : List Pt}, x ∈ compactF l ↔ x ∈ l
  | [] => Iff.rfl
  | [a] => Iff.rfl
  | a :: b :: l => by
    unfold compactF
    split
    · rename_i h; subst h
      rw [compactF_mem]; simp
    · rw [List.mem_cons, compactF_mem, List.mem_cons (a := x) (b := a)]
theorem compactF_strict : ∀ {l : List Pt}, (l.Pairwise fun a b => ltPt b a = false) → Strict (compactF l)
  | [], _ => List.Pairwise.nil
  | [a], _ => List.pairwise_singleton _ _
  | a :: b :: l, h => by
    obtain ⟨ha, hl⟩ := List.pairwise_cons.1 h
    unfold compactF
    split
    · exact compactF_strict hl
    · rename_i hne
      refine List.pairwise_cons.2 ⟨fun x hx => ?_, compactF_strict hl⟩
      have hx' := compactF_mem.1 hx
      have hab : ltPt a b = true := by
        cases hc : ltPt a b
        · exact absurd (ltPt_eq hc (ha b (by simp))) hne
        · rfl
      rcases List.mem_cons.1 hx' with e | e
      · subst e; exact hab
      · cases hc : ltPt a x
        · have hbx := (List.pairwise_cons.1 hl).1 x e
          have := swo_ltPt.ntrans a x b hc hbx
          rw [hab] at this
          exact absurd this (by simp)
        · rfl
theorem srt_pairwise (l : List Pt) : (srt l).Pairwise fun a b => ltPt b a = false := by
  have h := List.pairwise_mergeSort (le := fun x y => !ltPt y x) (fun a b c h1 h2 => by
    simp only [Bool.not_eq_true'] at h1 h2 ⊢
    exact swo_ltPt.ntrans c b a h2 h1) (fun a b => by
    simp only [Bool.or_eq_true, Bool.not_eq_true']
    cases hc : ltPt b a
    · exact Or.inl rfl
    · exact Or.inr (lt_asymm hc)) l
  exact h.imp fun h => by simpa using h
theorem srt_mem {l : List Pt} {x : Pt} : x ∈ srt l ↔ x ∈ l := (List.mergeSort_perm l _).mem_iff
/-- THE TWO WAYS TO SORT AGREE. -/
theorem sorted_same (l : List Pt) : compactF (srt l) = pySortF l :=
  strict_ext (compactF_strict (srt_pairwise l)) (pySortF_strict l) fun x => by rw [compactF_mem, srt_mem, pySortF_mem]
theorem srt_length (l : List Pt) : (srt l).length = l.length := List.length_mergeSort l

/-! ### The hull -/
def turnZ (a b p : Pt) : Int := (b.x - a.x) * (p.y - a.y) - (b.y - a.y) * (p.x - a.x)
def popB (out : List Pt) (p : Pt) : Bool := decide (1 < out.length) && decide (turnZ (out.getD (out.length - 2) default) (out.getD (out.length - 1) default) p ≤ 0)
/-- What is left of a chain ahead of p. -/
def popF (out : List Pt) (p : Pt) : List Pt := if _h : popB out p = true then popF out.dropLast p else out
termination_by out.length
decreasing_by
  have h1 : 1 < out.length := by have := _h; unfold popB at this; simp at this; omega
  simp; omega
theorem popF_go {out : List Pt} {p : Pt} (h : popB out p = true) : popF out p = popF out.dropLast p := by rw [popF, dif_pos h]
theorem popF_stop {out : List Pt} {p : Pt} (h : popB out p = false) : popF out p = out := by rw [popF, dif_neg (by rw [h]; simp)]
def halfF (l : List Pt) : List Pt := l.foldl (fun o p => popF o p ++ [p]) []
theorem halfF_snoc (l : List Pt) (p : Pt) : halfF (l ++ [p]) = popF (halfF l) p ++ [p] := by simp [halfF]
def hullF (s : List Pt) : List Pt := if s.length < 2 then s else (halfF s).dropLast ++ (halfF s.reverse).dropLast

end Go.Proofs.Ytapbdfkaaeoonaa
