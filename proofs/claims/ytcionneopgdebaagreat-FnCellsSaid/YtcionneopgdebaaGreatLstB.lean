/-
  Some texts of this proof in one: LstB LstI. Each part tells what it proves. By an AI agent.
-/
import Derived.Test.YtcionneopgdebaaGreatBase
import Derived.Test.YtcionneopgdebaaGreatCeL
import Derived.Sort.AssemblyPlain
import Derived.WalkKit
import Derived.BigGuard
import Derived.BigCall
import Derived.Deep.Draws
import Derived.Deep.QuietTactic
import Derived.Deep.RegionHeld3
import Derived.BigQuiet
import Derived.StillTailTactics

/-
  Lists of numbers and the sort of them: slices.Compare, the cells of a row of lists, the swap. By an AI agent.
-/
namespace Go.Proofs.YtcionneopgdebaaGreat
namespace LstSort
open Go.RowKit
open Go.Sort (SWO swp swp_left swp_right swp_other size_swp)

/-- A list with its place; its block is below K. -/
structure Ls where
  adr : Option Addr
  cap : Nat
  xs : List Int
  K : Nat
  deriving Inhabited

def ltP (p q : Ls) : Bool := ltL p.xs q.xs
def lsV (p : Ls) : Value := .slice p.adr p.xs.length p.cap
theorem swo_ltP : SWO ltP where
  irrefl x := ltL_irrefl x.xs
  trans x y z h1 h2 := swo_ltL.trans x.xs y.xs z.xs h1 h2
  ntrans x y z h1 h2 := swo_ltL.ntrans x.xs y.xs z.xs h1 h2

/-- The list stands in this world, beside the block of the row. -/
structure Rd (w : World) (blk : Nat) (p : Ls) : Prop where
  rd : RdI w p.adr p.xs
  le : p.K ≤ w.heap.size
  len : p.xs.length ≤ 100000
  off : ∀ a, p.adr = some a → a.block ≠ blk ∧ a.block < p.K
theorem Rd.below {w w' : World} {blk : Nat} {p : Ls} (h : Rd w blk p) (hb : Below w.heap.size w w') : Rd w' blk p := ⟨h.rd.below hb, Nat.le_trans h.le hb.size, h.len, h.off⟩
theorem RdI.sameB {w w' : World} {ad : Option Addr} {xs : List Int} (h : RdI w ad xs) (hs : w.heap.size ≤ w'.heap.size) (hb : ∀ a, ad = some a → w'.heap[a.block]? = w.heap[a.block]?) : RdI w' ad xs := fun j hj => by
  obtain ⟨b, o, e, hlt, hc⟩ := h j hj
  exact ⟨b, o, e, by omega, by rw [← hc]; simp only [World.cell?, hb _ e]⟩
theorem Rd.chg {w w' : World} {blk s : Nat} {p : Ls} (h : Rd w blk p) (hc : Chg s w w') (hs : blk = s ∨ p.K ≤ s) : Rd w' blk p := ⟨RdI.sameB h.rd hc.size fun a ha => hc.block a.block (by have := (h.off a ha).2; have := h.le; omega) (by have := h.off a ha; omega), Nat.le_trans h.le hc.size, h.len, h.off⟩

theorem isNaN_c (x : Int) (w : World) :
    Calls Tryz.prog 117 #[.int .i64 x] w fun e w' => e = .returned (.bool false) ∧ w = w' := by
  have h : (x != x) = false := bne_self_eq_false x
  go_enter Tryz.func117, Tryz.ntmps117
  go_wp2_with fail
  go_ret
  exact ⟨by first | rfl | simp, rfl⟩
theorem cmpCompare_c (x y : Int) (w : World) :
    Calls Tryz.prog 94 #[.int .i64 x, .int .i64 y] w fun e w' => e = .returned (.int .i64 (if x < y then -1 else if y < x then 1 else 0)) ∧ w = w' := by
  have C1 := Lib.hid (fun x w => isNaN_c x w)
  rcases Int.lt_trichotomy x y with h | h | h
  · rw [if_pos h]
    go_enter Tryz.func94, Tryz.ntmps94
    go_wp2_with fail
    refine (C1.out _ _).mono ?_
    rintro e w1 ⟨rfl, rfl⟩
    go_wp2_with fail
    refine (C1.out _ _).mono ?_
    rintro e w1 ⟨rfl, rfl⟩
    go_wp2_with fail
    go_ret
    exact ⟨rfl, rfl⟩
  · subst h
    have hx : ¬ x < x := by omega
    rw [if_neg hx, if_neg hx]
    go_enter Tryz.func94, Tryz.ntmps94
    go_wp2_with fail
    refine (C1.out _ _).mono ?_
    rintro e w1 ⟨rfl, rfl⟩
    go_wp2_with fail
    refine (C1.out _ _).mono ?_
    rintro e w1 ⟨rfl, rfl⟩
    go_wp2_with fail
    go_ret
    exact ⟨rfl, rfl⟩
  · have hx : ¬ x < y := by omega
    rw [if_neg hx, if_pos h]
    go_enter Tryz.func94, Tryz.ntmps94
    go_wp2_with fail
    refine (C1.out _ _).mono ?_
    rintro e w1 ⟨rfl, rfl⟩
    go_wp2_with fail
    refine (C1.out _ _).mono ?_
    rintro e w1 ⟨rfl, rfl⟩
    go_wp2_with fail
    go_ret
    exact ⟨rfl, rfl⟩

theorem ltL_drop {a b : List Int} {k : Nat} (ha : k < a.length) (hb : k < b.length) : ltL (a.drop k) (b.drop k) = if a.getD k 0 = b.getD k 0 then ltL (a.drop (k + 1)) (b.drop (k + 1)) else decide (a.getD k 0 < b.getD k 0) := by
  rw [List.drop_eq_getElem_cons ha, List.drop_eq_getElem_cons hb]
  rw [List.getD_eq_getElem?_getD, List.getElem?_eq_getElem ha, Option.getD_some, List.getD_eq_getElem?_getD, List.getElem?_eq_getElem hb, Option.getD_some]
  rfl

set_option maxHeartbeats 1600000 in
set_option maxRecDepth 100000 in
theorem compareLists_c (ad ad2 : Option Addr) (cap cap2 : Nat) (a b : List Int) (w : World) (hr : RdI w ad a) (hr2 : RdI w ad2 b) (hl : a.length ≤ 100000) (_hl2 : b.length ≤ 100000) :
    Calls Tryz.prog 75 #[.slice ad a.length cap, .slice ad2 b.length cap2] w fun e w' => (∃ r : Int, e = .returned (.int .i64 r) ∧ decide (r < 0) = ltL a b) ∧ Below w.heap.size w w' := by
  have HA := Lib.hid hr; have HB := Lib.hid hr2
  clear hr hr2
  obtain ⟨n, hn⟩ : ∃ n, a.length = n := ⟨_, rfl⟩
  obtain ⟨m, hm⟩ : ∃ m, b.length = m := ⟨_, rfl⟩
  have HN := Lib.hid hn; have HM := Lib.hid hm
  rw [hn] at hl ⊢
  rw [hm] at _hl2 ⊢
  clear hn hm
  have CC := Lib.hid (fun x y w => cmpCompare_c x y w)
  go_enter Tryz.func75, Tryz.ntmps75
  go_wp2_with fail
  go_loopw [11] (fun i wr => ∃ k : Nat, k ≤ n ∧ k ≤ m ∧ i = .int .i64 k ∧ ltL a b = ltL (a.drop k) (b.drop k) ∧ w = wr) (fun i _ => n - (intOf i).toNat)
  case atStart => exact ⟨0, Nat.zero_le _, Nat.zero_le _, rfl, rfl, rfl⟩
  case round =>
    obtain ⟨k, hk, hkm, rfl, hlt, rfl⟩ := hrel
    have HLT := Lib.hid hlt; clear hlt
    by_cases h1 : k < n
    case neg =>
      obtain rfl : k = n := by omega
      by_cases h2 : k < m
      · have g1 : decide ((k : Int) < (m : Int)) = true := decide_eq_true (by omega)
        have HE := Lib.hid (show ltL a b = true from by
          rw [HLT.out, show a.drop k = [] from List.drop_of_length_le (by rw [HN.out]; exact Nat.le_refl _), List.drop_eq_getElem_cons (l := b) (i := k) (by rw [HM.out]; exact h2)]
          rfl)
        clear HLT
        go_wp2_with fail
        go_ret
        exact ⟨⟨-1, rfl, by rw [HE.out]; rfl⟩, Below.refl _ _⟩
      · have g1 : decide ((k : Int) < (m : Int)) = false := decide_eq_false (by omega)
        have HE := Lib.hid (show ltL a b = false from by
          rw [HLT.out, show a.drop k = [] from List.drop_of_length_le (by rw [HN.out]; exact Nat.le_refl _), show b.drop k = [] from List.drop_of_length_le (by rw [HM.out]; omega)]
          rfl)
        clear HLT
        go_wp2_with fail
        go_ret
        exact ⟨⟨0, rfl, by rw [HE.out]; rfl⟩, Below.refl _ _⟩
    case pos =>
      obtain ⟨b1, o1, rfl, hb1, k1⟩ := HA.out k (by rw [HN.out]; exact h1)
      have x1 : (0 : Int) ≤ (k : Int) := by omega
      have x2 : (k : Int) < (n : Int) := by omega
      by_cases h2 : k < m
      case neg =>
        have g1 : decide ((m : Int) ≤ (k : Int)) = true := decide_eq_true (by omega)
        have HE := Lib.hid (show ltL a b = false from by
          rw [HLT.out, List.drop_eq_getElem_cons (l := a) (i := k) (by rw [HN.out]; exact h1), show b.drop k = [] from List.drop_of_length_le (by rw [HM.out]; omega)]
          rfl)
        clear HLT
        go_wp2_with fail
        go_ret
        exact ⟨⟨1, rfl, by rw [HE.out]; rfl⟩, Below.refl _ _⟩
      case pos =>
        obtain ⟨b2, o2, rfl, hb2, k2⟩ := HB.out k (by rw [HM.out]; exact h2)
        have g1 : decide ((m : Int) ≤ (k : Int)) = false := decide_eq_false (by omega)
        have x3 : (k : Int) < (m : Int) := by omega
        have HD := Lib.hid (HLT.out.trans (ltL_drop (by rw [HN.out]; exact h1) (by rw [HM.out]; exact h2)))
        generalize a.getD k 0 = X at k1 HD
        generalize b.getD k 0 = Y at k2 HD
        clear HLT
        rcases Int.lt_trichotomy X Y with h | h | h
        · have C1 := Lib.hid (fun w => CC.out X Y w)
          simp only [if_pos h] at C1
          have HE := Lib.hid (show ltL a b = true from by rw [HD.out, if_neg (by omega)]; exact decide_eq_true h)
          clear HD CC
          go_wp2_with fail
          refine (C1.out _).mono ?_
          rintro e w1 ⟨rfl, rfl⟩
          go_wp2_with fail
          go_ret
          exact ⟨⟨-1, rfl, by rw [HE.out]; rfl⟩, Below.refl _ _⟩
        · have hx : ¬ X < Y := by omega
          have hy : ¬ Y < X := by omega
          have C1 := Lib.hid (fun w => CC.out X Y w)
          simp only [if_neg hx, if_neg hy] at C1
          have HE := Lib.hid (show ltL a b = ltL (a.drop (k + 1)) (b.drop (k + 1)) from by rw [HD.out, if_pos h])
          clear HD h hx hy
          go_wp2_with fail
          refine (C1.out _).mono ?_
          rintro e w1 ⟨rfl, rfl⟩
          go_wp2_with fail
          go_roundw
          case rel => exact ⟨k + 1, by omega, by omega, by go_num, HE.out, by first | rfl | trivial⟩
          case measure => simp [intOf]; omega
        · have hx : ¬ X < Y := by omega
          have C1 := Lib.hid (fun w => CC.out X Y w)
          simp only [if_neg hx, if_pos h] at C1
          have HE := Lib.hid (show ltL a b = false from by rw [HD.out, if_neg (by omega)]; exact decide_eq_false hx)
          clear HD CC
          go_wp2_with fail
          refine (C1.out _).mono ?_
          rintro e w1 ⟨rfl, rfl⟩
          go_wp2_with fail
          go_ret
          exact ⟨⟨1, rfl, by rw [HE.out]; rfl⟩, Below.refl _ _⟩
theorem compareL_c {blk : Nat} (p q : Ls) (w : World) (hp : Rd w blk p) (hq : Rd w blk q) :
    Calls Tryz.prog 75 #[lsV p, lsV q] w fun e w' => (∃ r : Int, e = .returned (.int .i64 r) ∧ decide (r < 0) = ltP p q) ∧ Below w.heap.size w w' :=
  compareLists_c p.adr q.adr p.cap q.cap p.xs q.xs w hp.rd hq.rd hp.len hq.len

/-- The cells from ⟨blk, off⟩ on hold these lists; none is frozen. -/
def PH (w : World) (blk off : Nat) (d : Array Ls) : Prop := ∀ t, t < d.size → w.cell? ⟨blk, off + t, none⟩ = some (.slice d[t]!.adr d[t]!.xs.length d[t]!.cap) ∧
  w.frozen? ⟨blk, off + t, none⟩ = false ∧ Rd w blk d[t]!

theorem PH.lt {w : World} {blk off : Nat} {d : Array Ls} (h : PH w blk off d) (h0 : 0 < d.size) : blk < w.heap.size := by
  obtain ⟨h1, _⟩ := h 0 h0
  apply Classical.byContradiction
  intro hn
  have : w.heap[blk]? = none := Array.getElem?_eq_none (by omega)
  simp [World.cell?, this] at h1
theorem PH.below {w w' : World} {blk off : Nat} {d : Array Ls} (h : PH w blk off d) (hb : Below w.heap.size w w') : PH w' blk off d := fun t ht => by
  have he := hb.block blk (h.lt (by omega))
  obtain ⟨h1, h3, h5⟩ := h t ht
  exact ⟨by rw [← h1]; simp only [World.cell?, he], by rw [← h3]; simp only [World.frozen?, he], h5.below hb⟩

theorem PH.drew {w : World} {blk off : Nat} {d : Array Ls} (h : PH w blk off d) : PH w.drew blk off d := h.below (Below.refl _ _).drew
/-- A block beside the row and its lists. -/
def Apt (blk s : Nat) (d : Array Ls) : Prop := blk ≠ s ∧ ∀ t, t < d.size → d[t]!.K ≤ s
theorem Apt.new {w : World} {blk off : Nat} {d : Array Ls} (h : PH w blk off d) (hb : blk ≠ w.heap.size) : Apt blk w.heap.size d := ⟨hb, fun t ht => (h t ht).2.2.le⟩
theorem PH.chg {w w' : World} {blk off s : Nat} {d : Array Ls} (h : PH w blk off d) (hb : Chg s w w') (hne : Apt blk s d) : PH w' blk off d := fun t ht => by
  have he := hb.block blk (h.lt (by omega)) hne.1
  obtain ⟨h1, h3, h5⟩ := h t ht
  exact ⟨by rw [← h1]; simp only [World.cell?, he], by rw [← h3]; simp only [World.frozen?, he], h5.chg hb (Or.inr (hne.2 t ht))⟩

/-- The swap's stores. -/
def swapW (w : World) (blk off : Nat) (p q : Ls) (i j : Nat) : World :=
  (w.setCell ⟨blk, off + i, none⟩ (.slice q.adr q.xs.length q.cap)).setCell ⟨blk, off + j, none⟩ (.slice p.adr p.xs.length p.cap)
theorem swapW_chg (w : World) (blk off : Nat) (p q : Ls) (i j : Nat) : Chg blk w (swapW w blk off p q i j) :=
  (Chg.set blk _ w _).trans (Chg.set blk _ _ _)
theorem swp_get! (d : Array Ls) {i j : Nat} (hi : i < d.size) (hj : j < d.size) (k : Nat) : (swp d i j)[k]! = if k = j then d[i]! else if k = i then d[j]! else d[k]! := by
  by_cases e : k = j
  · rw [if_pos e, e]; exact swp_right d i j hj
  · rw [if_neg e]
    by_cases e2 : k = i
    · rw [if_pos e2, e2]; exact swp_left d i j hi (by omega)
    · rw [if_neg e2]; exact swp_other d i j k e2 e
theorem PH.swap {w : World} {blk off : Nat} {d : Array Ls} (h : PH w blk off d) {i j : Nat} (hi : i < d.size) (hj : j < d.size) : PH (swapW w blk off d[i]! d[j]! i j) blk off (swp d i j) := fun t ht => by
  rw [size_swp] at ht
  obtain ⟨h1, h3, h5⟩ := h t ht
  obtain ⟨i1, _, i5⟩ := h i hi
  obtain ⟨j1, _, j5⟩ := h j hj
  have hc := swapW_chg w blk off d[i]! d[j]! i j
  rw [swp_get! d hi hj t]
  have ne : ∀ {a b : Nat}, a ≠ b → (⟨blk, off + a, none⟩ : Addr) ≠ ⟨blk, off + b, none⟩ := fun h e => by injection e; omega
  have c : ∀ (W : World) (a b : Nat) (v : Value), a ≠ b → (W.setCell ⟨blk, off + a, none⟩ v).cell? ⟨blk, off + b, none⟩ = W.cell? ⟨blk, off + b, none⟩ := fun W a b v hab => World.cell?_setCell_other _ _ _ _ (ne hab)
  refine ⟨?_, ?_, ?_⟩
  · unfold swapW
    by_cases e : t = j
    · subst e
      rw [if_pos rfl]
      by_cases e2 : t = i
      · subst e2
        exact World.cell?_setCell_same _ _ _ (World.cell?_setCell_same _ _ _ j1)
      · exact World.cell?_setCell_same _ _ _ (by rw [c _ _ _ _ (by omega)]; exact j1)
    · rw [if_neg e, c _ _ _ _ (by omega)]
      by_cases e2 : t = i
      · subst e2; rw [if_pos rfl]; exact World.cell?_setCell_same _ _ _ i1
      · rw [if_neg e2, c _ _ _ _ (by omega)]; exact h1
  · unfold swapW
    simp only [World.frozen?_setCell]
    exact h3
  · split
    · exact i5.chg hc (Or.inl rfl)
    · split
      · exact j5.chg hc (Or.inl rfl)
      · exact h5.chg hc (Or.inl rfl)
/-- All lists lie below a block. -/
def Und (B : Nat) (d : Array Ls) : Prop := ∀ t, t < d.size → d[t]!.K ≤ B
theorem Und.swp {B : Nat} {d : Array Ls} (h : Und B d) {i j : Nat} (hi : i < d.size) (hj : j < d.size) : Und B (Go.Sort.swp d i j) := fun t ht => by
  rw [size_swp] at ht
  rw [swp_get! d hi hj t]
  split
  · exact h i hi
  · split
    · exact h j hj
    · exact h t ht
theorem PH.belowK {w w' : World} {blk off B : Nat} {d : Array Ls} (h : PH w blk off d) (hb : Below B w w') (hbl : blk < B) (hK : Und B d) : PH w' blk off d := fun t ht => by
  have he := hb.block blk hbl
  obtain ⟨h1, h3, h5⟩ := h t ht
  exact ⟨by rw [← h1]; simp only [World.cell?, he], by rw [← h3]; simp only [World.frozen?, he], RdI.sameB h5.rd hb.size fun a ha => hb.block a.block (by have := (h5.off a ha).2; have := hK t ht; omega), Nat.le_trans h5.le hb.size, h5.len, h5.off⟩
end LstSort
end Go.Proofs.YtcionneopgdebaaGreat

/-
  The library's insertion sort over lists of numbers, walked. By an AI agent.
-/
namespace Go.Proofs.YtcionneopgdebaaGreat
namespace LstSort
open Go.RowKit
open Go.Sort (SWO swp swp_left swp_right swp_other size_swp insInner insOuter)

def cmpV : Value := .func (.func 75) #[] #[]

section
variable {α : Type} [Inhabited α] (lt : α → α → Bool)
theorem insInner_go (a j : Nat) (d : Array α) (hj : a < j) (hl : lt d[j]! d[j - 1]! = true) : insInner lt a j d = insInner lt a (j - 1) (swp d j (j - 1)) := by
  obtain ⟨k, rfl⟩ : ∃ k, j = k + 1 := ⟨j - 1, by omega⟩
  rw [insInner]
  simp only [Nat.add_sub_cancel] at hl ⊢
  simp [hj, hl]
theorem insInner_stop (a j : Nat) (d : Array α) (h : j ≤ a ∨ lt d[j]! d[j - 1]! = false) : insInner lt a j d = d := by
  cases j with
  | zero => rw [insInner]
  | succ k =>
    rw [insInner]
    simp only [Nat.add_sub_cancel] at h
    rcases h with h | h
    · simp [show ¬ k + 1 > a by omega]
    · simp [h]
theorem insOuter_go (a b i : Nat) (d : Array α) (h : i < b) : insOuter lt a b i d = insOuter lt a b (i + 1) (insInner lt a i d) := by rw [insOuter, if_pos h]
theorem insOuter_stop (a b i : Nat) (d : Array α) (h : ¬ i < b) : insOuter lt a b i d = d := by rw [insOuter, if_neg h]
end

/-- What the sort's functions do. -/
def SortsTo (w : World) (blk off n : Nat) (d' : Array Ls) (e : Ending) (w' : World) : Prop := e = .returned (.tuple #[]) ∧ PH w' blk off d' ∧ Chg blk w w' ∧ d'.size = n

set_option maxHeartbeats 1600000 in
set_option maxRecDepth 100000 in
theorem insertionSort_c (blk off cap a b : Nat) (d : Array Ls) (w : World) (hH : PH w blk off d) (hab : a ≤ b) (hb : b ≤ d.size) (hsz : d.size < 2305843009213693952) :
    Calls Tryz.prog 109 #[.slice (some ⟨blk, off, none⟩) d.size cap, .int .i64 a, .int .i64 b, cmpV] w (SortsTo w blk off d.size (Sort.insertionSort ltP d a b)) := by
  have HP := Lib.hid hH; clear hH
  unfold cmpV
  go_enter Tryz.func109, Tryz.ntmps109
  go_wp2_with fail
  go_loopw [8] (fun vi wr => ∃ (i : Nat) (dk : Array Ls), vi = .int .i64 i ∧ a < i ∧ i ≤ b + 1 ∧ dk.size = d.size ∧ PH wr blk off dk ∧ Chg blk w wr ∧ insOuter ltP a b i dk = insOuter ltP a b (a + 1) d) (fun vi _ => b + 1 - (intOf vi).toNat)
  case atStart => exact ⟨a + 1, d, by go_num, by omega, by omega, rfl, HP.out, Chg.refl _ _, rfl⟩
  case round =>
    obtain ⟨i, dk, rfl, hai, hib, hsk, hph, hchg, hO⟩ := hrel
    have HO := Lib.hid hO; clear hO
    have HK := Lib.hid hph; clear hph
    have HSK := Lib.hid hsk; clear hsk
    by_cases hlt : i < b
    case neg =>
      go_wp2_with fail
      go_end0
      refine ⟨rfl, ?_, hchg, ?_⟩
      all_goals unfold Sort.insertionSort
      all_goals rw [← HO.out, insOuter_stop _ _ _ _ _ hlt]
      · exact HK.out
      · exact HSK.out
    case pos =>
      go_wp2_with fail
      go_loopw [9] (fun vj wr2 => ∃ (j : Nat) (dj : Array Ls), vj = .int .i64 j ∧ a ≤ j ∧ j ≤ i ∧ dj.size = d.size ∧ PH wr2 blk off dj ∧ Chg blk w wr2 ∧ insInner ltP a j dj = insInner ltP a i dk) (fun vj _ => (intOf vj).toNat)
      case atStart => exact ⟨i, dk, rfl, by omega, Nat.le_refl _, HSK.out, HK.out, hchg, rfl⟩
      case round =>
        obtain ⟨j, dj, rfl, haj, hji, hsj, hph2, hchg2, hI⟩ := hrel
        have HI := Lib.hid hI; clear hI
        have HJ := Lib.hid hph2; clear hph2
        have HSJ := Lib.hid hsj; clear hsj
        by_cases hja : a < j
        case neg =>
          go_wp2_with fail
          go_quiet (fail)
          go_wp2_with fail
          go_roundw
          case rel => exact ⟨i + 1, dj, by go_num, by omega, by omega, HSJ.out, HJ.out.below (bdrewN (Below.refl _ _) nq), hchg2.trans (Chg.drewN _ _ nq), by rw [← HO.out, insOuter_go _ _ _ _ _ hlt, ← HI.out, insInner_stop _ _ _ _ (Or.inl (by omega))]⟩
          case measure => simp [intOf]; omega
        case pos =>
          obtain ⟨k, hk⟩ : ∃ k, j = k + 1 := ⟨j - 1, by omega⟩
          have e0 : (j : Int) - 1 = (k : Int) := by omega
          have HK1 := Lib.hid hk; clear hk
          obtain ⟨p1, p3, p5⟩ := HJ.out j (by have := HSJ.out; omega)
          obtain ⟨q1, q3, q5⟩ := HJ.out k (by have := HSJ.out; have := HK1.out; omega)
          have x1 : (0 : Int) ≤ (j : Int) := by omega
          have x2 : (j : Int) < (d.size : Int) := by omega
          have x3 : (0 : Int) ≤ (k : Int) := by omega
          have x4 : (k : Int) < (d.size : Int) := by omega
          have e1 : IntKind.i64.wrap (k : Int) = (k : Int) := i64_small (by omega) (by omega)
          have hbl := HJ.out.lt (by have := HSJ.out; omega)
          have hcmp := fun w hk => compareL_c dj[j]! dj[k]! w (Rd.below p5 hk) (Rd.below q5 hk)
          unfold lsV at hcmp
          have HCMP := Lib.hid hcmp; clear hcmp
          go_wp2_with fail
          go_region_held3 (fun w' => w'.cell? ⟨blk, off + j, none⟩ = some (.slice dj[j]!.adr dj[j]!.xs.length dj[j]!.cap) ∧ w'.cell? ⟨blk, off + k, none⟩ = some (.slice dj[k]!.adr dj[k]!.xs.length dj[k]!.cap)) (exact ⟨by assumption, by assumption⟩)
            (first
              | (go_at_call 75; (with_reducible refine (HCMP.out _ (by with_reducible repeat' (first | exact Below.refl _ _ | apply Below.drew))).mono ?_); rintro e W1 ⟨⟨r, rfl, hr⟩, hw1⟩; have m1 := bcell hw1 hbl p1; have m3 := bcell hw1 hbl q1))
          have hb1 : Below wr.heap.size wr W1 := (Below.refl _ _).drew.trans hw1
          have HJ1 := Lib.hid (HJ.out.below hb1)
          have hc1 := hchg2.trans (Chg.of_below hb1)
          obtain ⟨p1, p3, _⟩ := HJ1.out j (by have := HSJ.out; omega)
          obtain ⟨q1, q3, _⟩ := HJ1.out k (by have := HSJ.out; have := HK1.out; omega)
          clear HCMP hr hw1 m1 m3
          generalize hcc : ltP dj[j]! dj[k]! = c
          have HCC := Lib.hid hcc; clear hcc
          have hSW := (HJ1.out.swap (i := j) (j := k) (by have := HSJ.out; omega) (by have := HSJ.out; have := HK1.out; omega))
          have hSC := swapW_chg W1 blk off dj[j]! dj[k]! j k
          cases c
          case false =>
            go_wp2_with fail
            go_roundw
            case rel => exact ⟨i + 1, dj, by go_num, by omega, by omega, HSJ.out, HJ1.out, hc1, by rw [← HO.out, insOuter_go _ _ _ _ _ hlt, ← HI.out, insInner_stop _ _ _ _ (Or.inr (by rw [show j - 1 = k by have := HK1.out; omega]; exact HCC.out))]⟩
            case measure => simp [intOf]; omega
          case true =>
            unfold swapW at hSW hSC
            have HSW := Lib.hid hSW; have HSC := Lib.hid hSC; clear hSW hSC
            go_wp2_with fail
            go_region
            go_wp2_with fail
            go_roundw
            case rel => exact ⟨k, swp dj j k, rfl, by have := HK1.out; omega, by have := HK1.out; omega, by rw [size_swp]; exact HSJ.out, HSW.out.drew, (hc1.trans HSC.out).trans (Chg.drew _ _), by rw [← HI.out, insInner_go ltP a j dj hja (by rw [show j - 1 = k by have := HK1.out; omega]; exact HCC.out), show j - 1 = k by have := HK1.out; omega]⟩
            case measure => simp [intOf]; have := HK1.out; omega

end LstSort
end Go.Proofs.YtcionneopgdebaaGreat
