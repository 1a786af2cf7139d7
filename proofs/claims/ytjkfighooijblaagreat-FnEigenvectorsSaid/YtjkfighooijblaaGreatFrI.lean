/-
  Some texts of this proof in one: DrawN CutS Split FrQ FrI. Each part tells what it proves. By an AI agent.
-/
import Derived.Test.YtjkfighooijblaaGreatCur
import Derived.Test.YtjkfighooijblaaGreatNumT
import Derived.Test.YtjkfighooijblaaGreatNumP
import Derived.Deep.AppendLies
import Derived.Test.YtjkfighooijblaaGreatFrP
import Derived.StillTailTactics

/-
  The numbers and the texts that the cursor draws. Printed by gen_drawn.py.
-/
namespace Go.Proofs.YtjkfighooijblaaGreat
open Go.RowKit

set_option maxHeartbeats 1600000 in
set_option maxRecDepth 100000 in
theorem num_c (c n : Nat) (w : World) (h : Cur w c n) (hn : n ≤ 4611686018427380000) :
    Calls Tryz.prog 77 #[.pointer (some ⟨c, 0, none⟩)] w (SomeI (fun x => numB x = true) c (n + 4) w) := by
  have hcl := h.lt
  have H := Lib.hid h; clear h
  go_enter Tryz.func77, Tryz.ntmps77
  have HF1 := Lib.hid (Chg.refl c w)
  go_wp2_with fail
  refine (pick_c 12 c n w H.out (by omega)).mono ?_
  rintro e w3 ⟨x2, rfl, hp4, hcu, hch⟩
  have HU5 := Lib.hid hcu; clear hcu
  have HF6 := Lib.hid (HF1.out.trans hch)
  clear hch
  have hz7 := HF6.out.size
  by_cases h1 : x2 = 0
  case pos =>
    subst h1
    go_wp2_with fail
    go_ret
    exact ⟨_, rfl, by decide, HU5.out.mono (by omega), HF6.out⟩
  case neg =>
    have e1 : (x2 == 0) = false := beq_eq_false_iff_ne.2 h1
    by_cases h2 : x2 = 1
    case pos =>
      subst h2
      go_wp2_with fail
      have HU11 := Lib.hid (HU5.out.below ((Below.refl _ _).alloc (Nat.le_refl _) (.cells #[.int .i64 1000000, .int .i64 (-1000000), .int .i64 500000, .int .i64 (-500001)] 3)))
      have hl12 := HU5.out.lt
      have HF13 := Lib.hid (HF6.out.trans (Chg.alloc c w3 (.cells #[.int .i64 1000000, .int .i64 (-1000000), .int .i64 500000, .int .i64 (-500001)] 3)))
      refine (among_c w3.heap.size 4 [1000000, -1000000, 500000, -500001] c (n + 2) (w3.alloc (.cells #[.int .i64 1000000, .int .i64 (-1000000), .int .i64 500000, .int .i64 (-500001)] 3)) HU11.out (by omega) (by simp) (by simp) (by omega) (Own.newA w3 _ 3 rfl)).mono ?_
      rintro e w9 ⟨x8, rfl, hx, hcu, hch⟩
      have hm10 : x8 = 1000000 ∨ x8 = -1000000 ∨ x8 = 500000 ∨ x8 = -500001 := by simp at hx; omega
      clear hx
      have HU14 := Lib.hid hcu; clear hcu
      have HF15 := Lib.hid (HF13.out.trans hch)
      clear hch
      have hz16 := HF15.out.size
      have hg : numB x8 = true := by rcases hm10 with h | h | h | h <;> (rw [h]; decide)
      have HG := Lib.hid hg; clear hg hm10
      go_wp2_with fail
      go_ret
      exact ⟨_, rfl, HG.out, HU14.out.mono (by omega), HF15.out⟩
    case neg =>
      have e2 : (x2 == 1) = false := beq_eq_false_iff_ne.2 h2
      go_wp2_with fail
      refine (pick_c 13 c (n + 2) w3 HU5.out (by omega)).mono ?_
      rintro e w18 ⟨x17, rfl, hp19, hcu, hch⟩
      have HU20 := Lib.hid hcu; clear hcu
      have HF21 := Lib.hid (HF6.out.trans hch)
      clear hch
      have hz22 := HF21.out.size
      have w1 : IntKind.i64.wrap (x17 - 4) = x17 - 4 := i64_small (by omega) (by omega)
      have HG := Lib.hid (show numB (x17 - 4) = true by unfold numB; rw [show inB (x17 - 4) (-1000000) 1000000 = true from inB_t.2 (by omega)]; rfl)
      go_wp2_with fail
      go_ret
      exact ⟨_, rfl, HG.out, HU20.out.mono (by omega), HF21.out⟩

set_option maxHeartbeats 1600000 in
set_option maxRecDepth 100000 in
theorem anyNum_c (c n : Nat) (w : World) (h : Cur w c n) (hn : n ≤ 4611686018427370000) :
    Calls Tryz.prog 42 #[.pointer (some ⟨c, 0, none⟩)] w (SomeI (fun _ => True) c (n + 6) w) := by
  have hcl := h.lt
  have H := Lib.hid h; clear h
  go_enter Tryz.func42, Tryz.ntmps42
  have HF1 := Lib.hid (Chg.refl c w)
  go_wp2_with fail
  refine (one_c 12 c n w H.out (by omega)).mono ?_
  rintro e w3 ⟨b2, rfl, hcu, hch⟩
  have HU4 := Lib.hid hcu; clear hcu
  have HF5 := Lib.hid (HF1.out.trans hch)
  clear hch
  have hz6 := HF5.out.size
  cases b2
  case true =>
    go_wp2_with fail
    have HU10 := Lib.hid (HU4.out.below ((Below.refl _ _).alloc (Nat.le_refl _) (.cells #[.int .i64 1000001, .int .i64 (-1000001), .int .i64 1000000001, .int .i64 999999999, .int .i64 (-9223372036854775808), .int .i64 9223372036854775807] 3)))
    have hl11 := HU4.out.lt
    have HF12 := Lib.hid (HF5.out.trans (Chg.alloc c w3 (.cells #[.int .i64 1000001, .int .i64 (-1000001), .int .i64 1000000001, .int .i64 999999999, .int .i64 (-9223372036854775808), .int .i64 9223372036854775807] 3)))
    refine (among_c w3.heap.size 6 [1000001, -1000001, 1000000001, 999999999, -9223372036854775808, 9223372036854775807] c (n + 2) (w3.alloc (.cells #[.int .i64 1000001, .int .i64 (-1000001), .int .i64 1000000001, .int .i64 999999999, .int .i64 (-9223372036854775808), .int .i64 9223372036854775807] 3)) HU10.out (by omega) (by simp) (by simp) (by omega) (Own.newA w3 _ 3 rfl)).mono ?_
    rintro e w8 ⟨x7, rfl, hx, hcu, hch⟩
    clear hx
    have HU13 := Lib.hid hcu; clear hcu
    have HF14 := Lib.hid (HF12.out.trans hch)
    clear hch
    have hz15 := HF14.out.size
    go_wp2_with fail
    go_ret
    exact ⟨_, rfl, trivial, HU13.out.mono (by omega), HF14.out⟩
  case false =>
    go_wp2_with fail
    refine (num_c c (n + 2) w3 HU4.out (by omega)).mono ?_
    rintro e w9 ⟨x9, rfl, hx9, hcu, hch⟩
    have HU16 := Lib.hid hcu; clear hcu
    have HF17 := Lib.hid (HF5.out.trans hch)
    clear hch
    have hz18 := HF17.out.size
    go_wp2_with fail
    go_ret
    exact ⟨_, rfl, trivial, HU16.out.mono (by omega), HF17.out⟩

/-- Strings of a block. -/
def strs (xs : List ByteArray) : List Value := xs.map Value.string
def SomeS (P : ByteArray → Prop) (c n : Nat) (w : World) (e : Ending) (w' : World) : Prop := ∃ u : ByteArray, e = .returned (.string u) ∧ P u ∧ Cur w' c n ∧ Chg c w w'

theorem slice_to (s : ByteArray) (i : Int) (h0 : 0 ≤ i) (h : i ≤ s.size) (w : World) :
    (Instr.slice 9 (.string s) none (some (.int .i64 i)) none).run Tryz.prog w = .ok (.string (s.extract 0 i.toNat)) w := by
  simp [Instr.slice, Instr.sliceBounds, Instr.sliceBound, asIntOf, run_underlying (P := Tryz.prog) Tryz.underlying9, h0, h]
theorem add_str (a b : ByteArray) (h : a.size + b.size ≤ 9223372036854775807) (w : World) : (Op.stringOp .add a b).run Tryz.prog w = .ok (.string (a ++ b)) w := run_string_add_sum w a b h

end Go.Proofs.YtjkfighooijblaaGreat

/-
  Cutting a text and reading a number: the library's, with what they ask of the world.
-/
namespace Go.Proofs.YtjkfighooijblaaGreat
open Go.RowKit

theorem Tryz.infoS : (Tryz.prog.info? 9).map (fun i => (i.zero, i.size, i.bytes)) = some (some (.string ⟨#[]⟩), 1, 16) := by kernel_rfl

theorem appB {B : Nat} {u wr w2 : World} {E : TypeId} {size n : Nat} {v : Value} {xs : List Value} {o : Obj} (hb : Below B u wr) (hB : B ≤ wr.heap.size) (ho : wr.ownsRow B E size v n xs) (hg : (wr.alloc o).grownBy w2 v.ownBlock) : Below B u w2 :=
  (hb.alloc hB o).grown hg (by simp; omega) (fun q e => (ho.lt q e).1)
theorem rowE (w : World) (E : TypeId) : (w.alloc (.cells #[] E)).ownsRow w.heap.size E 1 (.slice (some ⟨w.heap.size, 0, none⟩) 0 0) 0 [] :=
  World.ownsRow_made w #[] 0 (Nat.le_refl _) (by decide) rfl
theorem rowC {w : World} {B : Nat} {E : TypeId} {size n m : Nat} {v : Value} {xs ys : List Value} (h : w.ownsRow B E size v n xs) (e : n = m) (e' : xs = ys) : w.ownsRow B E size v m ys := by subst e; subst e'; exact h

end Go.Proofs.YtjkfighooijblaaGreat

/-
  The reference's split of a text at a byte.
-/
namespace Go.Proofs.YtjkfighooijblaaGreat
open Go.RowKit

/-- The pieces of a text between bytes of one kind. -/
def splitB (b : Nat) : List UInt8 → List (List UInt8)
  | [] => [[]]
  | x :: xs => if x.toNat = b then [] :: splitB b xs else match splitB b xs with
    | p :: ps => (x :: p) :: ps
    | [] => [[x]]
theorem split_no {b : Nat} : ∀ (p : List UInt8), (∀ x ∈ p, x.toNat ≠ b) → splitB b p = [p]
  | [], _ => rfl
  | x :: p, h => by
    have ih := split_no p (fun y hy => h y (List.mem_cons_of_mem _ hy))
    rw [splitB, if_neg (h x (by simp)), ih]
theorem split_at {b : Nat} : ∀ (p r : List UInt8) (c : UInt8), (∀ x ∈ p, x.toNat ≠ b) → c.toNat = b → splitB b (p ++ c :: r) = p :: splitB b r
  | [], r, c, _, hc => by rw [List.nil_append, splitB, if_pos hc]
  | x :: p, r, c, h, hc => by
    have ih := split_at p r c (fun y hy => h y (List.mem_cons_of_mem _ hy)) hc
    rw [List.cons_append, splitB, if_neg (h x (by simp)), ih]
theorem slice_both (s : ByteArray) (i j : Nat) (h0 : i ≤ j) (h : j ≤ s.size) (w : World) :
    (Instr.slice 9 (.string s) (some (.int .i64 (i : Int))) (some (.int .i64 (j : Int))) none).run Tryz.prog w = .ok (.string (s.extract i j)) w := by
  simp [Instr.slice, Instr.sliceBounds, Instr.sliceBound, asIntOf, run_underlying (P := Tryz.prog) Tryz.underlying9, h0, h]
theorem extract_list (s : ByteArray) (i j : Nat) : (s.extract i j).toList = (s.toList.drop i).take (j - i) := by
  rw [ByteArray.toList_eq, ByteArray.toList_eq, ByteArray.data_extract, Array.toList_extract, List.extract]
theorem mem_piece {b : Nat} {l : List UInt8} {F k : Nat} (h : ∀ j, F ≤ j → j < k → (l.getD j 0).toNat ≠ b) : ∀ x ∈ (l.drop F).take (k - F), x.toNat ≠ b := fun x hx => by
  obtain ⟨i, hi, rfl⟩ := List.getElem_of_mem hx
  have hi' : i < k - F ∧ F + i < l.length := by
    rw [List.length_take, List.length_drop] at hi
    omega
  have := h (F + i) (by omega) (by omega)
  rw [List.getElem_take, List.getElem_drop]
  rw [List.getD_eq_getElem?_getD, List.getElem?_eq_getElem hi'.2, Option.getD_some] at this
  exact this
theorem drop_cut {l : List UInt8} {F k : Nat} (hF : F ≤ k) (hk : k < l.length) : l.drop F = (l.drop F).take (k - F) ++ l.getD k 0 :: l.drop (k + 1) := by
  have h1 : (l.drop F).drop (k - F) = l.getD k 0 :: l.drop (k + 1) := by
    rw [List.drop_drop, show F + (k - F) = k by omega, List.drop_eq_getElem_cons hk, List.getD_eq_getElem?_getD, List.getElem?_eq_getElem hk, Option.getD_some]
  rw [← h1, List.take_append_drop]

end Go.Proofs.YtjkfighooijblaaGreat

/-
  Fractions' texts and their readings, plain. No program in sight.
-/
namespace Go.Proofs.YtjkfighooijblaaGreat
open Lib (decDigits decFrom digitVal)

def frTxt (f : Fr) : List UInt8 := if f.d = 1 then Lib.itoa f.n else Lib.itoa f.n ++ 47 :: Lib.itoa f.d
theorem digits_lenW {u : Nat} (h : u ≤ 1000000000) : 1 ≤ (decDigits u).length ∧ (decDigits u).length ≤ 10 := by
  rw [Lib.decDigits_length]
  refine ⟨Lib.nDigits_pos u, ?_⟩
  rcases Nat.lt_or_ge 10 (Lib.nDigits u) with h7 | h7
  · exfalso
    have := nDig_low u (by omega)
    obtain ⟨k, hk⟩ : ∃ k, Lib.nDigits u = k + 11 := ⟨Lib.nDigits u - 11, by omega⟩
    have h10 : (10 : Nat) ^ 10 = 10000000000 := by decide
    have h11 : (10 : Nat) ^ 10 ≤ 10 ^ (k + 11 - 1) := Nat.pow_le_pow_right (by omega) (by omega)
    rw [hk] at this
    omega
  · exact h7
theorem itoa_lenW {n : Int} (h : -1000000000 ≤ n ∧ n ≤ 1000000000) : (Lib.itoa n).length ≤ 11 := by
  unfold Lib.itoa
  split
  · have := digits_lenW (u := n.natAbs) (by omega)
    simp
    omega
  · have := digits_lenW (u := n.toNat) (by omega)
    omega
theorem atoi_itoaW (n : Int) : Lib.atoi (Lib.itoa n) = some n := by
  have hdn : ∀ u, Lib.decNat (decDigits u) = some u := fun u => by
    unfold Lib.decNat
    have hne : (decDigits u).isEmpty = false := by
      have h1 := Lib.decDigits_length u
      have h2 := Lib.nDigits_pos u
      cases hd : decDigits u with
      | nil => rw [hd, List.length_nil] at h1; omega
      | cons _ _ => rfl
    rw [hne, decFrom_digits]; rfl
  unfold Lib.itoa
  by_cases hn : n < 0
  · rw [if_pos hn]
    show (if ((45 : UInt8) == 45) = true then (Lib.decNat (decDigits n.natAbs)).map fun (m : Nat) => -(m : Int) else if ((45 : UInt8) == 43) = true then (Lib.decNat (decDigits n.natAbs)).map fun (m : Nat) => (m : Int) else (Lib.decNat (45 :: decDigits n.natAbs)).map fun (m : Nat) => (m : Int)) = some n
    rw [if_pos (by rfl), hdn]
    simp only [Option.map_some]
    congr 1; omega
  · rw [if_neg hn]
    have hh := head_digits n.toNat
    have hd := hdn n.toNat
    cases hc : decDigits n.toNat with
    | nil => rw [hc] at hd; exact absurd hd (by simp [Lib.decNat])
    | cons b r =>
      rw [hc] at hd hh
      simp only [List.getD_cons_zero] at hh
      show (if (b == 45) = true then (Lib.decNat r).map fun (m : Nat) => -(m : Int) else if (b == 43) = true then (Lib.decNat r).map fun (m : Nat) => (m : Int) else (Lib.decNat (b :: r)).map fun (m : Nat) => (m : Int)) = some n
      rw [if_neg (fun h => by have : b = 45 := by simpa using h
                              subst this; exact absurd hh.1 (by decide)), if_neg (fun h => by have : b = 43 := by simpa using h
                                                                                              subst this; exact absurd hh.1 (by decide)), hd]
      simp only [Option.map_some]
      congr 1; omega
theorem itoa_pos {n : Int} (h : 0 ≤ n) : Lib.itoa n = decDigits n.toNat := by
  unfold Lib.itoa
  rw [if_neg (by omega)]

/-! ### The program's reading -/
def cutP (l : List UInt8) : List UInt8 := (Lib.cut l [47]).1
def cutR (l : List UInt8) : List UInt8 := (Lib.cut l [47]).2.1
def cutK (l : List UInt8) : Bool := (Lib.cut l [47]).2.2
def denA (l : List UInt8) : Option Int := if cutK l = true then Lib.atoi (cutR l) else some 1
def parA (l : List UInt8) : Option Fr := match Lib.atoi (cutP l) with
  | some n => match denA l with
    | some d => some ⟨n, d⟩
    | none => none
  | none => none
def fitB (l : List UInt8) (f : Fr) : Bool := frB f && decide (frTxt f = l)
def fparB (l : List UInt8) : Bool := match parA l with
  | some f => fitB l f
  | none => false
def fparF (l : List UInt8) : Fr := match parA l with
  | some f => f
  | none => Fr.z
/-! ### The reference's reading -/
def frReadF (l : List UInt8) : Int := if inB l.length 1 10 = true then (match Lib.decFrom 0 l with | some n => (n : Int) | none => -1) else -1
def minusB (l : List UInt8) : Bool := match l with
  | [] => false
  | x :: _ => decide (x.toNat = 45)
def numW (l : List UInt8) : Int := if minusB l = true then -frReadF (l.drop 1) else frReadF l
def parW (l : List UInt8) : Fr := ⟨numW ((splitB 47 l).getD 0 []), if (splitB 47 l).length = 2 then frReadF ((splitB 47 l).getD 1 []) else 1⟩
def fparW (l : List UInt8) : Bool := decide ((splitB 47 l).length ≤ 2) && fitB l (parW l)

theorem fit_t {l : List UInt8} {f : Fr} : fitB l f = true ↔ frB f = true ∧ frTxt f = l := by
  unfold fitB
  rw [Bool.and_eq_true_iff, decide_eq_true_iff]
theorem frRead_digits {u : Nat} (h : u ≤ 1000000000) : frReadF (decDigits u) = u := by
  obtain ⟨h1, h2⟩ := digits_lenW h
  unfold frReadF
  rw [if_pos (inB_t.2 (by omega)), decFrom_digits]
theorem numW_itoa {n : Int} (h : -1000000000 ≤ n ∧ n ≤ 1000000000) : numW (Lib.itoa n) = n := by
  unfold numW Lib.itoa
  by_cases hn : n < 0
  · rw [if_pos hn]
    rw [show minusB (45 :: decDigits n.natAbs) = true from rfl, if_pos rfl, show (45 :: decDigits n.natAbs).drop 1 = decDigits n.natAbs from rfl, frRead_digits (by omega)]
    omega
  · rw [if_neg hn]
    have hh := head_digits n.toNat
    have hm : minusB (decDigits n.toNat) = false := by
      cases hc : decDigits n.toNat with
      | nil => rfl
      | cons b r =>
        rw [hc] at hh
        simp only [List.getD_cons_zero] at hh
        exact decide_eq_false (by omega)
    rw [hm, if_neg (by simp), frRead_digits (by omega)]
    omega
theorem itoa47 (n : Int) : (47 : UInt8) ∉ Lib.itoa n := itoa_no (by decide) (by decide)
theorem itoa47' (n : Int) : ∀ x ∈ Lib.itoa n, x.toNat ≠ 47 := fun x hx e => by
  have := itoa_in n x hx
  omega
theorem cut_no {l : List UInt8} {c : UInt8} (h : c ∉ l) : Lib.cut l [c] = (l, [], false) := by
  unfold Lib.cut
  rw [Lib.index_one, indexByte_no l c h, if_neg (by omega)]
/-- THE TWO READ A FRACTION'S TEXT AS THE FRACTION. -/
theorem par_txt {f : Fr} (h : frB f = true) : parA (frTxt f) = some f ∧ (splitB 47 (frTxt f)).length ≤ 2 ∧ parW (frTxt f) = f := by
  obtain ⟨hn, hd, _⟩ := frB_t.1 h
  obtain ⟨n, d⟩ := f
  simp only at hn hd
  unfold parA denA cutP cutR cutK parW frTxt
  simp only
  by_cases h1 : d = 1
  · subst h1
    rw [if_pos rfl, cut_no (itoa47 n), split_no _ (itoa47' n)]
    refine ⟨?_, by simp, ?_⟩
    · simp only [atoi_itoaW]
      rfl
    · simp [numW_itoa hn]
  · rw [if_neg h1, cut_first _ _ _ (itoa47 n), split_at _ _ _ (itoa47' n) rfl, split_no _ (itoa47' d)]
    refine ⟨?_, by simp, ?_⟩
    · simp only [atoi_itoaW, if_true]
    · have e : frReadF (Lib.itoa d) = d := by
        rw [itoa_pos (by omega), frRead_digits (by omega)]
        omega
      simp [numW_itoa hn, e]
theorem fpar_t {l : List UInt8} (h : fparB l = true) : frB (fparF l) = true ∧ frTxt (fparF l) = l := by
  unfold fparB at h
  unfold fparF
  cases hp : parA l with
  | none => rw [hp] at h; exact absurd h (by simp)
  | some f => rw [hp] at h; exact fit_t.1 h
theorem fparW_t {l : List UInt8} (h : fparW l = true) : frB (parW l) = true ∧ frTxt (parW l) = l := by
  unfold fparW at h
  exact fit_t.1 (Bool.and_eq_true_iff.1 h).2
theorem fpar_txt {f : Fr} (h : frB f = true) : fparB (frTxt f) = true ∧ fparF (frTxt f) = f := by
  obtain ⟨h1, _, _⟩ := par_txt h
  unfold fparB fparF
  rw [h1]
  exact ⟨fit_t.2 ⟨h, rfl⟩, rfl⟩
theorem fparW_txt {f : Fr} (h : frB f = true) : fparW (frTxt f) = true ∧ parW (frTxt f) = f := by
  obtain ⟨_, h2, h3⟩ := par_txt h
  unfold fparW
  rw [h3]
  exact ⟨Bool.and_eq_true_iff.2 ⟨decide_eq_true h2, fit_t.2 ⟨h, rfl⟩⟩, rfl⟩
/-- Both readings are the same. -/
theorem fpar_eq (l : List UInt8) : fparW l = fparB l ∧ (fparB l = true → parW l = fparF l) := by
  cases h : fparB l
  · refine ⟨?_, fun h => by cases h⟩
    cases g : fparW l
    · rfl
    · obtain ⟨h1, h2⟩ := fparW_t g
      have := (fpar_txt h1).1
      rw [h2, h] at this
      exact absurd this (by simp)
  · obtain ⟨h1, h2⟩ := fpar_t h
    obtain ⟨g1, g2⟩ := fparW_txt h1
    rw [h2] at g1 g2
    exact ⟨g1, fun _ => g2⟩
/-- The parts of a text are short. -/
def PF (l : List UInt8) : Prop := l.length ≤ 1000 ∧ (cutP l).length ≤ 18 ∧ (cutR l).length ≤ 18
theorem cut_lenF (l : List UInt8) : (cutP l).length ≤ l.length ∧ (cutR l).length ≤ l.length := by
  unfold cutP cutR Lib.cut
  split
  · simp
    omega
  · simp
theorem PF_short {l : List UInt8} (h : l.length ≤ 18) : PF l := ⟨by omega, by have := cut_lenF l; omega, by have := cut_lenF l; omega⟩
theorem frTxt_len {f : Fr} (h : frB f = true) : (frTxt f).length ≤ 23 := by
  obtain ⟨hn, hd, _⟩ := frB_t.1 h
  unfold frTxt
  have l1 := itoa_lenW hn
  have l2 := itoa_lenW (n := f.d) (by omega)
  split
  · omega
  · simp; omega
theorem PF_txt {f : Fr} (h : frB f = true) : PF (frTxt f) := by
  have hl := frTxt_len h
  obtain ⟨hn, hd, _⟩ := frB_t.1 h
  have l1 := itoa_lenW hn
  have l2 := itoa_lenW (n := f.d) (by omega)
  refine ⟨by omega, ?_⟩
  unfold cutP cutR frTxt
  by_cases h1 : f.d = 1
  · rw [if_pos h1, cut_no (itoa47 _)]
    exact ⟨by simp only; omega, by simp⟩
  · rw [if_neg h1, cut_first _ _ _ (itoa47 _)]
    exact ⟨by simp only; omega, by simp only; omega⟩

end Go.Proofs.YtjkfighooijblaaGreat

/-
  Fractions: the program's side. Printed by gen_frI.py.
-/
namespace Go.Proofs.YtjkfighooijblaaGreat
open Go.RowKit

/-- A fraction in a block of its own. -/
def FrO (w : World) (g : Nat) (f : Fr) : Prop := Own w g 30 [.int .i64 f.n, .int .i64 f.d]
theorem FrO.new (w : World) (a b : Int) {g : Nat} (hg : g = w.heap.size) : FrO (w.alloc (.cells #[.int .i64 a, .int .i64 b] 30)) g ⟨a, b⟩ := by
  subst hg
  exact Own.newA w _ _ rfl
theorem FrO.below {w w' : World} {g : Nat} {f : Fr} (h : FrO w g f) (hb : Below w.heap.size w w') : FrO w' g f := Own.belowAll h hb
theorem FrO.alloc {w : World} {g : Nat} {f : Fr} (h : FrO w g f) (o : Obj) : FrO (w.alloc o) g f := Own.alloc h o
theorem FrO.lt {w : World} {g : Nat} {f : Fr} (h : FrO w g f) : g < w.heap.size := Own.lt h
theorem FrO.chg {w w' : World} {g c : Nat} {f : Fr} (h : FrO w g f) (hc : Chg c w w') (hg : g ≠ c) : FrO w' g f := Own.chg h hc hg
theorem FrO.at {w : World} {g : Nat} {a b : Int} (h : FrO w g ⟨a, b⟩) : w.cell? ⟨g, 0, none⟩ = some (.int .i64 a) ∧ w.cell? ⟨g, 1, none⟩ = some (.int .i64 b) := ⟨Own.cell? h rfl, Own.cell? h rfl⟩
theorem FrO.fr {w : World} {g : Nat} {f : Fr} (h : FrO w g f) : w.frozen? ⟨g, 0, none⟩ = false ∧ w.frozen? ⟨g, 1, none⟩ = false := ⟨Own.frozen h 0, Own.frozen h 1⟩
def fr2 (w : World) (g : Nat) (a b : Int) : World := (w.setCell ⟨g, 0, none⟩ (.int .i64 a)).setCell ⟨g, 1, none⟩ (.int .i64 b)
theorem FrO.set {w : World} {g : Nat} {f : Fr} (h : FrO w g f) (a b : Int) : FrO (fr2 w g a b) g ⟨a, b⟩ := (Own.set h 0 (.int .i64 a)).set 1 (.int .i64 b)
theorem FrO.setOther {w : World} {g h : Nat} {f : Fr} (hl : FrO w g f) (hne : g ≠ h) (a b : Int) : FrO (fr2 w h a b) g f :=
  (Own.setOther hl (a := ⟨h, 0, none⟩) hne (.int .i64 a)).setOther (a := ⟨h, 1, none⟩) hne (.int .i64 b)
theorem fr2_below {u w : World} {g : Nat} {a b : Int} (h : Below u.heap.size u w) (hg : u.heap.size ≤ g) : Below u.heap.size u (fr2 w g a b) := by
  have h1 := (Chg.set g 0 w (.int .i64 a)).trans (Chg.set g 1 _ (.int .i64 b))
  exact bchg h h1 hg h.size
/-- The end of a function that gives a fraction by its cell. -/
theorem fr2_end {u w : World} {g : Nat} {f : Fr} {a b : Int} (h : FrO w g f) (hb : Below u.heap.size u w) (hg : u.heap.size ≤ g) : ∃ W, fr2 w g a b = W ∧ (W.cell? ⟨g, 0, none⟩ = some (.int .i64 a) ∧ W.cell? ⟨g, 1, none⟩ = some (.int .i64 b)) ∧ Below u.heap.size u W :=
  ⟨_, rfl, (h.set a b).at, fr2_below hb hg⟩
def frR (f : Fr) (k : Bool) : Value := .tuple #[frV (if k = true then f else Fr.z), .bool k]
theorem frR_f (f : Fr) : frR f false = .tuple #[frV Fr.z, .bool false] := rfl
theorem frR_t (f : Fr) : frR f true = .tuple #[frV f, .bool true] := rfl
theorem tdiv_bd (n s : Int) : (Int.tdiv n s).natAbs ≤ n.natAbs := by
  rw [Int.natAbs_tdiv]
  exact Nat.div_le_self _ _
theorem gcdN_bd {n d : Int} (hd : d ≠ 0) : 0 < gcdN n d ∧ gcdN n d ≤ d.natAbs := by
  unfold gcdN
  have h : 0 < Int.gcd n d := Nat.pos_of_ne_zero (fun h => hd (Int.gcd_eq_zero_iff.1 h).2)
  have h2 : Int.gcd n d ≤ d.natAbs := Nat.le_of_dvd (by omega) (Nat.gcd_dvd_right _ _)
  omega
theorem mulbF {k m K M : Int} (hK : 0 ≤ K) (hk : -K ≤ k ∧ k ≤ K) (hm : -M ≤ m ∧ m ≤ M) : -(K * M) ≤ k * m ∧ k * m ≤ K * M := by
  have h1 : k.natAbs ≤ K.toNat := by omega
  have h2 : m.natAbs ≤ M.toNat := by omega
  have h3 : (k * m).natAbs ≤ K.toNat * M.toNat := by rw [Int.natAbs_mul]; exact Nat.mul_le_mul h1 h2
  have h4 : ((K.toNat * M.toNat : Nat) : Int) = K * M := by rw [Int.natCast_mul, Int.toNat_of_nonneg hK, Int.toNat_of_nonneg (by omega)]
  omega
theorem mulb9 {k m : Int} (hk : -1000000000 ≤ k ∧ k ≤ 1000000000) (hm : -1000000000 ≤ m ∧ m ≤ 1000000000) : -1000000000000000000 ≤ k * m ∧ k * m ≤ 1000000000000000000 := by
  have := mulbF (K := 1000000000) (M := 1000000000) (by omega) hk hm
  omega
set_option maxHeartbeats 800000 in
set_option maxRecDepth 100000 in
theorem frGood_c (f : Fr) (w : World) :
    Calls Tryz.prog 94 #[frV f] w fun e w' => e = .returned (.bool (frB f)) ∧ Below w.heap.size w w' := by
  obtain ⟨a, b⟩ := f
  have c1 := fun w => l1In_any a (-1000000000) 1000000000 w
  have c2 := fun w => l1In_any b 1 1000000000 w
  have ha := fun h => inB_t.1 (show inB a (-1000000000) 1000000000 = true from h)
  have hb := fun h => inB_t.1 (show inB b 1 1000000000 = true from h)
  unfold frV frB
  simp only
  generalize inB a (-1000000000) 1000000000 = u at c1 ha ⊢
  generalize inB b 1 1000000000 = v at c2 hb ⊢
  have C1 := Lib.hid c1; have C2 := Lib.hid c2; clear c1 c2
  have hb0 : Below w.heap.size w (w.alloc (.cells #[.int .i64 a, .int .i64 b] 30)) := (Below.refl _ _).alloc (Nat.le_refl _) _
  cases v
  case false =>
    clear ha hb
    rw [show (u && (false && decide (gcdN a b = 1))) = false by cases u <;> rfl]
    go_enter Tryz.func94, Tryz.ntmps94
    go_wp2_with fail
    refine (C2.out _).mono ?_
    rintro e w1 ⟨rfl, rfl⟩
    go_wp2_with fail
    go_ret
    exact ⟨rfl, hb0⟩
  case true =>
    cases u
    case false =>
      clear ha hb
      rw [show (false && (true && decide (gcdN a b = 1))) = false from rfl]
      go_enter Tryz.func94, Tryz.ntmps94
      go_wp2_with fail
      refine (C2.out _).mono ?_
      rintro e w1 ⟨rfl, rfl⟩
      go_wp2_with fail
      refine (C1.out _).mono ?_
      rintro e w1 ⟨rfl, rfl⟩
      go_wp2_with fail
      go_ret
      exact ⟨rfl, hb0⟩
    case true =>
      have ha1 := ha rfl
      have hb1 := hb rfl
      have c3 := fun w => frGcdW_c a b w (by omega) (by omega)
      rw [show (true && (true && decide (gcdN a b = 1))) = decide (gcdN a b = 1) from rfl]
      obtain ⟨G, hG⟩ : ∃ G, gcdN a b = G := ⟨_, rfl⟩
      rw [hG] at c3 ⊢
      have hq : (G == 1) = decide (G = 1) := rfl
      generalize decide (G = 1) = q at hq ⊢
      have C3 := Lib.hid c3; clear c3 hG ha hb ha1 hb1
      go_enter Tryz.func94, Tryz.ntmps94
      go_wp2_with fail
      refine (C2.out _).mono ?_
      rintro e w1 ⟨rfl, rfl⟩
      go_wp2_with fail
      refine (C1.out _).mono ?_
      rintro e w1 ⟨rfl, rfl⟩
      go_wp2_with fail
      refine (C3.out _).mono ?_
      rintro e w3 ⟨rfl, hw3⟩
      go_wp2_with fail
      go_ret
      exact ⟨rfl, hb0.trans (hw3.mono hb0.size)⟩
set_option maxHeartbeats 1600000 in
set_option maxRecDepth 100000 in
theorem lowest_c (n d : Int) (w : World) (hd : d ≠ 0) (hn : -2000000000000000000 ≤ n ∧ n ≤ 2000000000000000000) (hdb : -2000000000000000000 ≤ d ∧ d ≤ 2000000000000000000) :
    Calls Tryz.prog 87 #[.int .i64 n, .int .i64 d] w fun e w' => e = .returned (frV (lowF n d)) ∧ Below w.heap.size w w' := by
  have c := fun w => gcdW_c n d w (by omega) (by omega)
  have hg := gcdN_bd (n := n) hd
  have hS : sgG n d = if d < 0 then -gcdN n d else gcdN n d := rfl
  have x1 := tdiv_bd n (sgG n d)
  have x2 := tdiv_bd d (sgG n d)
  unfold frV lowF
  simp only
  generalize gcdN n d = G at c hg hS
  generalize sgG n d = S at hS x1 x2 ⊢
  have hS0 : ¬ S = 0 := by rw [hS]; split <;> omega
  have hS1 : (S == 0) = false := beq_eq_false_iff_ne.2 hS0
  generalize hX : Int.tdiv n S = X at x1 ⊢
  generalize hY : Int.tdiv d S = Y at x2 ⊢
  have e1 : IntKind.i64.wrap X = X := i64_small (by omega) (by omega)
  have e2 : IntKind.i64.wrap Y = Y := i64_small (by omega) (by omega)
  have hng : IntKind.i64.wrap (-G) = -G := i64_small (by omega) (by omega)
  have HNG := Lib.hid hng; clear hng
  have C := Lib.hid c; clear c hg x1 x2
  have hb0 : Below w.heap.size w (w.alloc (.cells #[.int .i64 0, .int .i64 0] 30)) := (Below.refl _ _).alloc (Nat.le_refl _) _
  by_cases hneg : d < 0
  · rw [if_pos hneg] at hS
    have g1 : decide (d < 0) = true := decide_eq_true hneg
    have hng : IntKind.i64.wrap (-G) = S := by rw [HNG.out, hS]
    clear hS
    have HN := Lib.hid hneg; clear hneg hn hdb
    go_enter Tryz.func87, Tryz.ntmps87
    go_wp2_with fail
    refine (C.out _).mono ?_
    rintro e w1 ⟨rfl, hw1⟩
    have o1 := (FrO.new w 0 0 rfl).below hw1
    have hb1 := hb0.trans (hw1.mono hb0.size)
    clear hw1 hb0
    go_wp2_with fail
    go_still_tail 7, (by kernel_rfl)
    change wpList _ _ _ _ _ w1.drew
    have o2 : FrO w1.drew _ _ := o1
    have hb2 := hb1.drew
    generalize w1.drew = w2 at o2 hb2 ⊢
    obtain ⟨y0, y1⟩ := o2.fr
    obtain ⟨x0, x1⟩ := o2.at
    go_wp2_with fail
    obtain ⟨W, hW, ⟨q0, q1⟩, hB⟩ := fr2_end (a := X) (b := Y) o2 hb2 (by omega)
    unfold fr2 at hW
    rw [hW]
    exact bodyPost_ret (v := .agg #[.int .i64 X, .int .i64 Y]) (by simp [results, Tryz.results87, go_sem, q0, q1]) rfl ⟨rfl, hB⟩
  · rw [if_neg hneg] at hS
    have g1 : decide (d < 0) = false := decide_eq_false hneg
    subst hS
    have HN := Lib.hid hneg; clear hneg hn hdb
    go_enter Tryz.func87, Tryz.ntmps87
    go_wp2_with fail
    refine (C.out _).mono ?_
    rintro e w1 ⟨rfl, hw1⟩
    have o1 := (FrO.new w 0 0 rfl).below hw1
    have hb1 := hb0.trans (hw1.mono hb0.size)
    clear hw1 hb0
    go_wp2_with fail
    go_still_tail 7, (by kernel_rfl)
    change wpList _ _ _ _ _ w1.drew
    have o2 : FrO w1.drew _ _ := o1
    have hb2 := hb1.drew
    generalize w1.drew = w2 at o2 hb2 ⊢
    obtain ⟨y0, y1⟩ := o2.fr
    obtain ⟨x0, x1⟩ := o2.at
    go_wp2_with fail
    obtain ⟨W, hW, ⟨q0, q1⟩, hB⟩ := fr2_end (a := X) (b := Y) o2 hb2 (by omega)
    unfold fr2 at hW
    rw [hW]
    exact bodyPost_ret (v := .agg #[.int .i64 X, .int .i64 Y]) (by simp [results, Tryz.results87, go_sem, q0, q1]) rfl ⟨rfl, hB⟩
end Go.Proofs.YtjkfighooijblaaGreat
