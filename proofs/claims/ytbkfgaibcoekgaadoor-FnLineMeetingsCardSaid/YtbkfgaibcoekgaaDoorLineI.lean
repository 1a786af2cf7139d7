/-
  Lines: the program's side.
-/
import Derived.Test.YtbkfgaibcoekgaaDoorLineP
import Derived.Test.YtbkfgaibcoekgaaDoorNum
namespace Go.Proofs.YtbkfgaibcoekgaaDoor
open Go.RowKit

theorem areThree_c (a b c : Int) (g : Nat) (w : World) (ho : Own w g 3 (ints [a, b, c])) :
    Calls Tryd.prog 30 #[.slice (some ⟨g, 0, none⟩) 3 3] w fun e w' => e = .returned (.bool (lnB ⟨a, b, c⟩)) ∧ w = w' := by
  have cc := areFinite_c (some ⟨g, 0, none⟩) 3 [a, b, c] w ho.rd (by simp)
  have e : [a, b, c].all finB = lnB ⟨a, b, c⟩ := by simp [lnB, finB, finB']
  rw [e] at cc
  exact cc
theorem areThree_n (a b c : Int) (g : Nat) (w : World) (hg : g = w.heap.size) :
    Calls Tryd.prog 30 #[.slice (some ⟨g, 0, none⟩) 3 3] (w.alloc (.cells #[.int .i64 a, .int .i64 b, .int .i64 c] 3)) fun e w' => e = .returned (.bool (lnB ⟨a, b, c⟩)) ∧ (w.alloc (.cells #[.int .i64 a, .int .i64 b, .int .i64 c] 3)) = w' := by
  subst hg
  exact areThree_c a b c _ _ (Own.newA w _ 3 rfl)
theorem areTwoF_n (a b : Int) (g : Nat) (w : World) (hg : g = w.heap.size) :
    Calls Tryd.prog 30 #[.slice (some ⟨g, 0, none⟩) 2 2] (w.alloc (.cells #[.int .i64 a, .int .i64 b] 3)) fun e w' => e = .returned (.bool (askP a b)) ∧ (w.alloc (.cells #[.int .i64 a, .int .i64 b] 3)) = w' := by
  subst hg
  have cc := areFinite_c (some ⟨w.heap.size, 0, none⟩) 2 [a, b] _ (Own.newA w #[.int .i64 a, .int .i64 b] 3 (cs := ints [a, b]) rfl).rd (by simp)
  have e : [a, b].all finB = askP a b := by simp [askP, finB, finB']
  rw [e] at cc
  exact cc
/-- A line in a block of its own. -/
def LnO (w : World) (g : Nat) (l : Ln) : Prop := Own w g 24 [.int .i64 l.a, .int .i64 l.b, .int .i64 l.c]
theorem LnO.new (w : World) (a b c : Int) {g : Nat} (hg : g = w.heap.size) : LnO (w.alloc (.cells #[.int .i64 a, .int .i64 b, .int .i64 c] 24)) g ⟨a, b, c⟩ := by
  subst hg
  exact Own.newA w _ _ rfl
theorem LnO.below {w w' : World} {g : Nat} {l : Ln} (h : LnO w g l) (hb : Below w.heap.size w w') : LnO w' g l := Own.belowAll h hb
theorem LnO.at {w : World} {g : Nat} {a b c : Int} (h : LnO w g ⟨a, b, c⟩) : w.cell? ⟨g, 0, none⟩ = some (.int .i64 a) ∧ w.cell? ⟨g, 1, none⟩ = some (.int .i64 b) ∧ w.cell? ⟨g, 2, none⟩ = some (.int .i64 c) := ⟨Own.cell? h rfl, Own.cell? h rfl, Own.cell? h rfl⟩
theorem LnO.fr {w : World} {g : Nat} {l : Ln} (h : LnO w g l) : w.frozen? ⟨g, 0, none⟩ = false ∧ w.frozen? ⟨g, 1, none⟩ = false ∧ w.frozen? ⟨g, 2, none⟩ = false := ⟨Own.frozen h 0, Own.frozen h 1, Own.frozen h 2⟩

def ln3 (w : World) (g : Nat) (a b c : Int) : World := ((w.setCell ⟨g, 0, none⟩ (.int .i64 a)).setCell ⟨g, 1, none⟩ (.int .i64 b)).setCell ⟨g, 2, none⟩ (.int .i64 c)
theorem LnO.set {w : World} {g : Nat} {l : Ln} (h : LnO w g l) (a b c : Int) : LnO (ln3 w g a b c) g ⟨a, b, c⟩ := by
  have h1 := ((Own.set h 0 (.int .i64 a)).set 1 (.int .i64 b)).set 2 (.int .i64 c)
  exact h1
theorem ln3_below {u w : World} {g : Nat} {a b c : Int} (h : Below u.heap.size u w) (hg : u.heap.size ≤ g) : Below u.heap.size u (ln3 w g a b c) := by
  have h1 := ((Chg.set g 0 w (.int .i64 a)).trans (Chg.set g 1 _ (.int .i64 b))).trans (Chg.set g 2 _ (.int .i64 c))
  exact bchg h h1 hg h.size
/-- The end of a function that gives a line by its cell. -/
theorem ln3_end {u w : World} {g : Nat} {l : Ln} {a b c : Int} (h : LnO w g l) (hb : Below u.heap.size u w) (hg : u.heap.size ≤ g) : ∃ W, ln3 w g a b c = W ∧ (W.cell? ⟨g, 0, none⟩ = some (.int .i64 a) ∧ W.cell? ⟨g, 1, none⟩ = some (.int .i64 b) ∧ W.cell? ⟨g, 2, none⟩ = some (.int .i64 c)) ∧ Below u.heap.size u W :=
  ⟨_, rfl, (h.set a b c).at, ln3_below hb hg⟩

set_option maxHeartbeats 800000 in
theorem isLine_c (l : Ln) (w : World) :
    Calls Tryd.prog 24 #[lnV l] w fun e w' => e = .returned (.bool (lnB l)) ∧ Below w.heap.size w w' := by
  obtain ⟨a, b, c⟩ := l
  have cf := areThree_n a b c
  unfold lnV
  simp only
  generalize lnB ⟨a, b, c⟩ = u at cf ⊢
  have CF := Lib.hid cf; clear cf
  go_enter Tryd.func24, Tryd.ntmps24
  go_wp2_with fail
  refine (CF.out _ _ (by simp)).mono ?_
  rintro e w1 ⟨rfl, rfl⟩
  go_wp2_with fail
  go_ret
  exact ⟨rfl, ((Below.refl _ _).alloc (Nat.le_refl _) _).alloc (by simp) _⟩

set_option maxHeartbeats 800000 in
theorem iIsLine_c (l : Ln) (w : World) :
    Calls Tryd.prog 11 #[lnV l] w fun e w' => e = .returned (.bool (lnB l)) ∧ Below w.heap.size w w' := by
  have cf := fun w => isLine_c l w
  obtain ⟨a, b, c⟩ := l
  unfold lnV at cf ⊢
  simp only at cf ⊢
  generalize lnB ⟨a, b, c⟩ = u at cf ⊢
  have CF := Lib.hid cf; clear cf
  go_enter Tryd.func11, Tryd.ntmps11
  go_wp2_with fail
  refine (CF.out _).mono ?_
  rintro e w1 ⟨rfl, hw1⟩
  go_wp2_with fail
  go_ret
  exact ⟨rfl, ((Below.refl _ _).alloc (Nat.le_refl _) _).trans (hw1.mono (by simp))⟩

def ptR (x y : Int) : Value := .tuple #[.int .i64 (if askP x y = true then x else 0), .int .i64 (if askP x y = true then y else 0), .bool (askP x y)]
set_option maxHeartbeats 800000 in
theorem toldPoint_c (x y : Int) (w : World) :
    Calls Tryd.prog 25 #[.int .i64 x, .int .i64 y] w fun e w' => e = .returned (ptR x y) ∧ Below w.heap.size w w' := by
  have cf := areTwoF_n x y
  unfold ptR
  generalize askP x y = u at cf ⊢
  have CF := Lib.hid cf; clear cf
  cases u
  all_goals
    go_enter Tryd.func25, Tryd.ntmps25
    go_wp2_with fail
    refine (CF.out _ _ rfl).mono ?_
    rintro e w1 ⟨rfl, rfl⟩
    go_wp2_with fail
    go_ret3
    exact ⟨rfl, (Below.refl _ _).alloc (Nat.le_refl _) _⟩

def lnR (l : Ln) : Value := .tuple #[lnV (if lnB l = true then l else Ln.z), .bool (lnB l)]
set_option maxHeartbeats 800000 in
theorem toldLine_c (l : Ln) (w : World) :
    Calls Tryd.prog 34 #[lnV l] w fun e w' => e = .returned (lnR l) ∧ Below w.heap.size w w' := by
  have cf := fun w => isLine_c l w
  unfold lnR
  generalize lnB l = u at cf ⊢
  obtain ⟨a, b, c⟩ := l
  unfold lnV Ln.z at *
  simp only at cf ⊢
  have CF := Lib.hid cf; clear cf
  cases u
  case false =>
    go_enter Tryd.func34, Tryd.ntmps34
    go_wp2_with fail
    refine (CF.out _).mono ?_
    rintro e w1 ⟨rfl, hw1⟩
    have o1 := (LnO.new (g := w.heap.size + 1) (w.alloc (.cells #[.int .i64 a, .int .i64 b, .int .i64 c] 24)) 0 0 0 (by simp)).below hw1
    have p1 := ((LnO.new w a b c rfl).below ((Below.refl _ _).alloc (Nat.le_refl _) _)).below hw1
    have hb1 : Below w.heap.size w w1 := (((Below.refl _ _).alloc (Nat.le_refl _) _).alloc (by simp) _).trans (hw1.mono (by simp; omega))
    clear hw1
    obtain ⟨x0, x1, x2⟩ := o1.at
    obtain ⟨y0, y1, y2⟩ := o1.fr
    obtain ⟨z0, z1, z2⟩ := p1.at
    go_wp2_with fail
    obtain ⟨W, hW, ⟨q0, q1, q2⟩, hB⟩ := ln3_end (a := 0) (b := 0) (c := 0) o1 hb1 (by omega)
    unfold ln3 at hW
    rw [hW]
    exact bodyPost_ret (v := .tuple #[.agg #[.int .i64 0, .int .i64 0, .int .i64 0], .bool false]) (by simp [results, Tryd.results34, go_sem, q0, q1, q2]) rfl ⟨rfl, hB⟩
  case true =>
    go_enter Tryd.func34, Tryd.ntmps34
    go_wp2_with fail
    refine (CF.out _).mono ?_
    rintro e w1 ⟨rfl, hw1⟩
    have o1 := (LnO.new (g := w.heap.size + 1) (w.alloc (.cells #[.int .i64 a, .int .i64 b, .int .i64 c] 24)) 0 0 0 (by simp)).below hw1
    have p1 := ((LnO.new w a b c rfl).below ((Below.refl _ _).alloc (Nat.le_refl _) _)).below hw1
    have hb1 : Below w.heap.size w w1 := (((Below.refl _ _).alloc (Nat.le_refl _) _).alloc (by simp) _).trans (hw1.mono (by simp; omega))
    clear hw1
    obtain ⟨x0, x1, x2⟩ := o1.at
    obtain ⟨y0, y1, y2⟩ := o1.fr
    obtain ⟨z0, z1, z2⟩ := p1.at
    go_wp2_with fail
    obtain ⟨W, hW, ⟨q0, q1, q2⟩, hB⟩ := ln3_end (a := a) (b := b) (c := c) o1 hb1 (by omega)
    unfold ln3 at hW
    rw [hW]
    exact bodyPost_ret (v := .tuple #[.agg #[.int .i64 a, .int .i64 b, .int .i64 c], .bool true]) (by simp [results, Tryd.results34, go_sem, q0, q1, q2]) rfl ⟨rfl, hB⟩

/- The rest is printed by gen_lineI.py. -/

theorem lnB_bd {a b c : Int} (h : lnB ⟨a, b, c⟩ = true) : (-1000000 ≤ a ∧ a ≤ 1000000) ∧ (-1000000 ≤ b ∧ b ≤ 1000000) ∧ (-1000000 ≤ c ∧ c ≤ 1000000) := lnB_t.1 h
theorem askP_bd {a b : Int} (h : askP a b = true) : (-1000000 ≤ a ∧ a ≤ 1000000) ∧ (-1000000 ≤ b ∧ b ≤ 1000000) := by
  unfold askP at h
  rw [Bool.and_eq_true_iff, finB'_t, finB'_t] at h
  exact h
/-- A point told, with its coordinates found equal to given ones. -/
theorem toldPoint_e {x y X Y : Int} (w : World) (hx : x = X) (hy : y = Y) :
    Calls Tryd.prog 25 #[.int .i64 x, .int .i64 y] w fun e w' => e = .returned (ptR X Y) ∧ Below w.heap.size w w' := by
  subst hx; subst hy
  exact toldPoint_c x y w
theorem toldLine_e {a b c A B C : Int} (w : World) (hx : a = A) (hy : b = B) (hz : c = C) :
    Calls Tryd.prog 34 #[.agg #[.int .i64 a, .int .i64 b, .int .i64 c]] w fun e w' => e = .returned (lnR ⟨A, B, C⟩) ∧ Below w.heap.size w w' := by
  subst hx; subst hy; subst hz
  exact toldLine_c ⟨a, b, c⟩ w
theorem ptV3_f (x y : Int) : ptV3 x y false = .tuple #[.int .i64 0, .int .i64 0, .bool false] := rfl
theorem ptV3_t (x y : Int) : ptV3 x y true = ptR x y := rfl

set_option maxHeartbeats 800000 in
theorem centerOf_c (l : Ln) (w : World) :
    Calls Tryd.prog 19 #[lnV l] w fun e w' => e = .returned (ptV3 (l.c - l.a) (l.c - l.b) (lnB l)) ∧ Below w.heap.size w w' := by
  have cf := fun w => isLine_c l w
  obtain ⟨a, b, c⟩ := l
  unfold lnV at *
  simp only at cf ⊢
  have hbd := lnB_bd (a := a) (b := b) (c := c)
  generalize lnB ⟨a, b, c⟩ = u at cf hbd ⊢
  have CF := Lib.hid cf; clear cf
  have ct := fun w (x y : Int) (hx : x = c - a) (hy : y = c - b) => toldPoint_e w hx hy
  have hb0 : Below w.heap.size w (w.alloc (.cells #[.int .i64 a, .int .i64 b, .int .i64 c] 24)) := (Below.refl _ _).alloc (Nat.le_refl _) _
  cases u
  case false =>
    rw [ptV3_f]
    clear ct hbd
    go_enter Tryd.func19, Tryd.ntmps19
    go_wp2_with fail
    refine (CF.out _).mono ?_
    rintro e w1 ⟨rfl, hw1⟩
    go_wp2_with fail
    go_ret3
    exact ⟨rfl, hb0.trans (hw1.mono hb0.size)⟩
  case true =>
    rw [ptV3_t]
    have hbd' := hbd rfl
    clear hbd
    unfold ptR at ct ⊢
    generalize askP (c - a) (c - b) = k at ct ⊢
    generalize (if k = true then c - a else 0) = X at ct ⊢
    generalize (if k = true then c - b else 0) = Y at ct ⊢
    have CT := Lib.hid ct; clear ct
    have e1 : IntKind.i64.wrap (c - a) = c - a := i64_small (by omega) (by omega)
    have e2 : IntKind.i64.wrap (c - b) = c - b := i64_small (by omega) (by omega)
    go_enter Tryd.func19, Tryd.ntmps19
    go_wp2_with fail
    refine (CF.out _).mono ?_
    rintro e w1 ⟨rfl, hw1⟩
    obtain ⟨z0, z1, z2⟩ := ((LnO.new w a b c rfl).below hw1).at
    have hb1 := hb0.trans (hw1.mono hb0.size)
    clear hw1
    go_wp2_with fail
    refine (CT.out _ _ _ rfl rfl).mono ?_
    rintro e w2 ⟨rfl, hw2⟩
    go_wp2_with fail
    go_ret3
    exact ⟨rfl, ball hb1 hw2⟩

set_option maxHeartbeats 3200000 in
theorem iMeetingPoint_c (l m : Ln) (w : World) :
    Calls Tryd.prog 5 #[lnV l, lnV m] w fun e w' => e = .returned (ptV3 (meetX l m) (meetY l m) (lnB l && lnB m)) ∧ Below w.heap.size w w' := by
  have cl := fun w => isLine_c l w
  have cm := fun w => isLine_c m w
  obtain ⟨a, b, c⟩ := l
  obtain ⟨d, e', f⟩ := m
  unfold lnV at *
  simp only at cl cm ⊢
  have hbl := lnB_bd (a := a) (b := b) (c := c)
  have hbm := lnB_bd (a := d) (b := e') (c := f)
  generalize lnB ⟨a, b, c⟩ = u at cl hbl ⊢
  generalize lnB ⟨d, e', f⟩ = v at cm hbm ⊢
  have CL := Lib.hid cl; have CM := Lib.hid cm; clear cl cm
  have hb0 : Below w.heap.size w ((w.alloc (.cells #[.int .i64 a, .int .i64 b, .int .i64 c] 24)).alloc (.cells #[.int .i64 d, .int .i64 e', .int .i64 f] 24)) := ((Below.refl _ _).alloc (Nat.le_refl _) _).alloc (by simp) _
  have ol := (LnO.new w a b c rfl).below ((Below.refl _ _).alloc (Nat.le_refl _) (.cells #[.int .i64 d, .int .i64 e', .int .i64 f] 24))
  have om := LnO.new (g := w.heap.size + 1) (w.alloc (.cells #[.int .i64 a, .int .i64 b, .int .i64 c] 24)) d e' f (by simp)
  cases u
  case false =>
    rw [show (false && v) = false from rfl, ptV3_f]
    clear hbl hbm
    go_enter Tryd.func5, Tryd.ntmps5
    go_wp2_with fail
    refine (CL.out _).mono ?_
    rintro e w1 ⟨rfl, hw1⟩
    have ol1 := ol.below hw1
    have om1 := om.below hw1
    have hb1 := hb0.trans (hw1.mono hb0.size)
    clear ol om hw1 hb0
    obtain ⟨x0, x1, x2⟩ := ol1.at
    obtain ⟨y0, y1, y2⟩ := om1.at
    go_wp2_with fail
    go_ret3
    exact ⟨rfl, hb1⟩
  case true =>
    cases v
    case false =>
      rw [show (true && false) = false from rfl, ptV3_f]
      clear hbl hbm
      go_enter Tryd.func5, Tryd.ntmps5
      go_wp2_with fail
      refine (CL.out _).mono ?_
      rintro e w1 ⟨rfl, hw1⟩
      have ol1 := ol.below hw1
      have om1 := om.below hw1
      have hb1 := hb0.trans (hw1.mono hb0.size)
      clear ol om hw1 hb0
      obtain ⟨x0, x1, x2⟩ := ol1.at
      obtain ⟨y0, y1, y2⟩ := om1.at
      go_wp2_with fail
      refine (CM.out _).mono ?_
      rintro e w2 ⟨rfl, hw2⟩
      have ol2 := ol1.below hw2
      have om2 := om1.below hw2
      have hb2 := ball hb1 hw2
      clear ol1 om1 hw2 hb1 x0 x1 x2 y0 y1 y2
      obtain ⟨x0, x1, x2⟩ := ol2.at
      obtain ⟨y0, y1, y2⟩ := om2.at
      go_wp2_with fail
      go_ret3
      exact ⟨rfl, hb2⟩
    case true =>
      rw [show (true && true) = true from rfl, ptV3_t]
      have hbl' := hbl rfl
      have hbm' := hbm rfl
      clear hbl hbm
      have ct := fun w (x y : Int) (hx : x = (min (b + f) (e' + c) - min (a + e') (d + b))) (hy : y = (min (a + f) (d + c) - min (a + e') (d + b))) => toldPoint_e w (X := meetX ⟨a, b, c⟩ ⟨d, e', f⟩) (Y := meetY ⟨a, b, c⟩ ⟨d, e', f⟩) hx hy
      unfold ptR at ct ⊢
      generalize askP _ _ = k at ct ⊢
      generalize (if k = true then meetX _ _ else 0) = X at ct ⊢
      generalize (if k = true then meetY _ _ else 0) = Y at ct ⊢
      have CT := Lib.hid ct; clear ct
      have s0 : IntKind.i64.wrap (b + f) = b + f := i64_small (by omega) (by omega)
      have s1 : IntKind.i64.wrap (e' + c) = e' + c := i64_small (by omega) (by omega)
      have s2 : IntKind.i64.wrap (a + f) = a + f := i64_small (by omega) (by omega)
      have s3 : IntKind.i64.wrap (d + c) = d + c := i64_small (by omega) (by omega)
      have s4 : IntKind.i64.wrap (a + e') = a + e' := i64_small (by omega) (by omega)
      have s5 : IntKind.i64.wrap (d + b) = d + b := i64_small (by omega) (by omega)
      go_enter Tryd.func5, Tryd.ntmps5
      go_wp2_with fail
      refine (CL.out _).mono ?_
      rintro e w1 ⟨rfl, hw1⟩
      have ol1 := ol.below hw1
      have om1 := om.below hw1
      have hb1 := hb0.trans (hw1.mono hb0.size)
      clear ol om hw1 hb0
      obtain ⟨x0, x1, x2⟩ := ol1.at
      obtain ⟨y0, y1, y2⟩ := om1.at
      go_wp2_with fail
      refine (CM.out _).mono ?_
      rintro e w2 ⟨rfl, hw2⟩
      have ol2 := ol1.below hw2
      have om2 := om1.below hw2
      have hb2 := ball hb1 hw2
      clear ol1 om1 hw2 hb1 x0 x1 x2 y0 y1 y2
      obtain ⟨x0, x1, x2⟩ := ol2.at
      obtain ⟨y0, y1, y2⟩ := om2.at
      go_wp2_with fail
      all_goals
        refine (CT.out _ _ _ rfl rfl).mono ?_
        rintro e w3 ⟨rfl, hw3⟩
        go_wp2_with fail
        go_ret3
        exact ⟨rfl, ball hb2 hw3⟩

set_option maxHeartbeats 1600000 in
theorem iSameLine_c (l m : Ln) (w : World) :
    Calls Tryd.prog 7 #[lnV l, lnV m] w fun e w' => e = .returned (.tuple #[.bool (if (lnB l && lnB m) = true then sameB l m else false), .bool (lnB l && lnB m)]) ∧ Below w.heap.size w w' := by
  have cl := fun w => isLine_c l w
  have cm := fun w => isLine_c m w
  obtain ⟨a, b, c⟩ := l
  obtain ⟨d, e', f⟩ := m
  unfold lnV at *
  simp only at cl cm ⊢
  have hbl := lnB_bd (a := a) (b := b) (c := c)
  have hbm := lnB_bd (a := d) (b := e') (c := f)
  generalize lnB ⟨a, b, c⟩ = u at cl hbl ⊢
  generalize lnB ⟨d, e', f⟩ = v at cm hbm ⊢
  have CL := Lib.hid cl; have CM := Lib.hid cm; clear cl cm
  have hb0 : Below w.heap.size w ((w.alloc (.cells #[.int .i64 a, .int .i64 b, .int .i64 c] 24)).alloc (.cells #[.int .i64 d, .int .i64 e', .int .i64 f] 24)) := ((Below.refl _ _).alloc (Nat.le_refl _) _).alloc (by simp) _
  have ol := (LnO.new w a b c rfl).below ((Below.refl _ _).alloc (Nat.le_refl _) (.cells #[.int .i64 d, .int .i64 e', .int .i64 f] 24))
  have om := LnO.new (g := w.heap.size + 1) (w.alloc (.cells #[.int .i64 a, .int .i64 b, .int .i64 c] 24)) d e' f (by simp)
  cases u
  case false =>
    clear hbl hbm
    go_enter Tryd.func7, Tryd.ntmps7
    go_wp2_with fail
    refine (CL.out _).mono ?_
    rintro e w1 ⟨rfl, hw1⟩
    have ol1 := ol.below hw1
    have om1 := om.below hw1
    have hb1 := hb0.trans (hw1.mono hb0.size)
    clear ol om hw1 hb0
    obtain ⟨x0, x1, x2⟩ := ol1.at
    obtain ⟨y0, y1, y2⟩ := om1.at
    go_wp2_with fail
    go_ret2
    exact ⟨rfl, hb1⟩
  case true =>
    cases v
    case false =>
      clear hbl hbm
      go_enter Tryd.func7, Tryd.ntmps7
      go_wp2_with fail
      refine (CL.out _).mono ?_
      rintro e w1 ⟨rfl, hw1⟩
      have ol1 := ol.below hw1
      have om1 := om.below hw1
      have hb1 := hb0.trans (hw1.mono hb0.size)
      clear ol om hw1 hb0
      obtain ⟨x0, x1, x2⟩ := ol1.at
      obtain ⟨y0, y1, y2⟩ := om1.at
      go_wp2_with fail
      refine (CM.out _).mono ?_
      rintro e w2 ⟨rfl, hw2⟩
      have ol2 := ol1.below hw2
      have om2 := om1.below hw2
      have hb2 := ball hb1 hw2
      clear ol1 om1 hw2 hb1 x0 x1 x2 y0 y1 y2
      obtain ⟨x0, x1, x2⟩ := ol2.at
      obtain ⟨y0, y1, y2⟩ := om2.at
      go_wp2_with fail
      go_ret2
      exact ⟨rfl, hb2⟩
    case true =>
      have hbl' := hbl rfl
      have hbm' := hbm rfl
      clear hbl hbm
      rw [show (true && true) = true from rfl, if_pos rfl]
      unfold sameB
      simp only
      have s0 : IntKind.i64.wrap (a - d) = a - d := i64_small (by omega) (by omega)
      have s1 : IntKind.i64.wrap (c - f) = c - f := i64_small (by omega) (by omega)
      have s2 : IntKind.i64.wrap (b - e') = b - e' := i64_small (by omega) (by omega)
      have k1 : (a - d == c - f) = decide (a - d = c - f) := rfl
      have k2 : (b - e' == c - f) = decide (b - e' = c - f) := rfl
      generalize decide (a - d = c - f) = p at k1 ⊢
      generalize decide (b - e' = c - f) = q at k2 ⊢
      clear hbl' hbm'
      cases p
      all_goals
        go_enter Tryd.func7, Tryd.ntmps7
        go_wp2_with fail
        refine (CL.out _).mono ?_
        rintro e w1 ⟨rfl, hw1⟩
        have ol1 := ol.below hw1
        have om1 := om.below hw1
        have hb1 := hb0.trans (hw1.mono hb0.size)
        clear ol om hw1 hb0
        obtain ⟨x0, x1, x2⟩ := ol1.at
        obtain ⟨y0, y1, y2⟩ := om1.at
        go_wp2_with fail
        refine (CM.out _).mono ?_
        rintro e w2 ⟨rfl, hw2⟩
        have ol2 := ol1.below hw2
        have om2 := om1.below hw2
        have hb2 := ball hb1 hw2
        clear ol1 om1 hw2 hb1 x0 x1 x2 y0 y1 y2
        obtain ⟨x0, x1, x2⟩ := ol2.at
        obtain ⟨y0, y1, y2⟩ := om2.at
        go_wp2_with fail
        go_ret2
        exact ⟨rfl, hb2⟩

def mvR (l : Ln) (dx dy : Int) : Value := if (lnB l && askP dx dy) = true then lnR (moveL l dx dy) else .tuple #[lnV Ln.z, .bool false]
set_option maxHeartbeats 3200000 in
theorem iMoveLine_c (l : Ln) (dx dy : Int) (w : World) :
    Calls Tryd.prog 15 #[lnV l, .int .i64 dx, .int .i64 dy] w fun e w' => e = .returned (mvR l dx dy) ∧ Below w.heap.size w w' := by
  have cl := fun w => isLine_c l w
  have ca := areTwoF_n dx dy
  unfold mvR
  obtain ⟨a, b, c⟩ := l
  unfold lnV Ln.z at *
  unfold moveL
  simp only at cl ⊢
  have hbl := lnB_bd (a := a) (b := b) (c := c)
  have hbm := askP_bd (a := dx) (b := dy)
  generalize lnB ⟨a, b, c⟩ = u at cl hbl ⊢
  generalize askP dx dy = v at ca hbm ⊢
  have CL := Lib.hid cl; have CA := Lib.hid ca; clear cl ca
  have hb0 : Below w.heap.size w ((w.alloc (.cells #[.int .i64 a, .int .i64 b, .int .i64 c] 24)).alloc (.cells #[.int .i64 0, .int .i64 0, .int .i64 0] 24)) := ((Below.refl _ _).alloc (Nat.le_refl _) _).alloc (by simp) _
  have ol := (LnO.new w a b c rfl).below ((Below.refl _ _).alloc (Nat.le_refl _) (.cells #[.int .i64 0, .int .i64 0, .int .i64 0] 24))
  have om := LnO.new (g := w.heap.size + 1) (w.alloc (.cells #[.int .i64 a, .int .i64 b, .int .i64 c] 24)) 0 0 0 (by simp)
  cases u
  case false =>
    clear hbl hbm
    simp only [Bool.false_and, Bool.false_eq_true, if_false]
    go_enter Tryd.func15, Tryd.ntmps15
    go_wp2_with fail
    refine (CL.out _).mono ?_
    rintro e w1 ⟨rfl, hw1⟩
    have ol1 := ol.below hw1
    have om1 := om.below hw1
    have hb1 := hb0.trans (hw1.mono hb0.size)
    clear ol om hw1 hb0
    obtain ⟨x0, x1, x2⟩ := ol1.at
    obtain ⟨y0, y1, y2⟩ := om1.at
    obtain ⟨f0, f1, f2⟩ := om1.fr
    go_wp2_with fail
    obtain ⟨W, hW, ⟨q0, q1, q2⟩, hB⟩ := ln3_end (a := 0) (b := 0) (c := 0) om1 hb1 (by omega)
    unfold ln3 at hW
    rw [hW]
    exact bodyPost_ret (v := .tuple #[.agg #[.int .i64 0, .int .i64 0, .int .i64 0], .bool false]) (by simp [results, Tryd.results15, go_sem, q0, q1, q2]) rfl ⟨rfl, hB⟩
  case true =>
    cases v
    case false =>
      clear hbl hbm
      simp only [Bool.and_false, Bool.false_eq_true, if_false]
      go_enter Tryd.func15, Tryd.ntmps15
      go_wp2_with fail
      refine (CL.out _).mono ?_
      rintro e w1 ⟨rfl, hw1⟩
      have ol1 := ol.below hw1
      have om1 := om.below hw1
      have hb1 := hb0.trans (hw1.mono hb0.size)
      clear ol om hw1 hb0
      obtain ⟨x0, x1, x2⟩ := ol1.at
      obtain ⟨y0, y1, y2⟩ := om1.at
      obtain ⟨f0, f1, f2⟩ := om1.fr
      go_wp2_with fail
      refine (CA.out _ _ rfl).mono ?_
      rintro e w2 ⟨rfl, rfl⟩
      have ol2 := ol1.below ((Below.refl _ _).alloc (Nat.le_refl _) (.cells #[.int .i64 dx, .int .i64 dy] 3))
      have om2 := om1.below ((Below.refl _ _).alloc (Nat.le_refl _) (.cells #[.int .i64 dx, .int .i64 dy] 3))
      have hb2 := bal_alloc (o := (.cells #[.int .i64 dx, .int .i64 dy] 3)) hb1
      clear ol1 om1 hb1 x0 x1 x2 y0 y1 y2 f0 f1 f2
      generalize w1.alloc (.cells #[.int .i64 dx, .int .i64 dy] 3) = w2 at ol2 om2 hb2 ⊢
      obtain ⟨x0, x1, x2⟩ := ol2.at
      obtain ⟨y0, y1, y2⟩ := om2.at
      obtain ⟨f0, f1, f2⟩ := om2.fr
      go_wp2_with fail
      obtain ⟨W, hW, ⟨q0, q1, q2⟩, hB⟩ := ln3_end (a := 0) (b := 0) (c := 0) om2 hb2 (by omega)
      unfold ln3 at hW
      rw [hW]
      exact bodyPost_ret (v := .tuple #[.agg #[.int .i64 0, .int .i64 0, .int .i64 0], .bool false]) (by simp [results, Tryd.results15, go_sem, q0, q1, q2]) rfl ⟨rfl, hB⟩
    case true =>
      have hbl' := hbl rfl
      have hbm' := hbm rfl
      clear hbl hbm
      simp only [Bool.and_self, if_true]
      have s1 : IntKind.i64.wrap (a - dx) = a - dx := i64_small (by omega) (by omega)
      have s2 : IntKind.i64.wrap (b - dy) = b - dy := i64_small (by omega) (by omega)
      have ct := fun w => toldLine_c ⟨a - dx, b - dy, c⟩ w
      unfold lnR lnV at ct ⊢
      simp only at ct ⊢
      generalize lnB ⟨a - dx, b - dy, c⟩ = k at ct ⊢
      generalize (if k = true then (⟨a - dx, b - dy, c⟩ : Ln) else Ln.z) = q at ct ⊢
      obtain ⟨qa, qb, qc⟩ := q
      simp only at ct ⊢
      have CT := Lib.hid ct; clear ct
      clear hbl' hbm'
      go_enter Tryd.func15, Tryd.ntmps15
      go_wp2_with fail
      refine (CL.out _).mono ?_
      rintro e w1 ⟨rfl, hw1⟩
      have ol1 := ol.below hw1
      have om1 := om.below hw1
      have hb1 := hb0.trans (hw1.mono hb0.size)
      clear ol om hw1 hb0
      obtain ⟨x0, x1, x2⟩ := ol1.at
      obtain ⟨y0, y1, y2⟩ := om1.at
      obtain ⟨f0, f1, f2⟩ := om1.fr
      go_wp2_with fail
      refine (CA.out _ _ rfl).mono ?_
      rintro e w2 ⟨rfl, rfl⟩
      have ol2 := ol1.below ((Below.refl _ _).alloc (Nat.le_refl _) (.cells #[.int .i64 dx, .int .i64 dy] 3))
      have om2 := om1.below ((Below.refl _ _).alloc (Nat.le_refl _) (.cells #[.int .i64 dx, .int .i64 dy] 3))
      have hb2 := bal_alloc (o := (.cells #[.int .i64 dx, .int .i64 dy] 3)) hb1
      clear ol1 om1 hb1 x0 x1 x2 y0 y1 y2 f0 f1 f2
      generalize w1.alloc (.cells #[.int .i64 dx, .int .i64 dy] 3) = w2 at ol2 om2 hb2 ⊢
      obtain ⟨x0, x1, x2⟩ := ol2.at
      obtain ⟨y0, y1, y2⟩ := om2.at
      obtain ⟨f0, f1, f2⟩ := om2.fr
      go_wp2_with fail
      refine (CT.out _).mono ?_
      rintro e w3 ⟨rfl, hw3⟩
      have om3 := om2.below hw3
      have hb3 := ball hb2 hw3
      obtain ⟨g0, g1, g2⟩ := om3.at
      obtain ⟨h0, h1, h2⟩ := om3.fr
      go_wp2_with fail
      obtain ⟨W, hW, ⟨q0, q1, q2⟩, hB⟩ := ln3_end (a := qa) (b := qb) (c := qc) om3 hb3 (by omega)
      unfold ln3 at hW
      rw [hW]
      exact bodyPost_ret (v := .tuple #[.agg #[.int .i64 qa, .int .i64 qb, .int .i64 qc], .bool k]) (by simp [results, Tryd.results15, go_sem, q0, q1, q2]) rfl ⟨rfl, hB⟩

end Go.Proofs.YtbkfgaibcoekgaaDoor
