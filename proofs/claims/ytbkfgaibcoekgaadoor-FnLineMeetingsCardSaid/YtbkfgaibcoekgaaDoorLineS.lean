/-
  Lines: the reference's side. Printed by gen_lineS.py.
-/
import Derived.Test.YtbkfgaibcoekgaaDoorLineI
namespace Go.Proofs.YtbkfgaibcoekgaaDoor
open Go.RowKit

set_option maxHeartbeats 400000 in
theorem poFinite_c (n : Int) (w : World) :
    Calls Tryd.prog 44 #[.int .i64 n] w fun e w' => e = .returned (.bool (finB' n)) ∧ w = w' := by
  have c := Lib.hid (fun w => l1In_any n (-1000000) 1000000 w)
  unfold finB'
  generalize inB n (-1000000) 1000000 = u at c ⊢
  go_enter Tryd.func44, Tryd.ntmps44
  go_wp2_with fail
  refine (c.out _).mono ?_
  rintro e w' ⟨rfl, rfl⟩
  go_wp2_with fail
  go_ret
  exact ⟨rfl, rfl⟩

set_option maxHeartbeats 800000 in
theorem lnGood_c (l : Ln) (w : World) :
    Calls Tryd.prog 21 #[lnV l] w fun e w' => e = .returned (.bool (lnB l)) ∧ Below w.heap.size w w' := by
  obtain ⟨a, b, c⟩ := l
  have c1 := fun w => poFinite_c a w
  have c2 := fun w => poFinite_c b w
  have c3 := fun w => poFinite_c c w
  have hb : Below w.heap.size w (w.alloc (.cells #[.int .i64 a, .int .i64 b, .int .i64 c] 24)) := (Below.refl _ _).alloc (Nat.le_refl _) _
  unfold lnV lnB
  simp only
  generalize finB' a = x at c1 ⊢
  generalize finB' b = y at c2 ⊢
  generalize finB' c = z at c3 ⊢
  have C1 := Lib.hid c1; have C2 := Lib.hid c2; have C3 := Lib.hid c3; clear c1 c2 c3
  cases x
  case false =>
    go_enter Tryd.func21, Tryd.ntmps21
    go_wp2_with fail
    refine (C1.out _).mono ?_
    rintro e w' ⟨rfl, rfl⟩
    go_wp2_with fail
    go_ret
    exact ⟨rfl, hb⟩
  case true =>
    cases y
    case false =>
      go_enter Tryd.func21, Tryd.ntmps21
      go_wp2_with fail
      refine (C1.out _).mono ?_
      rintro e w' ⟨rfl, rfl⟩
      go_wp2_with fail
      refine (C2.out _).mono ?_
      rintro e w' ⟨rfl, rfl⟩
      go_wp2_with fail
      go_ret
      exact ⟨rfl, hb⟩
    case true =>
      go_enter Tryd.func21, Tryd.ntmps21
      go_wp2_with fail
      refine (C1.out _).mono ?_
      rintro e w' ⟨rfl, rfl⟩
      go_wp2_with fail
      refine (C2.out _).mono ?_
      rintro e w' ⟨rfl, rfl⟩
      go_wp2_with fail
      refine (C3.out _).mono ?_
      rintro e w' ⟨rfl, rfl⟩
      go_wp2_with fail
      go_ret
      exact ⟨rfl, hb⟩

set_option maxHeartbeats 800000 in
theorem lnPoint_c (x y : Int) (w : World) :
    Calls Tryd.prog 27 #[.int .i64 x, .int .i64 y] w fun e w' => e = .returned (ptR x y) ∧ w = w' := by
  have c1 := fun w => poFinite_c x w
  have c2 := fun w => poFinite_c y w
  unfold ptR askP
  generalize finB' x = u at c1 ⊢
  generalize finB' y = v at c2 ⊢
  have C1 := Lib.hid c1; have C2 := Lib.hid c2; clear c1 c2
  cases u
  case false =>
    go_enter Tryd.func27, Tryd.ntmps27
    go_wp2_with fail
    refine (C1.out _).mono ?_
    rintro e w' ⟨rfl, rfl⟩
    go_wp2_with fail
    go_ret3
    exact ⟨rfl, rfl⟩
  case true =>
    cases v
    all_goals
      go_enter Tryd.func27, Tryd.ntmps27
      go_wp2_with fail
      refine (C1.out _).mono ?_
      rintro e w' ⟨rfl, rfl⟩
      go_wp2_with fail
      refine (C2.out _).mono ?_
      rintro e w' ⟨rfl, rfl⟩
      go_wp2_with fail
      go_ret3
      exact ⟨rfl, rfl⟩

set_option maxHeartbeats 800000 in
theorem lnAsked_c (l : Ln) (x y : Int) (w : World) :
    Calls Tryd.prog 35 #[lnV l, .int .i64 x, .int .i64 y] w fun e w' => e = .returned (.bool (lnB l && askP x y)) ∧ Below w.heap.size w w' := by
  have cl := fun w => lnGood_c l w
  have c1 := fun w => poFinite_c x w
  have c2 := fun w => poFinite_c y w
  unfold askP
  generalize lnB l = k at cl ⊢
  obtain ⟨a, b, c⟩ := l
  unfold lnV at *
  simp only at cl ⊢
  generalize finB' x = u at c1 ⊢
  generalize finB' y = v at c2 ⊢
  have C1 := Lib.hid c1; have C2 := Lib.hid c2; have CL := Lib.hid cl; clear c1 c2 cl
  have hb : Below w.heap.size w (w.alloc (.cells #[.int .i64 a, .int .i64 b, .int .i64 c] 24)) := (Below.refl _ _).alloc (Nat.le_refl _) _
  cases k
  case false =>
    go_enter Tryd.func35, Tryd.ntmps35
    go_wp2_with fail
    refine (CL.out _).mono ?_
    rintro e w1 ⟨rfl, hw1⟩
    go_wp2_with fail
    go_ret
    exact ⟨rfl, hb.trans (hw1.mono hb.size)⟩
  case true =>
    cases u
    case false =>
      go_enter Tryd.func35, Tryd.ntmps35
      go_wp2_with fail
      refine (CL.out _).mono ?_
      rintro e w1 ⟨rfl, hw1⟩
      go_wp2_with fail
      refine (C1.out _).mono ?_
      rintro e w' ⟨rfl, rfl⟩
      go_wp2_with fail
      go_ret
      exact ⟨rfl, hb.trans (hw1.mono hb.size)⟩
    case true =>
      go_enter Tryd.func35, Tryd.ntmps35
      go_wp2_with fail
      refine (CL.out _).mono ?_
      rintro e w1 ⟨rfl, hw1⟩
      go_wp2_with fail
      refine (C1.out _).mono ?_
      rintro e w' ⟨rfl, rfl⟩
      go_wp2_with fail
      refine (C2.out _).mono ?_
      rintro e w' ⟨rfl, rfl⟩
      go_wp2_with fail
      go_ret
      exact ⟨rfl, hb.trans (hw1.mono hb.size)⟩

set_option maxHeartbeats 800000 in
theorem lnIf_c (l : Ln) (w : World) :
    Calls Tryd.prog 36 #[lnV l] w fun e w' => e = .returned (lnR l) ∧ Below w.heap.size w w' := by
  have cf := fun w => lnGood_c l w
  unfold lnR
  generalize lnB l = u at cf ⊢
  obtain ⟨a, b, c⟩ := l
  unfold lnV Ln.z at *
  simp only at cf ⊢
  have CF := Lib.hid cf; clear cf
  cases u
  case false =>
    go_enter Tryd.func36, Tryd.ntmps36
    go_wp2_with fail
    refine (CF.out _).mono ?_
    rintro e w1 ⟨rfl, hw1⟩
    have o1 := (LnO.new (g := w.heap.size + 1) (w.alloc (.cells #[.int .i64 a, .int .i64 b, .int .i64 c] 24)) 0 0 0 (by simp)).below hw1
    have p1 := ((LnO.new w a b c rfl).below ((Below.refl _ _).alloc (Nat.le_refl _) _)).below hw1
    have hb1 : Below w.heap.size w w1 := (((Below.refl _ _).alloc (Nat.le_refl _) _).alloc (by simp) _).trans (hw1.mono (by simp; omega))
    clear hw1
    obtain ⟨x0, x1, x2⟩ := o1.at
    obtain ⟨y0, y1, y2⟩ := o1.fr
    obtain ⟨z0, z1, z2⟩ := p1.at
    go_wp2_with fail
    obtain ⟨W, hW, ⟨q0, q1, q2⟩, hB⟩ := ln3_end (a := 0) (b := 0) (c := 0) o1 hb1 (by omega)
    unfold ln3 at hW
    rw [hW]
    exact bodyPost_ret (v := .tuple #[.agg #[.int .i64 0, .int .i64 0, .int .i64 0], .bool false]) (by simp [results, Tryd.results36, go_sem, q0, q1, q2]) rfl ⟨rfl, hB⟩
  case true =>
    go_enter Tryd.func36, Tryd.ntmps36
    go_wp2_with fail
    refine (CF.out _).mono ?_
    rintro e w1 ⟨rfl, hw1⟩
    have o1 := (LnO.new (g := w.heap.size + 1) (w.alloc (.cells #[.int .i64 a, .int .i64 b, .int .i64 c] 24)) 0 0 0 (by simp)).below hw1
    have p1 := ((LnO.new w a b c rfl).below ((Below.refl _ _).alloc (Nat.le_refl _) _)).below hw1
    have hb1 : Below w.heap.size w w1 := (((Below.refl _ _).alloc (Nat.le_refl _) _).alloc (by simp) _).trans (hw1.mono (by simp; omega))
    clear hw1
    obtain ⟨x0, x1, x2⟩ := o1.at
    obtain ⟨y0, y1, y2⟩ := o1.fr
    obtain ⟨z0, z1, z2⟩ := p1.at
    go_wp2_with fail
    obtain ⟨W, hW, ⟨q0, q1, q2⟩, hB⟩ := ln3_end (a := a) (b := b) (c := c) o1 hb1 (by omega)
    unfold ln3 at hW
    rw [hW]
    exact bodyPost_ret (v := .tuple #[.agg #[.int .i64 a, .int .i64 b, .int .i64 c], .bool true]) (by simp [results, Tryd.results36, go_sem, q0, q1, q2]) rfl ⟨rfl, hB⟩

set_option maxHeartbeats 1600000 in
theorem sSameLine_c (l m : Ln) (w : World) :
    Calls Tryd.prog 8 #[lnV l, lnV m] w fun e w' => e = .returned (.tuple #[.bool (if (lnB l && lnB m) = true then sameB l m else false), .bool (lnB l && lnB m)]) ∧ Below w.heap.size w w' := by
  have cl := fun w => lnGood_c l w
  have cm := fun w => lnGood_c m w
  obtain ⟨a, b, c⟩ := l
  obtain ⟨d, e', f⟩ := m
  unfold lnV at *
  simp only at cl cm ⊢
  have hbl := lnB_bd (a := a) (b := b) (c := c)
  have hbm := lnB_bd (a := d) (b := e') (c := f)
  generalize lnB ⟨a, b, c⟩ = u at cl hbl ⊢
  generalize lnB ⟨d, e', f⟩ = v at cm hbm ⊢
  have CL := Lib.hid cl; have CM := Lib.hid cm; clear cl cm
  have hb0 : Below w.heap.size w ((w.alloc (.cells #[.int .i64 a, .int .i64 b, .int .i64 c] 24)).alloc (.cells #[.int .i64 d, .int .i64 e', .int .i64 f] 24)) := ((Below.refl _ _).alloc (Nat.le_refl _) _).alloc (by simp) _
  have ol := (LnO.new w a b c rfl).below ((Below.refl _ _).alloc (Nat.le_refl _) (.cells #[.int .i64 d, .int .i64 e', .int .i64 f] 24))
  have om := LnO.new (g := w.heap.size + 1) (w.alloc (.cells #[.int .i64 a, .int .i64 b, .int .i64 c] 24)) d e' f (by simp)
  cases u
  case false =>
    clear hbl hbm
    go_enter Tryd.func8, Tryd.ntmps8
    go_wp2_with fail
    refine (CL.out _).mono ?_
    rintro e w1 ⟨rfl, hw1⟩
    have ol1 := ol.below hw1
    have om1 := om.below hw1
    have hb1 := hb0.trans (hw1.mono hb0.size)
    clear ol om hw1 hb0
    obtain ⟨x0, x1, x2⟩ := ol1.at
    obtain ⟨y0, y1, y2⟩ := om1.at
    go_wp2_with fail
    go_ret2
    exact ⟨rfl, hb1⟩
  case true =>
    cases v
    case false =>
      clear hbl hbm
      go_enter Tryd.func8, Tryd.ntmps8
      go_wp2_with fail
      refine (CL.out _).mono ?_
      rintro e w1 ⟨rfl, hw1⟩
      have ol1 := ol.below hw1
      have om1 := om.below hw1
      have hb1 := hb0.trans (hw1.mono hb0.size)
      clear ol om hw1 hb0
      obtain ⟨x0, x1, x2⟩ := ol1.at
      obtain ⟨y0, y1, y2⟩ := om1.at
      go_wp2_with fail
      refine (CM.out _).mono ?_
      rintro e w2 ⟨rfl, hw2⟩
      have ol2 := ol1.below hw2
      have om2 := om1.below hw2
      have hb2 := ball hb1 hw2
      clear ol1 om1 hw2 hb1 x0 x1 x2 y0 y1 y2
      obtain ⟨x0, x1, x2⟩ := ol2.at
      obtain ⟨y0, y1, y2⟩ := om2.at
      go_wp2_with fail
      go_ret2
      exact ⟨rfl, hb2⟩
    case true =>
      have hbl' := hbl rfl
      have hbm' := hbm rfl
      clear hbl hbm
      rw [show (true && true) = true from rfl, if_pos rfl]
      rw [← same_py]
      simp only
      have s0 : IntKind.i64.wrap (c - a) = c - a := i64_small (by omega) (by omega)
      have s1 : IntKind.i64.wrap (f - d) = f - d := i64_small (by omega) (by omega)
      have s2 : IntKind.i64.wrap (c - b) = c - b := i64_small (by omega) (by omega)
      have s3 : IntKind.i64.wrap (f - e') = f - e' := i64_small (by omega) (by omega)
      have k1 : (c - a == f - d) = decide (c - a = f - d) := rfl
      have k2 : (c - b == f - e') = decide (c - b = f - e') := rfl
      generalize decide (c - a = f - d) = p at k1 ⊢
      generalize decide (c - b = f - e') = q at k2 ⊢
      clear hbl' hbm'
      cases p
      all_goals
        go_enter Tryd.func8, Tryd.ntmps8
        go_wp2_with fail
        refine (CL.out _).mono ?_
        rintro e w1 ⟨rfl, hw1⟩
        have ol1 := ol.below hw1
        have om1 := om.below hw1
        have hb1 := hb0.trans (hw1.mono hb0.size)
        clear ol om hw1 hb0
        obtain ⟨x0, x1, x2⟩ := ol1.at
        obtain ⟨y0, y1, y2⟩ := om1.at
        go_wp2_with fail
        refine (CM.out _).mono ?_
        rintro e w2 ⟨rfl, hw2⟩
        have ol2 := ol1.below hw2
        have om2 := om1.below hw2
        have hb2 := ball hb1 hw2
        clear ol1 om1 hw2 hb1 x0 x1 x2 y0 y1 y2
        obtain ⟨x0, x1, x2⟩ := ol2.at
        obtain ⟨y0, y1, y2⟩ := om2.at
        go_wp2_with fail
        go_ret2
        exact ⟨rfl, hb2⟩

set_option maxHeartbeats 3200000 in
theorem sMoveLine_c (l : Ln) (dx dy : Int) (w : World) :
    Calls Tryd.prog 16 #[lnV l, .int .i64 dx, .int .i64 dy] w fun e w' => e = .returned (mvR l dx dy) ∧ Below w.heap.size w w' := by
  have cl := fun w => lnAsked_c l dx dy w
  have hbd := fun (h : (lnB l && askP dx dy) = true) => And.intro (lnB_t.1 (Bool.and_eq_true_iff.1 h).1) (askP_bd (Bool.and_eq_true_iff.1 h).2)
  unfold mvR
  generalize (lnB l && askP dx dy) = u at cl hbd ⊢
  obtain ⟨a, b, c⟩ := l
  unfold lnV Ln.z at *
  unfold moveL
  simp only at cl hbd ⊢
  have CL := Lib.hid cl; clear cl
  have hb0 : Below w.heap.size w ((w.alloc (.cells #[.int .i64 a, .int .i64 b, .int .i64 c] 24)).alloc (.cells #[.int .i64 0, .int .i64 0, .int .i64 0] 24)) := ((Below.refl _ _).alloc (Nat.le_refl _) _).alloc (by simp) _
  have ol := (LnO.new w a b c rfl).below ((Below.refl _ _).alloc (Nat.le_refl _) (.cells #[.int .i64 0, .int .i64 0, .int .i64 0] 24))
  have om := LnO.new (g := w.heap.size + 1) (w.alloc (.cells #[.int .i64 a, .int .i64 b, .int .i64 c] 24)) 0 0 0 (by simp)
  cases u
  case false =>
    clear hbd
    simp only [Bool.false_eq_true, if_false]
    go_enter Tryd.func16, Tryd.ntmps16
    go_wp2_with fail
    refine (CL.out _).mono ?_
    rintro e w1 ⟨rfl, hw1⟩
    have ol1 := ol.below hw1
    have om1 := om.below hw1
    have hb1 := hb0.trans (hw1.mono hb0.size)
    clear ol om hw1 hb0
    obtain ⟨x0, x1, x2⟩ := ol1.at
    obtain ⟨y0, y1, y2⟩ := om1.at
    obtain ⟨f0, f1, f2⟩ := om1.fr
    go_wp2_with fail
    obtain ⟨W, hW, ⟨q0, q1, q2⟩, hB⟩ := ln3_end (a := 0) (b := 0) (c := 0) om1 hb1 (by omega)
    unfold ln3 at hW
    rw [hW]
    exact bodyPost_ret (v := .tuple #[.agg #[.int .i64 0, .int .i64 0, .int .i64 0], .bool false]) (by simp [results, Tryd.results16, go_sem, q0, q1, q2]) rfl ⟨rfl, hB⟩
  case true =>
    have hbd' := hbd rfl
    clear hbd
    simp only [if_true]
    have s1 : IntKind.i64.wrap (a - dx) = a - dx := i64_small (by omega) (by omega)
    have s2 : IntKind.i64.wrap (b - dy) = b - dy := i64_small (by omega) (by omega)
    have ct := fun w => lnIf_c ⟨a - dx, b - dy, c⟩ w
    unfold lnR lnV at ct ⊢
    simp only at ct ⊢
    generalize lnB ⟨a - dx, b - dy, c⟩ = k at ct ⊢
    generalize (if k = true then (⟨a - dx, b - dy, c⟩ : Ln) else Ln.z) = q at ct ⊢
    obtain ⟨qa, qb, qc⟩ := q
    simp only at ct ⊢
    have CT := Lib.hid ct; clear ct
    clear hbd'
    go_enter Tryd.func16, Tryd.ntmps16
    go_wp2_with fail
    refine (CL.out _).mono ?_
    rintro e w1 ⟨rfl, hw1⟩
    have ol1 := ol.below hw1
    have om1 := om.below hw1
    have hb1 := hb0.trans (hw1.mono hb0.size)
    clear ol om hw1 hb0
    obtain ⟨x0, x1, x2⟩ := ol1.at
    obtain ⟨y0, y1, y2⟩ := om1.at
    obtain ⟨f0, f1, f2⟩ := om1.fr
    go_wp2_with fail
    refine (CT.out _).mono ?_
    rintro e w3 ⟨rfl, hw3⟩
    have om3 := om1.below hw3
    have hb3 := ball hb1 hw3
    obtain ⟨g0, g1, g2⟩ := om3.at
    obtain ⟨h0, h1, h2⟩ := om3.fr
    go_wp2_with fail
    obtain ⟨W, hW, ⟨q0, q1, q2⟩, hB⟩ := ln3_end (a := qa) (b := qb) (c := qc) om3 hb3 (by omega)
    unfold ln3 at hW
    rw [hW]
    exact bodyPost_ret (v := .tuple #[.agg #[.int .i64 qa, .int .i64 qb, .int .i64 qc], .bool k]) (by simp [results, Tryd.results16, go_sem, q0, q1, q2]) rfl ⟨rfl, hB⟩

end Go.Proofs.YtbkfgaibcoekgaaDoor
