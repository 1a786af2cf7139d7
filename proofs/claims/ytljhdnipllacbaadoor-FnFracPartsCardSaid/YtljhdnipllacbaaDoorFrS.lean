/-
  Fractions: the reference's side. Printed by gen_frK.py.
-/
import Derived.Test.YtljhdnipllacbaaDoorFrK
namespace Go.Proofs.YtljhdnipllacbaaDoor
open Go.RowKit
set_option maxHeartbeats 3200000 in
set_option maxRecDepth 100000 in
theorem frMake_c (n d : Int) (w : World) (hn : -2000000000000000000 ≤ n ∧ n ≤ 2000000000000000000) (hdb : -2000000000000000000 ≤ d ∧ d ≤ 2000000000000000000) :
    Calls Tryd.prog 48 #[.int .i64 n, .int .i64 d] w fun e w' => e = .returned (frR (lowF n d) (mkB n d)) ∧ Below w.heap.size w w' := by
  have hb0 : Below w.heap.size w (w.alloc (.cells #[.int .i64 0, .int .i64 0] 24)) := (Below.refl _ _).alloc (Nat.le_refl _) _
  have o0 := FrO.new w 0 0 rfl
  by_cases hd : d = 0
  case pos =>
    subst hd
    have hm : mkB n 0 = false := rfl
    rw [hm, frR_f]
    unfold frV Fr.z
    simp only
    clear hn hdb
    obtain ⟨x0, x1⟩ := o0.at
    obtain ⟨y0, y1⟩ := o0.fr
    go_enter Tryd.func48, Tryd.ntmps48
    go_wp2_with fail
    exact bodyPost_ret (v := .tuple #[.agg #[.int .i64 0, .int .i64 0], .bool false]) (by simp [results, Tryd.results48, go_sem]) rfl ⟨rfl, hb0⟩
  case neg =>
    have c := fun w => frGcdW_c n d w (by omega) (by omega)
    have cg := fun w => frGood_c (lowF n d) w
    have hg := gcdN_bd (n := n) hd
    have hS : sgG n d = if d < 0 then -gcdN n d else gcdN n d := rfl
    have x1 := tdiv_bd n (sgG n d)
    have x2 := tdiv_bd d (sgG n d)
    have hd0 : (d == 0) = false := beq_eq_false_iff_ne.2 hd
    have hmk : mkB n d = frB (lowF n d) := by unfold mkB; rw [decide_eq_true hd]; rfl
    rw [hmk]
    clear hmk
    generalize frB (lowF n d) = k at cg ⊢
    unfold frR frV lowF Fr.z at *
    simp only at cg ⊢
    generalize gcdN n d = G at c hg hS
    generalize sgG n d = S at hS x1 x2 cg ⊢
    have hS0 : ¬ S = 0 := by rw [hS]; split <;> omega
    have hS1 : (S == 0) = false := beq_eq_false_iff_ne.2 hS0
    generalize hX : Int.tdiv n S = X at x1 cg ⊢
    generalize hY : Int.tdiv d S = Y at x2 cg ⊢
    have e1 : IntKind.i64.wrap X = X := i64_small (by omega) (by omega)
    have e2 : IntKind.i64.wrap Y = Y := i64_small (by omega) (by omega)
    have hng : IntKind.i64.wrap (-G) = -G := i64_small (by omega) (by omega)
    have HNG := Lib.hid hng; clear hng
    have C := Lib.hid c; have CG := Lib.hid cg; clear c cg hg x1 x2
    by_cases hneg : d < 0
    · rw [if_pos hneg] at hS
      have g1 : decide (d < 0) = true := decide_eq_true hneg
      have hng : IntKind.i64.wrap (-G) = S := by rw [HNG.out, hS]
      clear hS
      have HN := Lib.hid hneg; clear hneg hn hdb hd
      go_enter Tryd.func48, Tryd.ntmps48
      go_wp2_with fail
      refine (C.out _).mono ?_
      rintro e w1 ⟨rfl, hw1⟩
      have o1 := o0.below hw1
      have hb1 := hb0.trans (hw1.mono hb0.size)
      clear hw1 hb0 o0
      obtain ⟨x0, x1⟩ := o1.at
      go_wp2_with fail
      go_region_held3 (fun w' => w'.cell? ⟨w.heap.size, 0, none⟩ = some (.int .i64 0) ∧ w'.cell? ⟨w.heap.size, 1, none⟩ = some (.int .i64 0)) (go_keep) (fail)
      have o3 : FrO (w1.alloc (.cells #[.int .i64 X, .int .i64 Y] 24)).drew _ _ := o1.alloc (.cells #[.int .i64 X, .int .i64 Y] 24)
      have r3 : FrO (w1.alloc (.cells #[.int .i64 X, .int .i64 Y] 24)).drew _ _ := FrO.new w1 X Y rfl
      have hb3 := (bal_alloc (o := (.cells #[.int .i64 X, .int .i64 Y] 24)) hb1).drew
      clear o1 hb1 x0 x1
      go_wp2_with fail
      refine (CG.out _).mono ?_
      rintro e w4 ⟨rfl, hw4⟩
      have o4 := o3.below hw4
      have r4 := r3.below hw4
      have hb4 := ball hb3 hw4
      clear o3 r3 hw4 hb3
      obtain ⟨x0, x1⟩ := o4.at
      obtain ⟨y0, y1⟩ := o4.fr
      obtain ⟨z0, z1⟩ := r4.at
      cases k
      case false =>
        go_wp2_with fail
        obtain ⟨W, hW, ⟨q0, q1⟩, hB⟩ := fr2_end (a := 0) (b := 0) o4 hb4 (by omega)
        unfold fr2 at hW
        rw [hW]
        exact bodyPost_ret (v := .tuple #[.agg #[.int .i64 0, .int .i64 0], .bool false]) (by simp [results, Tryd.results48, go_sem, q0, q1]) rfl ⟨rfl, hB⟩
      case true =>
        go_wp2_with fail
        obtain ⟨W, hW, ⟨q0, q1⟩, hB⟩ := fr2_end (a := X) (b := Y) o4 hb4 (by omega)
        unfold fr2 at hW
        rw [hW]
        exact bodyPost_ret (v := .tuple #[.agg #[.int .i64 X, .int .i64 Y], .bool true]) (by simp [results, Tryd.results48, go_sem, q0, q1]) rfl ⟨rfl, hB⟩
    · rw [if_neg hneg] at hS
      have g1 : decide (d < 0) = false := decide_eq_false hneg
      subst hS
      have HN := Lib.hid hneg; clear hneg hn hdb hd
      go_enter Tryd.func48, Tryd.ntmps48
      go_wp2_with fail
      refine (C.out _).mono ?_
      rintro e w1 ⟨rfl, hw1⟩
      have o1 := o0.below hw1
      have hb1 := hb0.trans (hw1.mono hb0.size)
      clear hw1 hb0 o0
      obtain ⟨x0, x1⟩ := o1.at
      go_wp2_with fail
      go_region_held3 (fun w' => w'.cell? ⟨w.heap.size, 0, none⟩ = some (.int .i64 0) ∧ w'.cell? ⟨w.heap.size, 1, none⟩ = some (.int .i64 0)) (go_keep) (fail)
      have o3 : FrO (w1.alloc (.cells #[.int .i64 X, .int .i64 Y] 24)).drew _ _ := o1.alloc (.cells #[.int .i64 X, .int .i64 Y] 24)
      have r3 : FrO (w1.alloc (.cells #[.int .i64 X, .int .i64 Y] 24)).drew _ _ := FrO.new w1 X Y rfl
      have hb3 := (bal_alloc (o := (.cells #[.int .i64 X, .int .i64 Y] 24)) hb1).drew
      clear o1 hb1 x0 x1
      go_wp2_with fail
      refine (CG.out _).mono ?_
      rintro e w4 ⟨rfl, hw4⟩
      have o4 := o3.below hw4
      have r4 := r3.below hw4
      have hb4 := ball hb3 hw4
      clear o3 r3 hw4 hb3
      obtain ⟨x0, x1⟩ := o4.at
      obtain ⟨y0, y1⟩ := o4.fr
      obtain ⟨z0, z1⟩ := r4.at
      cases k
      case false =>
        go_wp2_with fail
        obtain ⟨W, hW, ⟨q0, q1⟩, hB⟩ := fr2_end (a := 0) (b := 0) o4 hb4 (by omega)
        unfold fr2 at hW
        rw [hW]
        exact bodyPost_ret (v := .tuple #[.agg #[.int .i64 0, .int .i64 0], .bool false]) (by simp [results, Tryd.results48, go_sem, q0, q1]) rfl ⟨rfl, hB⟩
      case true =>
        go_wp2_with fail
        obtain ⟨W, hW, ⟨q0, q1⟩, hB⟩ := fr2_end (a := X) (b := Y) o4 hb4 (by omega)
        unfold fr2 at hW
        rw [hW]
        exact bodyPost_ret (v := .tuple #[.agg #[.int .i64 X, .int .i64 Y], .bool true]) (by simp [results, Tryd.results48, go_sem, q0, q1]) rfl ⟨rfl, hB⟩
set_option maxHeartbeats 3200000 in
set_option maxRecDepth 100000 in
theorem frTwo_c (f g : Fr) (w : World) :
    Calls Tryd.prog 27 #[frV f, frV g] w fun e w' => e = .returned (.bool (frB f && frB g)) ∧ Below w.heap.size w w' := by
  have ca := fun w => frGood_c f w
  have cb := fun w => frGood_c g w
  generalize frB f = u at ca ⊢
  generalize frB g = v at cb ⊢
  obtain ⟨a, b⟩ := f
  obtain ⟨c', d⟩ := g
  unfold frV at *
  simp only at ca cb ⊢
  have CA := Lib.hid ca; have CB := Lib.hid cb; clear ca cb
  have hb0 : Below w.heap.size w ((w.alloc (.cells #[.int .i64 a, .int .i64 b] 24)).alloc (.cells #[.int .i64 c', .int .i64 d] 24)) := ((Below.refl _ _).alloc (Nat.le_refl _) _).alloc (by simp) _
  cases u
  case false =>
    go_enter Tryd.func27, Tryd.ntmps27
    go_wp2_with fail
    refine (CA.out _).mono ?_
    rintro e w1 ⟨rfl, hw1⟩
    have r1 := (FrO.new (g := w.heap.size + 1) (w.alloc (.cells #[.int .i64 a, .int .i64 b] 24)) c' d (by simp)).below hw1
    have hb1 := hb0.trans (hw1.mono hb0.size)
    clear hw1 hb0
    obtain ⟨x0, x1⟩ := r1.at
    go_wp2_with fail
    go_ret
    exact ⟨rfl, hb1⟩
  case true =>
    go_enter Tryd.func27, Tryd.ntmps27
    go_wp2_with fail
    refine (CA.out _).mono ?_
    rintro e w1 ⟨rfl, hw1⟩
    have r1 := (FrO.new (g := w.heap.size + 1) (w.alloc (.cells #[.int .i64 a, .int .i64 b] 24)) c' d (by simp)).below hw1
    have hb1 := hb0.trans (hw1.mono hb0.size)
    clear hw1 hb0
    obtain ⟨x0, x1⟩ := r1.at
    go_wp2_with fail
    refine (CB.out _).mono ?_
    rintro e w2 ⟨rfl, hw2⟩
    go_wp2_with fail
    go_ret
    exact ⟨rfl, ball hb1 hw2⟩
set_option maxHeartbeats 3200000 in
set_option maxRecDepth 100000 in
theorem frMul_c (f g : Fr) (w : World) (hf : frB f = true) (hg : frB g = true) :
    Calls Tryd.prog 28 #[frV f, frV g] w fun e w' => e = .returned (frR (lowF (f.n * g.n) (f.d * g.d)) (mkB (f.n * g.n) (f.d * g.d))) ∧ Below w.heap.size w w' := by
  have hf1 := frB_t.1 hf
  have hg1 := frB_t.1 hg
  have m1 := mulb9 (k := f.n) (m := g.n) (by omega) (by omega)
  have m2 := mulb9 (k := f.d) (m := g.d) (by omega) (by omega)
  have c := fun w => frMake_c (f.n * g.n) (f.d * g.d) w (by omega) (by omega)
  unfold frR at c ⊢
  generalize mkB (f.n * g.n) (f.d * g.d) = k at c ⊢
  generalize lowF (f.n * g.n) (f.d * g.d) = L at c ⊢
  obtain ⟨a, b⟩ := f
  obtain ⟨c', d⟩ := g
  obtain ⟨X, Y⟩ := L
  unfold frV Fr.z at *
  simp only at c m1 m2 ⊢
  have e1 : IntKind.i64.wrap (a * c') = a * c' := i64_small (by omega) (by omega)
  have e2 : IntKind.i64.wrap (b * d) = b * d := i64_small (by omega) (by omega)
  obtain ⟨N, hN⟩ : ∃ N, a * c' = N := ⟨_, rfl⟩
  obtain ⟨D, hD⟩ : ∃ D, b * d = D := ⟨_, rfl⟩
  rw [hN, hD] at c
  have e3 := e1.trans hN
  have e4 := e2.trans hD
  clear e1 e2 hN hD
  have C := Lib.hid c; clear c m1 m2 hf hg hf1 hg1
  have hb0 : Below w.heap.size w (((w.alloc (.cells #[.int .i64 a, .int .i64 b] 24)).alloc (.cells #[.int .i64 c', .int .i64 d] 24)).alloc (.cells #[.int .i64 0, .int .i64 0] 24)) := (((Below.refl _ _).alloc (Nat.le_refl _) _).alloc (by simp) _).alloc (by simp; omega) _
  go_enter Tryd.func28, Tryd.ntmps28
  go_wp2_with fail
  refine (C.out _).mono ?_
  rintro e w1 ⟨rfl, hw1⟩
  have o1 := (FrO.new (g := w.heap.size + 1 + 1) ((w.alloc (.cells #[.int .i64 a, .int .i64 b] 24)).alloc (.cells #[.int .i64 c', .int .i64 d] 24)) 0 0 (by simp)).below hw1
  have hb1 := hb0.trans (hw1.mono hb0.size)
  clear hw1 hb0
  obtain ⟨x0, x1⟩ := o1.at
  obtain ⟨y0, y1⟩ := o1.fr
  cases k
  case false =>
    go_wp2_with fail
    obtain ⟨W, hW, ⟨q0, q1⟩, hB⟩ := fr2_end (a := 0) (b := 0) o1 hb1 (by omega)
    unfold fr2 at hW
    rw [hW]
    exact bodyPost_ret (v := .tuple #[.agg #[.int .i64 0, .int .i64 0], .bool false]) (by simp [results, Tryd.results28, go_sem, q0, q1]) rfl ⟨rfl, hB⟩
  case true =>
    go_wp2_with fail
    obtain ⟨W, hW, ⟨q0, q1⟩, hB⟩ := fr2_end (a := X) (b := Y) o1 hb1 (by omega)
    unfold fr2 at hW
    rw [hW]
    exact bodyPost_ret (v := .tuple #[.agg #[.int .i64 X, .int .i64 Y], .bool true]) (by simp [results, Tryd.results28, go_sem, q0, q1]) rfl ⟨rfl, hB⟩
set_option maxHeartbeats 3200000 in
set_option maxRecDepth 100000 in
theorem frDiv_c (f g : Fr) (w : World) (hf : frB f = true) (hg : frB g = true) :
    Calls Tryd.prog 30 #[frV f, frV g] w fun e w' => e = .returned (frR (lowF (f.n * g.d) (f.d * g.n)) (mkB (f.n * g.d) (f.d * g.n))) ∧ Below w.heap.size w w' := by
  have hf1 := frB_t.1 hf
  have hg1 := frB_t.1 hg
  have m1 := mulb9 (k := f.n) (m := g.d) (by omega) (by omega)
  have m2 := mulb9 (k := f.d) (m := g.n) (by omega) (by omega)
  have c := fun w => frMake_c (f.n * g.d) (f.d * g.n) w (by omega) (by omega)
  unfold frR at c ⊢
  generalize mkB (f.n * g.d) (f.d * g.n) = k at c ⊢
  generalize lowF (f.n * g.d) (f.d * g.n) = L at c ⊢
  obtain ⟨a, b⟩ := f
  obtain ⟨c', d⟩ := g
  obtain ⟨X, Y⟩ := L
  unfold frV Fr.z at *
  simp only at c m1 m2 ⊢
  have e1 : IntKind.i64.wrap (a * d) = a * d := i64_small (by omega) (by omega)
  have e2 : IntKind.i64.wrap (b * c') = b * c' := i64_small (by omega) (by omega)
  obtain ⟨N, hN⟩ : ∃ N, a * d = N := ⟨_, rfl⟩
  obtain ⟨D, hD⟩ : ∃ D, b * c' = D := ⟨_, rfl⟩
  rw [hN, hD] at c
  have e3 := e1.trans hN
  have e4 := e2.trans hD
  clear e1 e2 hN hD
  have C := Lib.hid c; clear c m1 m2 hf hg hf1 hg1
  have hb0 : Below w.heap.size w (((w.alloc (.cells #[.int .i64 a, .int .i64 b] 24)).alloc (.cells #[.int .i64 c', .int .i64 d] 24)).alloc (.cells #[.int .i64 0, .int .i64 0] 24)) := (((Below.refl _ _).alloc (Nat.le_refl _) _).alloc (by simp) _).alloc (by simp; omega) _
  go_enter Tryd.func30, Tryd.ntmps30
  go_wp2_with fail
  refine (C.out _).mono ?_
  rintro e w1 ⟨rfl, hw1⟩
  have o1 := (FrO.new (g := w.heap.size + 1 + 1) ((w.alloc (.cells #[.int .i64 a, .int .i64 b] 24)).alloc (.cells #[.int .i64 c', .int .i64 d] 24)) 0 0 (by simp)).below hw1
  have hb1 := hb0.trans (hw1.mono hb0.size)
  clear hw1 hb0
  obtain ⟨x0, x1⟩ := o1.at
  obtain ⟨y0, y1⟩ := o1.fr
  cases k
  case false =>
    go_wp2_with fail
    obtain ⟨W, hW, ⟨q0, q1⟩, hB⟩ := fr2_end (a := 0) (b := 0) o1 hb1 (by omega)
    unfold fr2 at hW
    rw [hW]
    exact bodyPost_ret (v := .tuple #[.agg #[.int .i64 0, .int .i64 0], .bool false]) (by simp [results, Tryd.results30, go_sem, q0, q1]) rfl ⟨rfl, hB⟩
  case true =>
    go_wp2_with fail
    obtain ⟨W, hW, ⟨q0, q1⟩, hB⟩ := fr2_end (a := X) (b := Y) o1 hb1 (by omega)
    unfold fr2 at hW
    rw [hW]
    exact bodyPost_ret (v := .tuple #[.agg #[.int .i64 X, .int .i64 Y], .bool true]) (by simp [results, Tryd.results30, go_sem, q0, q1]) rfl ⟨rfl, hB⟩
set_option maxHeartbeats 3200000 in
set_option maxRecDepth 100000 in
theorem sMultiplyFracs_c (f g : Fr) (w : World) :
    Calls Tryd.prog 6 #[frV f, frV g] w fun e w' => e = .returned (frR (lowF (f.n * g.n) (f.d * g.d)) (mulB f g)) ∧ Below w.heap.size w w' := by
  have ca := fun w => frTwo_c f g w
  have cm := fun w h1 h2 => frMul_c f g w h1 h2
  unfold mulB
  unfold frR at cm ⊢
  generalize mkB (f.n * g.n) (f.d * g.d) = k at cm ⊢
  generalize lowF (f.n * g.n) (f.d * g.d) = L at cm ⊢
  generalize frB f = u at ca cm ⊢
  generalize frB g = v at ca cm ⊢
  obtain ⟨a, b⟩ := f
  obtain ⟨c', d⟩ := g
  obtain ⟨X, Y⟩ := L
  unfold frV Fr.z at *
  simp only at ca cm ⊢
  have CA := Lib.hid ca; have CM := Lib.hid cm; clear ca cm
  have hb0 : Below w.heap.size w (((w.alloc (.cells #[.int .i64 a, .int .i64 b] 24)).alloc (.cells #[.int .i64 c', .int .i64 d] 24)).alloc (.cells #[.int .i64 0, .int .i64 0] 24)) := (((Below.refl _ _).alloc (Nat.le_refl _) _).alloc (by simp) _).alloc (by simp; omega) _
  by_cases huv : (u && v) = true
  case neg =>
    have huv' : (u && v) = false := by simpa using huv
    rw [huv'] at CA
    rw [huv']
    simp only [Bool.false_and, Bool.false_eq_true, if_false]
    clear CM huv huv'
    go_enter Tryd.func6, Tryd.ntmps6
    go_wp2_with fail
    refine (CA.out _).mono ?_
    rintro e w1 ⟨rfl, hw1⟩
    have o1 := (FrO.new (g := w.heap.size + 1 + 1) ((w.alloc (.cells #[.int .i64 a, .int .i64 b] 24)).alloc (.cells #[.int .i64 c', .int .i64 d] 24)) 0 0 (by simp)).below hw1
    have p1 := ((((FrO.new w a b rfl).alloc (.cells #[.int .i64 c', .int .i64 d] 24)).alloc (.cells #[.int .i64 0, .int .i64 0] 24))).below hw1
    have r1 := (((FrO.new (g := w.heap.size + 1) (w.alloc (.cells #[.int .i64 a, .int .i64 b] 24)) c' d (by simp)).alloc (.cells #[.int .i64 0, .int .i64 0] 24))).below hw1
    have hb1 := hb0.trans (hw1.mono hb0.size)
    clear hw1 hb0
    obtain ⟨x0, x1⟩ := o1.at
    obtain ⟨y0, y1⟩ := o1.fr
    obtain ⟨z0, z1⟩ := p1.at
    obtain ⟨u0, u1⟩ := r1.at
    go_wp2_with fail
    obtain ⟨W, hW, ⟨q0, q1⟩, hB⟩ := fr2_end (a := 0) (b := 0) o1 hb1 (by omega)
    unfold fr2 at hW
    rw [hW]
    exact bodyPost_ret (v := .tuple #[.agg #[.int .i64 0, .int .i64 0], .bool false]) (by simp [results, Tryd.results6, go_sem, q0, q1]) rfl ⟨rfl, hB⟩
  case pos =>
    obtain ⟨rfl, rfl⟩ := Bool.and_eq_true_iff.1 huv
    clear huv
    simp only [Bool.and_self, Bool.true_and] at CA ⊢
    have CM2 := Lib.hid (fun w => CM.out w rfl rfl); clear CM
    go_enter Tryd.func6, Tryd.ntmps6
    go_wp2_with fail
    refine (CA.out _).mono ?_
    rintro e w1 ⟨rfl, hw1⟩
    have o1 := (FrO.new (g := w.heap.size + 1 + 1) ((w.alloc (.cells #[.int .i64 a, .int .i64 b] 24)).alloc (.cells #[.int .i64 c', .int .i64 d] 24)) 0 0 (by simp)).below hw1
    have p1 := ((((FrO.new w a b rfl).alloc (.cells #[.int .i64 c', .int .i64 d] 24)).alloc (.cells #[.int .i64 0, .int .i64 0] 24))).below hw1
    have r1 := (((FrO.new (g := w.heap.size + 1) (w.alloc (.cells #[.int .i64 a, .int .i64 b] 24)) c' d (by simp)).alloc (.cells #[.int .i64 0, .int .i64 0] 24))).below hw1
    have hb1 := hb0.trans (hw1.mono hb0.size)
    clear hw1 hb0
    obtain ⟨x0, x1⟩ := o1.at
    obtain ⟨y0, y1⟩ := o1.fr
    obtain ⟨z0, z1⟩ := p1.at
    obtain ⟨u0, u1⟩ := r1.at
    go_wp2_with fail
    refine (CM2.out _).mono ?_
    rintro e w3 ⟨rfl, hw3⟩
    have o3 := o1.below hw3
    have hb3 := ball hb1 hw3
    clear o1 p1 r1 hb1 x0 x1 y0 y1 z0 z1 u0 u1 hw3
    obtain ⟨x0, x1⟩ := o3.at
    obtain ⟨y0, y1⟩ := o3.fr
    cases k
    case false =>
      go_wp2_with fail
      obtain ⟨W, hW, ⟨q0, q1⟩, hB⟩ := fr2_end (a := 0) (b := 0) o3 hb3 (by omega)
      unfold fr2 at hW
      rw [hW]
      exact bodyPost_ret (v := .tuple #[.agg #[.int .i64 0, .int .i64 0], .bool false]) (by simp [results, Tryd.results6, go_sem, q0, q1]) rfl ⟨rfl, hB⟩
    case true =>
      go_wp2_with fail
      obtain ⟨W, hW, ⟨q0, q1⟩, hB⟩ := fr2_end (a := X) (b := Y) o3 hb3 (by omega)
      unfold fr2 at hW
      rw [hW]
      exact bodyPost_ret (v := .tuple #[.agg #[.int .i64 X, .int .i64 Y], .bool true]) (by simp [results, Tryd.results6, go_sem, q0, q1]) rfl ⟨rfl, hB⟩
set_option maxHeartbeats 3200000 in
set_option maxRecDepth 100000 in
theorem sDivideFracs_c (f g : Fr) (w : World) :
    Calls Tryd.prog 8 #[frV f, frV g] w fun e w' => e = .returned (frR (lowF (f.n * g.d) (f.d * g.n)) (divB f g)) ∧ Below w.heap.size w w' := by
  have ca := fun w => frTwo_c f g w
  have cm := fun w h1 h2 => frDiv_c f g w h1 h2
  unfold divB
  unfold frR at cm ⊢
  generalize mkB (f.n * g.d) (f.d * g.n) = k at cm ⊢
  generalize lowF (f.n * g.d) (f.d * g.n) = L at cm ⊢
  generalize frB f = u at ca cm ⊢
  generalize frB g = v at ca cm ⊢
  obtain ⟨a, b⟩ := f
  obtain ⟨c', d⟩ := g
  obtain ⟨X, Y⟩ := L
  unfold frV Fr.z at *
  simp only at ca cm ⊢
  have CA := Lib.hid ca; have CM := Lib.hid cm; clear ca cm
  have hb0 : Below w.heap.size w (((w.alloc (.cells #[.int .i64 a, .int .i64 b] 24)).alloc (.cells #[.int .i64 c', .int .i64 d] 24)).alloc (.cells #[.int .i64 0, .int .i64 0] 24)) := (((Below.refl _ _).alloc (Nat.le_refl _) _).alloc (by simp) _).alloc (by simp; omega) _
  by_cases huv : (u && v) = true
  case neg =>
    have huv' : (u && v) = false := by simpa using huv
    rw [huv'] at CA
    rw [huv']
    simp only [Bool.false_and, Bool.false_eq_true, if_false]
    clear CM huv huv'
    go_enter Tryd.func8, Tryd.ntmps8
    go_wp2_with fail
    refine (CA.out _).mono ?_
    rintro e w1 ⟨rfl, hw1⟩
    have o1 := (FrO.new (g := w.heap.size + 1 + 1) ((w.alloc (.cells #[.int .i64 a, .int .i64 b] 24)).alloc (.cells #[.int .i64 c', .int .i64 d] 24)) 0 0 (by simp)).below hw1
    have p1 := ((((FrO.new w a b rfl).alloc (.cells #[.int .i64 c', .int .i64 d] 24)).alloc (.cells #[.int .i64 0, .int .i64 0] 24))).below hw1
    have r1 := (((FrO.new (g := w.heap.size + 1) (w.alloc (.cells #[.int .i64 a, .int .i64 b] 24)) c' d (by simp)).alloc (.cells #[.int .i64 0, .int .i64 0] 24))).below hw1
    have hb1 := hb0.trans (hw1.mono hb0.size)
    clear hw1 hb0
    obtain ⟨x0, x1⟩ := o1.at
    obtain ⟨y0, y1⟩ := o1.fr
    obtain ⟨z0, z1⟩ := p1.at
    obtain ⟨u0, u1⟩ := r1.at
    go_wp2_with fail
    obtain ⟨W, hW, ⟨q0, q1⟩, hB⟩ := fr2_end (a := 0) (b := 0) o1 hb1 (by omega)
    unfold fr2 at hW
    rw [hW]
    exact bodyPost_ret (v := .tuple #[.agg #[.int .i64 0, .int .i64 0], .bool false]) (by simp [results, Tryd.results8, go_sem, q0, q1]) rfl ⟨rfl, hB⟩
  case pos =>
    obtain ⟨rfl, rfl⟩ := Bool.and_eq_true_iff.1 huv
    clear huv
    simp only [Bool.and_self, Bool.true_and] at CA ⊢
    have CM2 := Lib.hid (fun w => CM.out w rfl rfl); clear CM
    go_enter Tryd.func8, Tryd.ntmps8
    go_wp2_with fail
    refine (CA.out _).mono ?_
    rintro e w1 ⟨rfl, hw1⟩
    have o1 := (FrO.new (g := w.heap.size + 1 + 1) ((w.alloc (.cells #[.int .i64 a, .int .i64 b] 24)).alloc (.cells #[.int .i64 c', .int .i64 d] 24)) 0 0 (by simp)).below hw1
    have p1 := ((((FrO.new w a b rfl).alloc (.cells #[.int .i64 c', .int .i64 d] 24)).alloc (.cells #[.int .i64 0, .int .i64 0] 24))).below hw1
    have r1 := (((FrO.new (g := w.heap.size + 1) (w.alloc (.cells #[.int .i64 a, .int .i64 b] 24)) c' d (by simp)).alloc (.cells #[.int .i64 0, .int .i64 0] 24))).below hw1
    have hb1 := hb0.trans (hw1.mono hb0.size)
    clear hw1 hb0
    obtain ⟨x0, x1⟩ := o1.at
    obtain ⟨y0, y1⟩ := o1.fr
    obtain ⟨z0, z1⟩ := p1.at
    obtain ⟨u0, u1⟩ := r1.at
    go_wp2_with fail
    refine (CM2.out _).mono ?_
    rintro e w3 ⟨rfl, hw3⟩
    have o3 := o1.below hw3
    have hb3 := ball hb1 hw3
    clear o1 p1 r1 hb1 x0 x1 y0 y1 z0 z1 u0 u1 hw3
    obtain ⟨x0, x1⟩ := o3.at
    obtain ⟨y0, y1⟩ := o3.fr
    cases k
    case false =>
      go_wp2_with fail
      obtain ⟨W, hW, ⟨q0, q1⟩, hB⟩ := fr2_end (a := 0) (b := 0) o3 hb3 (by omega)
      unfold fr2 at hW
      rw [hW]
      exact bodyPost_ret (v := .tuple #[.agg #[.int .i64 0, .int .i64 0], .bool false]) (by simp [results, Tryd.results8, go_sem, q0, q1]) rfl ⟨rfl, hB⟩
    case true =>
      go_wp2_with fail
      obtain ⟨W, hW, ⟨q0, q1⟩, hB⟩ := fr2_end (a := X) (b := Y) o3 hb3 (by omega)
      unfold fr2 at hW
      rw [hW]
      exact bodyPost_ret (v := .tuple #[.agg #[.int .i64 X, .int .i64 Y], .bool true]) (by simp [results, Tryd.results8, go_sem, q0, q1]) rfl ⟨rfl, hB⟩
set_option maxHeartbeats 3200000 in
set_option maxRecDepth 100000 in
theorem frFloor_c (n d : Int) (w : World) (hd : 1 ≤ d ∧ d ≤ 1000000000) (hn : -1000000000 ≤ n ∧ n ≤ 1000000000) :
    Calls Tryd.prog 34 #[.int .i64 n, .int .i64 d] w fun e w' => e = .returned (.int .i64 (floZ n d)) ∧ Below w.heap.size w w' := by
  have hv := flo_ref (n := n) (d := d) (by omega)
  have x1 := tdiv_bd n d
  have hd0 : ¬ d = 0 := by omega
  have hd1 : (d == 0) = false := beq_eq_false_iff_ne.2 hd0
  generalize floZ n d = Z at hv ⊢
  generalize hT : Int.tdiv n d = T at x1 hv
  generalize hR : Int.tmod n d = R at hv
  have e1 : IntKind.i64.wrap T = T := i64_small (by omega) (by omega)
  have e2 : IntKind.i64.wrap (T - 1) = T - 1 := i64_small (by omega) (by omega)
  clear hd hn x1
  obtain ⟨q, hq⟩ : ∃ q, decide (n < 0) = q := ⟨_, rfl⟩
  obtain ⟨r, hr⟩ : ∃ r, (R == 0) = r := ⟨_, rfl⟩
  rw [hq, hr] at hv
  have HV := Lib.hid hv; clear hv
  cases q
  · go_enter Tryd.func34, Tryd.ntmps34
    go_wp2_with fail
    go_ret
    exact ⟨by rw [← HV.out]; rfl, Below.refl _ _⟩
  · cases r
    all_goals
      go_enter Tryd.func34, Tryd.ntmps34
      go_wp2_with fail
      go_ret
      exact ⟨by rw [← HV.out]; rfl, Below.refl _ _⟩
set_option maxHeartbeats 3200000 in
set_option maxRecDepth 100000 in
theorem frText_s (f : Fr) (w : World) (h : frB f = true) :
    Calls Tryd.prog 37 #[frV f] w fun e w' => e = .returned (strV (frTxt f)) ∧ Below w.heap.size w w' := by
  obtain ⟨a, d⟩ := f
  obtain ⟨h1, h2, _⟩ := frB_t.1 h
  simp only at h1 h2
  clear h
  have ca := fun w => l1Int_c a w (by omega) (by omega)
  have cb := fun w => l1Num_c d.toNat (by omega) w
  rw [← itoa_pos (show 0 ≤ d by omega), show ((d.toNat : Nat) : Int) = d by omega] at cb
  have la := itoa_lenW h1
  have lb := itoa_lenW (n := d) (by omega)
  unfold frV frTxt strV at *
  simp only
  have hb0 : Below w.heap.size w (w.alloc (.cells #[.int .i64 a, .int .i64 d] 24)) := (Below.refl _ _).alloc (Nat.le_refl _) _
  by_cases h3 : d = 1
  case pos =>
    subst h3
    rw [if_pos rfl]
    generalize Lib.itoa a = A at ca ⊢
    have CA := Lib.hid ca; clear ca cb la lb h1 h2
    go_enter Tryd.func37, Tryd.ntmps37
    go_wp2_with fail
    refine (CA.out _).mono ?_
    rintro e w1 ⟨rfl, hw1⟩
    go_wp2_with fail
    go_ret
    exact ⟨rfl, hb0.trans (hw1.mono hb0.size)⟩
  case neg =>
    rw [if_neg h3]
    have g1 : (d == 1) = false := beq_eq_false_iff_ne.2 h3
    have hE := bytes3 (Lib.itoa a) (Lib.itoa d) 47
    have la' : (⟨(Lib.itoa a).toArray⟩ : ByteArray).size ≤ 11 := by simpa [ByteArray.size] using la
    have lb' : (⟨(Lib.itoa d).toArray⟩ : ByteArray).size ≤ 11 := by simpa [ByteArray.size] using lb
    clear la lb
    generalize (⟨(Lib.itoa a ++ 47 :: Lib.itoa d).toArray⟩ : ByteArray) = T at hE ⊢
    generalize (⟨(Lib.itoa a).toArray⟩ : ByteArray) = A at hE ca la'
    generalize (⟨(Lib.itoa d).toArray⟩ : ByteArray) = D at hE cb lb'
    have k1 := fun w => add_strF A ⟨#[47]⟩ (by simp only [sizeC]; omega) w
    have k2 := fun w => add_strF (A ++ ⟨#[47]⟩) D (by simp only [ByteArray.size_append, sizeC]; omega) w
    generalize A ++ ⟨#[47]⟩ ++ D = T2 at hE k2
    generalize A ++ ⟨#[47]⟩ = T1 at k1 k2
    subst hE
    clear la' lb' h1 h2 h3
    have CA := Lib.hid ca; have CB := Lib.hid cb; clear ca cb
    have o0 := FrO.new w a d rfl
    obtain ⟨g, hg⟩ : ∃ g, w.heap.size = g := ⟨_, rfl⟩
    go_enter Tryd.func37, Tryd.ntmps37
    go_wp2_with fail
    rw [hg] at o0
    obtain ⟨x0, x1⟩ := o0.at
    generalize hw0 : w.alloc (.cells #[.int .i64 a, .int .i64 d] 24) = w0 at hb0 o0 x0 x1 ⊢
    clear hw0
    have q0 := o0
    go_region_held3 (fun w' => w'.cell? ⟨g, 0, none⟩ = some (.int .i64 a) ∧ w'.cell? ⟨g, 1, none⟩ = some (.int .i64 d)) (exact ⟨by assumption, by assumption⟩)
      (first
        | (go_at_call 57; (with_reducible refine (CA.out _).mono ?_); rintro e W1 ⟨rfl, hw1⟩; have hb1 : Below w.heap.size w W1 := ball (by with_reducible (first | exact hb0 | exact hb0.drew)) hw1; have q1 : FrO W1 g ⟨a, d⟩ := FrO.below (by exact q0) hw1; obtain ⟨x10, x11⟩ := q1.at)
        | (go_at_call 58; (with_reducible refine (CB.out _).mono ?_); rintro e W2 ⟨rfl, hw2⟩; have hb2 : Below w.heap.size w W2 := ball (by with_reducible (first | exact hb1 | exact hb1.drew)) hw2; have q2 : FrO W2 g ⟨a, d⟩ := FrO.below (by exact q1) hw2; obtain ⟨x20, x21⟩ := q2.at))
    all_goals
      go_wp2_with fail
      go_ret
      exact ⟨rfl, hb2⟩
set_option maxHeartbeats 3200000 in
set_option maxRecDepth 100000 in
theorem sFloorFrac_c (f : Fr) (w : World) :
    Calls Tryd.prog 10 #[frV f] w fun e w' => e = .returned (.tuple #[.int .i64 (if frB f = true then floZ f.n f.d else 0), .bool (frB f)]) ∧ Below w.heap.size w w' := by
  have cf := fun w => frGood_c f w
  have hbd := fun h => frB_t.1 (show frB f = true from h)
  have ct := fun w (h : frB f = true) => frFloor_c f.n f.d w (frB_t.1 h).2.1 (frB_t.1 h).1
  generalize frB f = u at cf ct hbd ⊢
  generalize floZ f.n f.d = Z at ct ⊢
  obtain ⟨a, b⟩ := f
  unfold frV at *
  simp only at cf ct hbd ⊢
  have CF := Lib.hid cf; clear cf
  have hb0 : Below w.heap.size w (w.alloc (.cells #[.int .i64 a, .int .i64 b] 24)) := (Below.refl _ _).alloc (Nat.le_refl _) _
  cases u
  case false =>
    clear ct hbd
    rw [if_neg (by simp)]
    go_enter Tryd.func10, Tryd.ntmps10
    go_wp2_with fail
    refine (CF.out _).mono ?_
    rintro e w1 ⟨rfl, hw1⟩
    have hb1 := hb0.trans (hw1.mono hb0.size)
    have o1 := (FrO.new w a b rfl).below hw1
    obtain ⟨x0, x1⟩ := o1.at
    go_wp2_with fail
    go_ret2
    exact ⟨rfl, hb1⟩
  case true =>
    rw [if_pos rfl]
    have CT := Lib.hid ct; clear ct
    have hbd' := hbd rfl
    clear hbd

    go_enter Tryd.func10, Tryd.ntmps10
    go_wp2_with fail
    refine (CF.out _).mono ?_
    rintro e w1 ⟨rfl, hw1⟩
    have hb1 := hb0.trans (hw1.mono hb0.size)
    have o1 := (FrO.new w a b rfl).below hw1
    obtain ⟨x0, x1⟩ := o1.at
    go_wp2_with fail
    refine (CT.out _ trivial).mono ?_
    rintro e w2 ⟨rfl, hw2⟩
    go_wp2_with fail
    go_ret2
    exact ⟨rfl, ball hb1 hw2⟩
set_option maxHeartbeats 3200000 in
set_option maxRecDepth 100000 in
theorem sCeilFrac_c (f : Fr) (w : World) :
    Calls Tryd.prog 12 #[frV f] w fun e w' => e = .returned (.tuple #[.int .i64 (if frB f = true then ceiZ f.n f.d else 0), .bool (frB f)]) ∧ Below w.heap.size w w' := by
  have cf := fun w => frGood_c f w
  have hbd := fun h => frB_t.1 (show frB f = true from h)
  have ct := fun w (h : frB f = true) => frFloor_c (-f.n) f.d w (frB_t.1 h).2.1 (by have := (frB_t.1 h).1; omega)
  have hwz := fun (h : frB f = true) => show IntKind.i64.wrap (-floZ (-f.n) f.d) = -floZ (-f.n) f.d from i64_small (by have := flo_abs (n := -f.n) (d := f.d) (by have := (frB_t.1 h).2.1; omega) (by have := (frB_t.1 h).1; omega); omega) (by have := flo_abs (n := -f.n) (d := f.d) (by have := (frB_t.1 h).2.1; omega) (by have := (frB_t.1 h).1; omega); omega)
  unfold ceiZ
  generalize frB f = u at cf ct hbd hwz ⊢
  have HWZ := Lib.hid hwz; clear hwz
  generalize floZ (-f.n) f.d = Z at ct HWZ ⊢
  obtain ⟨a, b⟩ := f
  unfold frV at *
  simp only at cf ct hbd ⊢
  have CF := Lib.hid cf; clear cf
  have hb0 : Below w.heap.size w (w.alloc (.cells #[.int .i64 a, .int .i64 b] 24)) := (Below.refl _ _).alloc (Nat.le_refl _) _
  cases u
  case false =>
    clear ct hbd
    rw [if_neg (by simp)]
    go_enter Tryd.func12, Tryd.ntmps12
    go_wp2_with fail
    refine (CF.out _).mono ?_
    rintro e w1 ⟨rfl, hw1⟩
    have hb1 := hb0.trans (hw1.mono hb0.size)
    have o1 := (FrO.new w a b rfl).below hw1
    obtain ⟨x0, x1⟩ := o1.at
    go_wp2_with fail
    go_ret2
    exact ⟨rfl, hb1⟩
  case true =>
    rw [if_pos rfl]
    have CT := Lib.hid ct; clear ct
    have hbd' := hbd rfl
    clear hbd
    have e1 : IntKind.i64.wrap (-a) = -a := i64_small (by omega) (by omega)
    have e2 := HWZ.out rfl
    go_enter Tryd.func12, Tryd.ntmps12
    go_wp2_with fail
    refine (CF.out _).mono ?_
    rintro e w1 ⟨rfl, hw1⟩
    have hb1 := hb0.trans (hw1.mono hb0.size)
    have o1 := (FrO.new w a b rfl).below hw1
    obtain ⟨x0, x1⟩ := o1.at
    go_wp2_with fail
    refine (CT.out _ trivial).mono ?_
    rintro e w2 ⟨rfl, hw2⟩
    go_wp2_with fail
    go_ret2
    exact ⟨rfl, ball hb1 hw2⟩
set_option maxHeartbeats 3200000 in
set_option maxRecDepth 100000 in
theorem sFracText_c (f : Fr) (w : World) :
    Calls Tryd.prog 14 #[frV f] w fun e w' => e = .returned (.tuple #[strV (if frB f = true then frTxt f else []), .bool (frB f)]) ∧ Below w.heap.size w w' := by
  have cf := fun w => frGood_c f w
  have hbd := fun h => frB_t.1 (show frB f = true from h)
  have ct := fun w (h : frB f = true) => frText_s f w h
  generalize frB f = u at cf ct hbd ⊢
  generalize frTxt f = Z at ct ⊢
  obtain ⟨a, b⟩ := f
  unfold frV at *
  simp only at cf ct hbd ⊢
  unfold strV at *
  have CF := Lib.hid cf; clear cf
  have hb0 : Below w.heap.size w (w.alloc (.cells #[.int .i64 a, .int .i64 b] 24)) := (Below.refl _ _).alloc (Nat.le_refl _) _
  cases u
  case false =>
    clear ct hbd
    rw [if_neg (by simp)]
    go_enter Tryd.func14, Tryd.ntmps14
    go_wp2_with fail
    refine (CF.out _).mono ?_
    rintro e w1 ⟨rfl, hw1⟩
    have hb1 := hb0.trans (hw1.mono hb0.size)
    have o1 := (FrO.new w a b rfl).below hw1
    obtain ⟨x0, x1⟩ := o1.at
    go_wp2_with fail
    go_ret2
    exact ⟨rfl, hb1⟩
  case true =>
    rw [if_pos rfl]
    have CT := Lib.hid ct; clear ct
    have hbd' := hbd rfl
    clear hbd

    go_enter Tryd.func14, Tryd.ntmps14
    go_wp2_with fail
    refine (CF.out _).mono ?_
    rintro e w1 ⟨rfl, hw1⟩
    have hb1 := hb0.trans (hw1.mono hb0.size)
    have o1 := (FrO.new w a b rfl).below hw1
    obtain ⟨x0, x1⟩ := o1.at
    go_wp2_with fail
    refine (CT.out _ trivial).mono ?_
    rintro e w2 ⟨rfl, hw2⟩
    go_wp2_with fail
    go_ret2
    exact ⟨rfl, ball hb1 hw2⟩
set_option maxHeartbeats 3200000 in
set_option maxRecDepth 100000 in
theorem sMeanOfNumbers_c (ad : Option Addr) (cap : Nat) (xs : List Int) (w : World) (hr : RdI w ad xs) (hl : xs.length ≤ 1048576) :
    Calls Tryd.prog 19 #[.slice ad xs.length cap] w fun e w' => e = .returned (frR (lowF (isum xs) xs.length) (meanB xs)) ∧ Below w.heap.size w w' := by
  have cw := fun w => l1In_any (xs.length : Int) 1 40 w
  have hw0 := fun h => inB_t.1 (show inB (xs.length : Int) 1 40 = true from h)
  have ca := fun w h => l1All_any ad cap xs (-1000000) 1000000 w hl h
  have hab := fun (h : xs.all finB' = true) k => show -1000000000 ≤ isum (xs.take k) ∧ isum (xs.take k) ≤ 1000000000 ∨ 40 < xs.length from by
    have h1 := isum_bd (xs := xs.take k) (List.all_eq_true.2 (fun x hx => List.all_eq_true.1 h x (List.mem_of_mem_take hx)))
    have h2 : (xs.take k).length ≤ xs.length := by rw [List.length_take]; omega
    omega
  have hff : allB xs (-1000000) 1000000 = xs.all finB' := rfl
  rw [hff] at ca
  unfold meanB
  generalize inB (xs.length : Int) 1 40 = u at cw hw0 ⊢
  generalize xs.all finB' = v at ca hab ⊢
  have CW := Lib.hid cw; have CA := Lib.hid ca; have HR := Lib.hid hr; clear cw ca hr
  have hb0 : Below w.heap.size w (w.alloc (.cells #[.int .i64 0, .int .i64 0] 24)) := (Below.refl _ _).alloc (Nat.le_refl _) _
  have hr0 := Lib.hid (HR.out.below hb0)
  have o0 := FrO.new w 0 0 rfl
  unfold frR frV Fr.z
  cases u
  case false =>
    clear hab hw0
    simp only [Bool.false_and, Bool.false_eq_true, if_false]
    go_enter Tryd.func19, Tryd.ntmps19
    go_wp2_with fail
    refine (CW.out _).mono ?_
    rintro e w1 ⟨rfl, rfl⟩
    obtain ⟨x0, x1⟩ := o0.at
    obtain ⟨y0, y1⟩ := o0.fr
    go_wp2_with fail
    exact bodyPost_ret (v := .tuple #[.agg #[.int .i64 0, .int .i64 0], .bool false]) (by simp [results, Tryd.results19, go_sem]) rfl ⟨rfl, hb0⟩
  case true =>
    cases v
    case false =>
      clear hab
      simp only [Bool.true_and, Bool.false_and, Bool.false_eq_true, if_false]
      go_enter Tryd.func19, Tryd.ntmps19
      go_wp2_with fail
      refine (CW.out _).mono ?_
      rintro e w1 ⟨rfl, rfl⟩
      go_wp2_with fail
      refine (CA.out _ hr0.out).mono ?_
      rintro e w1 ⟨rfl, rfl⟩
      obtain ⟨x0, x1⟩ := o0.at
      obtain ⟨y0, y1⟩ := o0.fr
      go_wp2_with fail
      exact bodyPost_ret (v := .tuple #[.agg #[.int .i64 0, .int .i64 0], .bool false]) (by simp [results, Tryd.results19, go_sem]) rfl ⟨rfl, hb0⟩
    case true =>
      have hlen := hw0 rfl
      have hab' := Lib.hid (fun k => (hab rfl k).resolve_right (by omega)); clear hab hw0
      simp only [Bool.and_self, Bool.true_and]
      have hs := hab'.out xs.length
      rw [List.take_length] at hs
      have c1 := fun w => frMake_c (isum xs) xs.length w (by omega) (by omega)
      unfold frR at c1
      generalize mkB (isum xs) xs.length = k at c1 ⊢
      generalize lowF (isum xs) xs.length = L at c1 ⊢
      obtain ⟨X, Y⟩ := L
      unfold frV Fr.z at *
      try simp only at c1
      try simp only
      have C1 := Lib.hid c1; clear c1 hs
      go_enter Tryd.func19, Tryd.ntmps19
      go_wp2_with fail
      refine (CW.out _).mono ?_
      rintro e w1 ⟨rfl, rfl⟩
      go_wp2_with fail
      refine (CA.out _ hr0.out).mono ?_
      rintro e w1 ⟨rfl, rfl⟩
      go_wp2_with fail
      obtain ⟨wX, hwX⟩ : ∃ x, w.alloc (.cells #[.int .i64 0, .int .i64 0] 24) = x := ⟨_, rfl⟩
      rw [hwX] at hb0 hr0 o0 ⊢
      clear hwX
      go_loopw [4, 19] (fun s i wr => ∃ j : Nat, j ≤ xs.length ∧ i = .int .i64 j ∧ s = .int .i64 (isum (xs.take j)) ∧ Below wX.heap.size wX wr) (fun _ i _ => xs.length - (intOf i).toNat)
      case atStart => exact ⟨0, Nat.zero_le _, rfl, rfl, Below.refl _ _⟩
      case round =>
        obtain ⟨j, hj, rfl, rfl, hbel⟩ := hrel
        by_cases hlt : j < xs.length
        case pos =>
          obtain ⟨b, off, rfl, hbb, c0⟩ := (hr0.out.below hbel).shape' hlt
          have hsn : isum (xs.take (j + 1)) = isum (xs.take j) + xs.getD j 0 := by rw [take_snoc xs j 0 (by omega), isum_snoc]
          have hb1 := hab'.out (j + 1)
          rw [hsn] at hb1
          have HS := Lib.hid hsn; clear hsn
          generalize xs.getD j 0 = x at c0 hb1 HS
          generalize isum (xs.take j) = y at hb1 HS ⊢
          have e1 : IntKind.i64.wrap (y + x) = y + x := i64_small (by omega) (by omega)
          go_wp2_with fail
          go_roundw
          case rel => exact ⟨j + 1, by omega, by go_num, by rw [HS.out], hbel⟩
          case measure => simp [intOf]; omega
        case neg =>
          obtain rfl : j = xs.length := by omega
          rw [List.take_length]
          go_wp2_with fail
          refine (C1.out _).mono ?_
          rintro e w2 ⟨rfl, hw2⟩
          have o3 := (o0.below hbel).below hw2
          have hb3 := ball (hb0.trans (hbel.mono hb0.size)) hw2
          clear hw2
          obtain ⟨x0, x1⟩ := o3.at
          obtain ⟨y0, y1⟩ := o3.fr
          cases k
          case false =>
            go_wp2_with fail
            obtain ⟨W, hW, ⟨q0, q1⟩, hB⟩ := fr2_end (a := 0) (b := 0) o3 hb3 (by omega)
            unfold fr2 at hW
            rw [hW]
            exact bodyPost_ret (v := .tuple #[.agg #[.int .i64 0, .int .i64 0], .bool false]) (by simp [results, Tryd.results19, go_sem, q0, q1]) rfl ⟨rfl, hB⟩
          case true =>
            go_wp2_with fail
            obtain ⟨W, hW, ⟨q0, q1⟩, hB⟩ := fr2_end (a := X) (b := Y) o3 hb3 (by omega)
            unfold fr2 at hW
            rw [hW]
            exact bodyPost_ret (v := .tuple #[.agg #[.int .i64 X, .int .i64 Y], .bool true]) (by simp [results, Tryd.results19, go_sem, q0, q1]) rfl ⟨rfl, hB⟩

end Go.Proofs.YtljhdnipllacbaaDoor
