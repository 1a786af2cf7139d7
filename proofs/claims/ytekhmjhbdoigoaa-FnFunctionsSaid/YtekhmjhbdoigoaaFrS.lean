/-
  Fractions: the reference's side. Printed by gen_frK.py.
-/
import Derived.Test.YtekhmjhbdoigoaaFrK
namespace Go.Proofs.Ytekhmjhbdoigoaa
open Go.RowKit
set_option maxHeartbeats 3200000 in
set_option maxRecDepth 100000 in
theorem frMake_c (n d : Int) (w : World) (hn : -2000000000000000000 ≤ n ∧ n ≤ 2000000000000000000) (hdb : -2000000000000000000 ≤ d ∧ d ≤ 2000000000000000000) :
    Calls Try.prog 82 #[.int .i64 n, .int .i64 d] w fun e w' => e = .returned (frR (lowF n d) (mkB n d)) ∧ Below w.heap.size w w' := by
  have hb0 : Below w.heap.size w (w.alloc (.cells #[.int .i64 0, .int .i64 0] 38)) := (Below.refl _ _).alloc (Nat.le_refl _) _
  have o0 := FrO.new w 0 0 rfl
  by_cases hd : d = 0
  case pos =>
    subst hd
    have hm : mkB n 0 = false := rfl
    rw [hm, frR_f]
    unfold frV Fr.z
    simp only
    clear hn hdb
    obtain ⟨x0, x1⟩ := o0.at
    obtain ⟨y0, y1⟩ := o0.fr
    go_enter Try.func82, Try.ntmps82
    go_wp2_with fail
    exact bodyPost_ret (v := .tuple #[.agg #[.int .i64 0, .int .i64 0], .bool false]) (by simp [results, Try.results82, go_sem]) rfl ⟨rfl, hb0⟩
  case neg =>
    have c := fun w => frGcdW_c n d w (by omega) (by omega)
    have cg := fun w => frGood_c (lowF n d) w
    have hg := gcdN_bd (n := n) hd
    have hS : sgG n d = if d < 0 then -gcdN n d else gcdN n d := rfl
    have x1 := tdiv_bd n (sgG n d)
    have x2 := tdiv_bd d (sgG n d)
    have hd0 : (d == 0) = false := beq_eq_false_iff_ne.2 hd
    have hmk : mkB n d = frB (lowF n d) := by unfold mkB; rw [decide_eq_true hd]; rfl
    rw [hmk]
    clear hmk
    generalize frB (lowF n d) = k at cg ⊢
    unfold frR frV lowF Fr.z at *
    simp only at cg ⊢
    generalize gcdN n d = G at c hg hS
    generalize sgG n d = S at hS x1 x2 cg ⊢
    have hS0 : ¬ S = 0 := by rw [hS]; split <;> omega
    have hS1 : (S == 0) = false := beq_eq_false_iff_ne.2 hS0
    generalize hX : Int.tdiv n S = X at x1 cg ⊢
    generalize hY : Int.tdiv d S = Y at x2 cg ⊢
    have e1 : IntKind.i64.wrap X = X := i64_small (by omega) (by omega)
    have e2 : IntKind.i64.wrap Y = Y := i64_small (by omega) (by omega)
    have hng : IntKind.i64.wrap (-G) = -G := i64_small (by omega) (by omega)
    have HNG := Lib.hid hng; clear hng
    have C := Lib.hid c; have CG := Lib.hid cg; clear c cg hg x1 x2
    by_cases hneg : d < 0
    · rw [if_pos hneg] at hS
      have g1 : decide (d < 0) = true := decide_eq_true hneg
      have hng : IntKind.i64.wrap (-G) = S := by rw [HNG.out, hS]
      clear hS
      have HN := Lib.hid hneg; clear hneg hn hdb hd
      go_enter Try.func82, Try.ntmps82
      go_wp2_with fail
      refine (C.out _).mono ?_
      rintro e w1 ⟨rfl, hw1⟩
      have o1 := o0.below hw1
      have hb1 := hb0.trans (hw1.mono hb0.size)
      clear hw1 hb0 o0
      obtain ⟨x0, x1⟩ := o1.at
      go_wp2_with fail
      go_region_held3 (fun w' => w'.cell? ⟨w.heap.size, 0, none⟩ = some (.int .i64 0) ∧ w'.cell? ⟨w.heap.size, 1, none⟩ = some (.int .i64 0)) (go_keep) (fail)
      have o3 : FrO (w1.alloc (.cells #[.int .i64 X, .int .i64 Y] 38)).drew _ _ := o1.alloc (.cells #[.int .i64 X, .int .i64 Y] 38)
      have r3 : FrO (w1.alloc (.cells #[.int .i64 X, .int .i64 Y] 38)).drew _ _ := FrO.new w1 X Y rfl
      have hb3 := (bal_alloc (o := (.cells #[.int .i64 X, .int .i64 Y] 38)) hb1).drew
      clear o1 hb1 x0 x1
      go_wp2_with fail
      refine (CG.out _).mono ?_
      rintro e w4 ⟨rfl, hw4⟩
      have o4 := o3.below hw4
      have r4 := r3.below hw4
      have hb4 := ball hb3 hw4
      clear o3 r3 hw4 hb3
      obtain ⟨x0, x1⟩ := o4.at
      obtain ⟨y0, y1⟩ := o4.fr
      obtain ⟨z0, z1⟩ := r4.at
      cases k
      case false =>
        go_wp2_with fail
        obtain ⟨W, hW, ⟨q0, q1⟩, hB⟩ := fr2_end (a := 0) (b := 0) o4 hb4 (by omega)
        unfold fr2 at hW
        rw [hW]
        exact bodyPost_ret (v := .tuple #[.agg #[.int .i64 0, .int .i64 0], .bool false]) (by simp [results, Try.results82, go_sem, q0, q1]) rfl ⟨rfl, hB⟩
      case true =>
        go_wp2_with fail
        obtain ⟨W, hW, ⟨q0, q1⟩, hB⟩ := fr2_end (a := X) (b := Y) o4 hb4 (by omega)
        unfold fr2 at hW
        rw [hW]
        exact bodyPost_ret (v := .tuple #[.agg #[.int .i64 X, .int .i64 Y], .bool true]) (by simp [results, Try.results82, go_sem, q0, q1]) rfl ⟨rfl, hB⟩
    · rw [if_neg hneg] at hS
      have g1 : decide (d < 0) = false := decide_eq_false hneg
      subst hS
      have HN := Lib.hid hneg; clear hneg hn hdb hd
      go_enter Try.func82, Try.ntmps82
      go_wp2_with fail
      refine (C.out _).mono ?_
      rintro e w1 ⟨rfl, hw1⟩
      have o1 := o0.below hw1
      have hb1 := hb0.trans (hw1.mono hb0.size)
      clear hw1 hb0 o0
      obtain ⟨x0, x1⟩ := o1.at
      go_wp2_with fail
      go_region_held3 (fun w' => w'.cell? ⟨w.heap.size, 0, none⟩ = some (.int .i64 0) ∧ w'.cell? ⟨w.heap.size, 1, none⟩ = some (.int .i64 0)) (go_keep) (fail)
      have o3 : FrO (w1.alloc (.cells #[.int .i64 X, .int .i64 Y] 38)).drew _ _ := o1.alloc (.cells #[.int .i64 X, .int .i64 Y] 38)
      have r3 : FrO (w1.alloc (.cells #[.int .i64 X, .int .i64 Y] 38)).drew _ _ := FrO.new w1 X Y rfl
      have hb3 := (bal_alloc (o := (.cells #[.int .i64 X, .int .i64 Y] 38)) hb1).drew
      clear o1 hb1 x0 x1
      go_wp2_with fail
      refine (CG.out _).mono ?_
      rintro e w4 ⟨rfl, hw4⟩
      have o4 := o3.below hw4
      have r4 := r3.below hw4
      have hb4 := ball hb3 hw4
      clear o3 r3 hw4 hb3
      obtain ⟨x0, x1⟩ := o4.at
      obtain ⟨y0, y1⟩ := o4.fr
      obtain ⟨z0, z1⟩ := r4.at
      cases k
      case false =>
        go_wp2_with fail
        obtain ⟨W, hW, ⟨q0, q1⟩, hB⟩ := fr2_end (a := 0) (b := 0) o4 hb4 (by omega)
        unfold fr2 at hW
        rw [hW]
        exact bodyPost_ret (v := .tuple #[.agg #[.int .i64 0, .int .i64 0], .bool false]) (by simp [results, Try.results82, go_sem, q0, q1]) rfl ⟨rfl, hB⟩
      case true =>
        go_wp2_with fail
        obtain ⟨W, hW, ⟨q0, q1⟩, hB⟩ := fr2_end (a := X) (b := Y) o4 hb4 (by omega)
        unfold fr2 at hW
        rw [hW]
        exact bodyPost_ret (v := .tuple #[.agg #[.int .i64 X, .int .i64 Y], .bool true]) (by simp [results, Try.results82, go_sem, q0, q1]) rfl ⟨rfl, hB⟩
set_option maxHeartbeats 3200000 in
set_option maxRecDepth 100000 in
theorem frMul_c (f g : Fr) (w : World) (hf : frB f = true) (hg : frB g = true) :
    Calls Try.prog 55 #[frV f, frV g] w fun e w' => e = .returned (frR (lowF (f.n * g.n) (f.d * g.d)) (mkB (f.n * g.n) (f.d * g.d))) ∧ Below w.heap.size w w' := by
  have hf1 := frB_t.1 hf
  have hg1 := frB_t.1 hg
  have m1 := mulb9 (k := f.n) (m := g.n) (by omega) (by omega)
  have m2 := mulb9 (k := f.d) (m := g.d) (by omega) (by omega)
  have c := fun w => frMake_c (f.n * g.n) (f.d * g.d) w (by omega) (by omega)
  unfold frR at c ⊢
  generalize mkB (f.n * g.n) (f.d * g.d) = k at c ⊢
  generalize lowF (f.n * g.n) (f.d * g.d) = L at c ⊢
  obtain ⟨a, b⟩ := f
  obtain ⟨c', d⟩ := g
  obtain ⟨X, Y⟩ := L
  unfold frV Fr.z at *
  simp only at c m1 m2 ⊢
  have e1 : IntKind.i64.wrap (a * c') = a * c' := i64_small (by omega) (by omega)
  have e2 : IntKind.i64.wrap (b * d) = b * d := i64_small (by omega) (by omega)
  obtain ⟨N, hN⟩ : ∃ N, a * c' = N := ⟨_, rfl⟩
  obtain ⟨D, hD⟩ : ∃ D, b * d = D := ⟨_, rfl⟩
  rw [hN, hD] at c
  have e3 := e1.trans hN
  have e4 := e2.trans hD
  clear e1 e2 hN hD
  have C := Lib.hid c; clear c m1 m2 hf hg hf1 hg1
  have hb0 : Below w.heap.size w (((w.alloc (.cells #[.int .i64 a, .int .i64 b] 38)).alloc (.cells #[.int .i64 c', .int .i64 d] 38)).alloc (.cells #[.int .i64 0, .int .i64 0] 38)) := (((Below.refl _ _).alloc (Nat.le_refl _) _).alloc (by simp) _).alloc (by simp; omega) _
  go_enter Try.func55, Try.ntmps55
  go_wp2_with fail
  refine (C.out _).mono ?_
  rintro e w1 ⟨rfl, hw1⟩
  have o1 := (FrO.new (g := w.heap.size + 1 + 1) ((w.alloc (.cells #[.int .i64 a, .int .i64 b] 38)).alloc (.cells #[.int .i64 c', .int .i64 d] 38)) 0 0 (by simp)).below hw1
  have hb1 := hb0.trans (hw1.mono hb0.size)
  clear hw1 hb0
  obtain ⟨x0, x1⟩ := o1.at
  obtain ⟨y0, y1⟩ := o1.fr
  cases k
  case false =>
    go_wp2_with fail
    obtain ⟨W, hW, ⟨q0, q1⟩, hB⟩ := fr2_end (a := 0) (b := 0) o1 hb1 (by omega)
    unfold fr2 at hW
    rw [hW]
    exact bodyPost_ret (v := .tuple #[.agg #[.int .i64 0, .int .i64 0], .bool false]) (by simp [results, Try.results55, go_sem, q0, q1]) rfl ⟨rfl, hB⟩
  case true =>
    go_wp2_with fail
    obtain ⟨W, hW, ⟨q0, q1⟩, hB⟩ := fr2_end (a := X) (b := Y) o1 hb1 (by omega)
    unfold fr2 at hW
    rw [hW]
    exact bodyPost_ret (v := .tuple #[.agg #[.int .i64 X, .int .i64 Y], .bool true]) (by simp [results, Try.results55, go_sem, q0, q1]) rfl ⟨rfl, hB⟩
set_option maxHeartbeats 3200000 in
set_option maxRecDepth 100000 in
theorem frFloor_c (n d : Int) (w : World) (hd : 1 ≤ d ∧ d ≤ 1000000000) (hn : -1000000000 ≤ n ∧ n ≤ 1000000000) :
    Calls Try.prog 67 #[.int .i64 n, .int .i64 d] w fun e w' => e = .returned (.int .i64 (floZ n d)) ∧ Below w.heap.size w w' := by
  have hv := flo_ref (n := n) (d := d) (by omega)
  have x1 := tdiv_bd n d
  have hd0 : ¬ d = 0 := by omega
  have hd1 : (d == 0) = false := beq_eq_false_iff_ne.2 hd0
  generalize floZ n d = Z at hv ⊢
  generalize hT : Int.tdiv n d = T at x1 hv
  generalize hR : Int.tmod n d = R at hv
  have e1 : IntKind.i64.wrap T = T := i64_small (by omega) (by omega)
  have e2 : IntKind.i64.wrap (T - 1) = T - 1 := i64_small (by omega) (by omega)
  clear hd hn x1
  obtain ⟨q, hq⟩ : ∃ q, decide (n < 0) = q := ⟨_, rfl⟩
  obtain ⟨r, hr⟩ : ∃ r, (R == 0) = r := ⟨_, rfl⟩
  rw [hq, hr] at hv
  have HV := Lib.hid hv; clear hv
  cases q
  · go_enter Try.func67, Try.ntmps67
    go_wp2_with fail
    go_ret
    exact ⟨by rw [← HV.out]; rfl, Below.refl _ _⟩
  · cases r
    all_goals
      go_enter Try.func67, Try.ntmps67
      go_wp2_with fail
      go_ret
      exact ⟨by rw [← HV.out]; rfl, Below.refl _ _⟩
end Go.Proofs.Ytekhmjhbdoigoaa
