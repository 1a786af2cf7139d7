/-
  Fractions compared and made. By an AI agent.
-/
import Derived.Test.YtjkfighooijblaaGreatFrI
import Derived.Test.YtjkfighooijblaaGreatEgW
namespace Go.Proofs.YtjkfighooijblaaGreat
open Go.RowKit

def cmpF (f g : Fr) : Int := if f.n * g.d - g.n * f.d < 0 then -1 else if f.n * g.d - g.n * f.d > 0 then 1 else 0
set_option maxHeartbeats 1600000 in
set_option maxRecDepth 100000 in
theorem compare_c (f g : Fr) (w : World) (hf : frB f = true) (hg : frB g = true) :
    Calls Tryz.prog 62 #[frV f, frV g] w fun e w' => e = .returned (.int .i64 (cmpF f g)) ∧ Below w.heap.size w w' := by
  have hf1 := frB_t.1 hf
  have hg1 := frB_t.1 hg
  have m1 := mulb9 (k := f.n) (m := g.d) (by omega) (by omega)
  have m2 := mulb9 (k := g.n) (m := f.d) (by omega) (by omega)
  unfold cmpF
  obtain ⟨a, b⟩ := f
  obtain ⟨c', d⟩ := g
  unfold frV
  simp only at m1 m2 ⊢
  have e1 : IntKind.i64.wrap (a * d) = a * d := i64_small (by omega) (by omega)
  have e2 : IntKind.i64.wrap (c' * b) = c' * b := i64_small (by omega) (by omega)
  obtain ⟨U, hU⟩ : ∃ U, a * d = U := ⟨_, rfl⟩
  obtain ⟨V, hV⟩ : ∃ V, c' * b = V := ⟨_, rfl⟩
  rw [hU, hV]
  rw [hU] at m1
  rw [hV] at m2
  have e3 := e1.trans hU
  have e4 := e2.trans hV
  have e5 : IntKind.i64.wrap (U - V) = U - V := i64_small (by omega) (by omega)
  have hb0 : Below w.heap.size w ((w.alloc (.cells #[.int .i64 a, .int .i64 b] 30)).alloc (.cells #[.int .i64 c', .int .i64 d] 30)) := ((Below.refl _ _).alloc (Nat.le_refl _) _).alloc (by simp) _
  clear e1 e2 hU hV hf hg hf1 hg1 m1 m2
  by_cases h1 : U - V < 0
  · rw [if_pos h1]
    have g1 : decide (U - V < 0) = true := decide_eq_true h1
    have g3 : decide (U < V) = true := decide_eq_true (by omega)
    have H1 := Lib.hid h1; clear h1
    go_enter Tryz.func62, Tryz.ntmps62
    go_wp2_with fail
    go_ret
    exact ⟨rfl, hb0⟩
  · rw [if_neg h1]
    have g1 : decide (U - V < 0) = false := decide_eq_false h1
    have g3 : decide (U < V) = false := decide_eq_false (by omega)
    by_cases h2 : U - V > 0
    · rw [if_pos h2]
      have g2 : decide (0 < U - V) = true := decide_eq_true h2
      have g4 : decide (V < U) = true := decide_eq_true (by omega)
      have H1 := Lib.hid h1; have H2 := Lib.hid h2; clear h1 h2
      go_enter Tryz.func62, Tryz.ntmps62
      go_wp2_with fail
      go_ret
      exact ⟨rfl, hb0⟩
    · rw [if_neg h2]
      have g2 : decide (0 < U - V) = false := decide_eq_false h2
      have g4 : decide (V < U) = false := decide_eq_false (by omega)
      have H1 := Lib.hid h1; have H2 := Lib.hid h2; clear h1 h2
      go_enter Tryz.func62, Tryz.ntmps62
      go_wp2_with fail
      go_ret
      exact ⟨rfl, hb0⟩
theorem frB_one {n : Int} (h : -1000000000 ≤ n ∧ n ≤ 1000000000) : frB ⟨n, 1⟩ = true := frB_t.2 ⟨h, by simp only; omega, by unfold gcdN; simp⟩
theorem low_one {n : Int} (h : -1000000000 ≤ n ∧ n ≤ 1000000000) : lowF n 1 = ⟨n, 1⟩ := low_unique (by decide) (frB_one h) (by simp only; omega)
set_option maxHeartbeats 400000 in
theorem frInt_c (n : Int) (w : World) :
    Calls Tryz.prog 47 #[.int .i64 n] w fun e w' => e = .returned (.agg #[.int .i64 n, .int .i64 1]) ∧ Below w.heap.size w w' := by
  go_enter Tryz.func47, Tryz.ntmps47
  go_wp2_with fail
  exact bodyPost_ret (v := .agg #[.int .i64 n, .int .i64 1]) (by simp [results, Tryz.results47, go_sem]) rfl ⟨rfl, (Below.refl _ _).alloc (Nat.le_refl _) _⟩
set_option maxHeartbeats 800000 in
theorem l1Sign_c (n : Int) (w : World) :
    Calls Tryz.prog 79 #[.int .i64 n] w fun e w' => e = .returned (.int .i64 (if n < 0 then -1 else if n > 0 then 1 else 0)) ∧ w = w' := by
  by_cases h1 : n < 0
  · rw [if_pos h1]
    have g1 : decide (n < 0) = true := decide_eq_true h1
    have g2 : decide (0 < n) = false := decide_eq_false (by omega)
    have H1 := Lib.hid h1; clear h1
    go_enter Tryz.func79, Tryz.ntmps79
    go_wp2_with fail
    go_ret
    exact ⟨rfl, rfl⟩
  · rw [if_neg h1]
    have g1 : decide (n < 0) = false := decide_eq_false h1
    by_cases h2 : n > 0
    · rw [if_pos h2]
      have g2 : decide (0 < n) = true := decide_eq_true h2
      have H1 := Lib.hid h1; have H2 := Lib.hid h2; clear h1 h2
      go_enter Tryz.func79, Tryz.ntmps79
      go_wp2_with fail
      go_ret
      exact ⟨rfl, rfl⟩
    · rw [if_neg h2]
      have g2 : decide (0 < n) = false := decide_eq_false h2
      have H1 := Lib.hid h1; have H2 := Lib.hid h2; clear h1 h2
      go_enter Tryz.func79, Tryz.ntmps79
      go_wp2_with fail
      go_ret
      exact ⟨rfl, rfl⟩
set_option maxHeartbeats 1600000 in
set_option maxRecDepth 100000 in
theorem frCmp_c (f g : Fr) (w : World) (hf : frB f = true) (hg : frB g = true) :
    Calls Tryz.prog 46 #[frV f, frV g] w fun e w' => e = .returned (.int .i64 (cmpF f g)) ∧ Below w.heap.size w w' := by
  have hf1 := frB_t.1 hf
  have hg1 := frB_t.1 hg
  have m1 := mulb9 (k := f.n) (m := g.d) (by omega) (by omega)
  have m2 := mulb9 (k := g.n) (m := f.d) (by omega) (by omega)
  have cs := fun w => l1Sign_c (f.n * g.d - g.n * f.d) w
  have hz : (if f.n * g.d - g.n * f.d < 0 then (-1 : Int) else if f.n * g.d - g.n * f.d > 0 then 1 else 0) = cmpF f g := rfl
  rw [hz] at cs
  clear hz
  generalize cmpF f g = Z at cs ⊢
  obtain ⟨a, b⟩ := f
  obtain ⟨c', d⟩ := g
  unfold frV
  simp only at m1 m2 cs ⊢
  have e1 : IntKind.i64.wrap (a * d) = a * d := i64_small (by omega) (by omega)
  have e2 : IntKind.i64.wrap (c' * b) = c' * b := i64_small (by omega) (by omega)
  obtain ⟨U, hU⟩ : ∃ U, a * d = U := ⟨_, rfl⟩
  obtain ⟨V, hV⟩ : ∃ V, c' * b = V := ⟨_, rfl⟩
  rw [hU, hV] at cs
  rw [hU] at m1
  rw [hV] at m2
  have e3 := e1.trans hU
  have e4 := e2.trans hV
  have e5 : IntKind.i64.wrap (U - V) = U - V := i64_small (by omega) (by omega)
  have CS := Lib.hid cs
  have hb0 : Below w.heap.size w ((w.alloc (.cells #[.int .i64 a, .int .i64 b] 30)).alloc (.cells #[.int .i64 c', .int .i64 d] 30)) := ((Below.refl _ _).alloc (Nat.le_refl _) _).alloc (by simp) _
  clear e1 e2 hU hV hf hg hf1 hg1 m1 m2 cs
  go_enter Tryz.func46, Tryz.ntmps46
  go_wp2_with fail
  refine (CS.out _).mono ?_
  rintro e w1 ⟨rfl, rfl⟩
  go_wp2_with fail
  go_ret
  exact ⟨rfl, hb0⟩
set_option maxHeartbeats 3200000 in
set_option maxRecDepth 100000 in
theorem frMake_c (n d : Int) (w : World) (hn : -2000000000000000000 ≤ n ∧ n ≤ 2000000000000000000) (hdb : -2000000000000000000 ≤ d ∧ d ≤ 2000000000000000000) :
    Calls Tryz.prog 69 #[.int .i64 n, .int .i64 d] w fun e w' => e = .returned (frR (lowF n d) (mkB n d)) ∧ Below w.heap.size w w' := by
  have hb0 : Below w.heap.size w (w.alloc (.cells #[.int .i64 0, .int .i64 0] 30)) := (Below.refl _ _).alloc (Nat.le_refl _) _
  have o0 := FrO.new w 0 0 rfl
  by_cases hd : d = 0
  case pos =>
    subst hd
    have hm : mkB n 0 = false := rfl
    rw [hm, frR_f]
    unfold frV Fr.z
    simp only
    clear hn hdb
    obtain ⟨x0, x1⟩ := o0.at
    obtain ⟨y0, y1⟩ := o0.fr
    go_enter Tryz.func69, Tryz.ntmps69
    go_wp2_with fail
    exact bodyPost_ret (v := .tuple #[.agg #[.int .i64 0, .int .i64 0], .bool false]) (by simp [results, Tryz.results69, go_sem]) rfl ⟨rfl, hb0⟩
  case neg =>
    have c := fun w => frGcdW_c n d w (by omega) (by omega)
    have cg := fun w => frGood_c (lowF n d) w
    have hg := gcdN_bd (n := n) hd
    have hS : sgG n d = if d < 0 then -gcdN n d else gcdN n d := rfl
    have x1 := tdiv_bd n (sgG n d)
    have x2 := tdiv_bd d (sgG n d)
    have hd0 : (d == 0) = false := beq_eq_false_iff_ne.2 hd
    have hmk : mkB n d = frB (lowF n d) := by unfold mkB; rw [decide_eq_true hd]; rfl
    rw [hmk]
    clear hmk
    generalize frB (lowF n d) = k at cg ⊢
    unfold frR frV lowF Fr.z at *
    simp only at cg ⊢
    generalize gcdN n d = G at c hg hS
    generalize sgG n d = S at hS x1 x2 cg ⊢
    have hS0 : ¬ S = 0 := by rw [hS]; split <;> omega
    have hS1 : (S == 0) = false := beq_eq_false_iff_ne.2 hS0
    generalize hX : Int.tdiv n S = X at x1 cg ⊢
    generalize hY : Int.tdiv d S = Y at x2 cg ⊢
    have e1 : IntKind.i64.wrap X = X := i64_small (by omega) (by omega)
    have e2 : IntKind.i64.wrap Y = Y := i64_small (by omega) (by omega)
    have hng : IntKind.i64.wrap (-G) = -G := i64_small (by omega) (by omega)
    have HNG := Lib.hid hng; clear hng
    have C := Lib.hid c; have CG := Lib.hid cg; clear c cg hg x1 x2
    by_cases hneg : d < 0
    · rw [if_pos hneg] at hS
      have g1 : decide (d < 0) = true := decide_eq_true hneg
      have hng : IntKind.i64.wrap (-G) = S := by rw [HNG.out, hS]
      clear hS
      have HN := Lib.hid hneg; clear hneg hn hdb hd
      go_enter Tryz.func69, Tryz.ntmps69
      go_wp2_with fail
      refine (C.out _).mono ?_
      rintro e w1 ⟨rfl, hw1⟩
      have o1 := o0.below hw1
      have hb1 := hb0.trans (hw1.mono hb0.size)
      clear hw1 hb0 o0
      obtain ⟨x0, x1⟩ := o1.at
      go_wp2_with fail
      go_region_held3 (fun w' => w'.cell? ⟨w.heap.size, 0, none⟩ = some (.int .i64 0) ∧ w'.cell? ⟨w.heap.size, 1, none⟩ = some (.int .i64 0)) (go_keep) (fail)
      have o3 : FrO (w1.alloc (.cells #[.int .i64 X, .int .i64 Y] 30)).drew _ _ := o1.alloc (.cells #[.int .i64 X, .int .i64 Y] 30)
      have r3 : FrO (w1.alloc (.cells #[.int .i64 X, .int .i64 Y] 30)).drew _ _ := FrO.new w1 X Y rfl
      have hb3 := (bal_alloc (o := (.cells #[.int .i64 X, .int .i64 Y] 30)) hb1).drew
      clear o1 hb1 x0 x1
      go_wp2_with fail
      refine (CG.out _).mono ?_
      rintro e w4 ⟨rfl, hw4⟩
      have o4 := o3.below hw4
      have r4 := r3.below hw4
      have hb4 := ball hb3 hw4
      clear o3 r3 hw4 hb3
      obtain ⟨x0, x1⟩ := o4.at
      obtain ⟨y0, y1⟩ := o4.fr
      obtain ⟨z0, z1⟩ := r4.at
      cases k
      case false =>
        go_wp2_with fail
        obtain ⟨W, hW, ⟨q0, q1⟩, hB⟩ := fr2_end (a := 0) (b := 0) o4 hb4 (by omega)
        unfold fr2 at hW
        rw [hW]
        exact bodyPost_ret (v := .tuple #[.agg #[.int .i64 0, .int .i64 0], .bool false]) (by simp [results, Tryz.results69, go_sem, q0, q1]) rfl ⟨rfl, hB⟩
      case true =>
        go_wp2_with fail
        obtain ⟨W, hW, ⟨q0, q1⟩, hB⟩ := fr2_end (a := X) (b := Y) o4 hb4 (by omega)
        unfold fr2 at hW
        rw [hW]
        exact bodyPost_ret (v := .tuple #[.agg #[.int .i64 X, .int .i64 Y], .bool true]) (by simp [results, Tryz.results69, go_sem, q0, q1]) rfl ⟨rfl, hB⟩
    · rw [if_neg hneg] at hS
      have g1 : decide (d < 0) = false := decide_eq_false hneg
      subst hS
      have HN := Lib.hid hneg; clear hneg hn hdb hd
      go_enter Tryz.func69, Tryz.ntmps69
      go_wp2_with fail
      refine (C.out _).mono ?_
      rintro e w1 ⟨rfl, hw1⟩
      have o1 := o0.below hw1
      have hb1 := hb0.trans (hw1.mono hb0.size)
      clear hw1 hb0 o0
      obtain ⟨x0, x1⟩ := o1.at
      go_wp2_with fail
      go_region_held3 (fun w' => w'.cell? ⟨w.heap.size, 0, none⟩ = some (.int .i64 0) ∧ w'.cell? ⟨w.heap.size, 1, none⟩ = some (.int .i64 0)) (go_keep) (fail)
      have o3 : FrO (w1.alloc (.cells #[.int .i64 X, .int .i64 Y] 30)).drew _ _ := o1.alloc (.cells #[.int .i64 X, .int .i64 Y] 30)
      have r3 : FrO (w1.alloc (.cells #[.int .i64 X, .int .i64 Y] 30)).drew _ _ := FrO.new w1 X Y rfl
      have hb3 := (bal_alloc (o := (.cells #[.int .i64 X, .int .i64 Y] 30)) hb1).drew
      clear o1 hb1 x0 x1
      go_wp2_with fail
      refine (CG.out _).mono ?_
      rintro e w4 ⟨rfl, hw4⟩
      have o4 := o3.below hw4
      have r4 := r3.below hw4
      have hb4 := ball hb3 hw4
      clear o3 r3 hw4 hb3
      obtain ⟨x0, x1⟩ := o4.at
      obtain ⟨y0, y1⟩ := o4.fr
      obtain ⟨z0, z1⟩ := r4.at
      cases k
      case false =>
        go_wp2_with fail
        obtain ⟨W, hW, ⟨q0, q1⟩, hB⟩ := fr2_end (a := 0) (b := 0) o4 hb4 (by omega)
        unfold fr2 at hW
        rw [hW]
        exact bodyPost_ret (v := .tuple #[.agg #[.int .i64 0, .int .i64 0], .bool false]) (by simp [results, Tryz.results69, go_sem, q0, q1]) rfl ⟨rfl, hB⟩
      case true =>
        go_wp2_with fail
        obtain ⟨W, hW, ⟨q0, q1⟩, hB⟩ := fr2_end (a := X) (b := Y) o4 hb4 (by omega)
        unfold fr2 at hW
        rw [hW]
        exact bodyPost_ret (v := .tuple #[.agg #[.int .i64 X, .int .i64 Y], .bool true]) (by simp [results, Tryz.results69, go_sem, q0, q1]) rfl ⟨rfl, hB⟩
end Go.Proofs.YtjkfighooijblaaGreat
