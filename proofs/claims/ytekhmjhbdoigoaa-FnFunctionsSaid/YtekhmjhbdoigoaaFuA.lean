/-
  Sums of fractions, both sides. Printed by gen_fuA.py.
-/
import Derived.Test.YtekhmjhbdoigoaaFuT
namespace Go.Proofs.Ytekhmjhbdoigoaa
open Go.RowKit
def addN (f g : Fr) : Int := f.n * g.d + g.n * f.d
def addB (a b : Fr) : Bool := (frB a && frB b) && mkB (addN a b) (a.d * b.d)
set_option maxHeartbeats 1600000 in
set_option maxRecDepth 100000 in
theorem add_c (f g : Fr) (w : World) (hf : frB f = true) (hg : frB g = true) (hne : (f.d * g.d) ≠ 0) :
    Calls Try.prog 80 #[frV f, frV g] w fun e w' => e = .returned (frV (lowF (addN f g) (f.d * g.d))) ∧ Below w.heap.size w w' := by
  have hf1 := frB_t.1 hf
  have hg1 := frB_t.1 hg
  have m1 := mulb9 (k := f.n) (m := g.d) (by omega) (by omega)
  have m3 := mulb9 (k := g.n) (m := f.d) (by omega) (by omega)
  have m2 := mulb9 (k := f.d) (m := g.d) (by omega) (by omega)
  have c := fun w => lowest_c (addN f g) (f.d * g.d) w hne (by unfold addN; omega) (by omega)
  generalize lowF (addN f g) (f.d * g.d) = L at c ⊢
  obtain ⟨a, b⟩ := f
  obtain ⟨c', d⟩ := g
  obtain ⟨X, Y⟩ := L
  unfold frV at *
  unfold addN at *
  simp only at c m1 m2 m3 ⊢
  have e1 : IntKind.i64.wrap (a * d) = a * d := i64_small (by omega) (by omega)
  have e5 : IntKind.i64.wrap (c' * b) = c' * b := i64_small (by omega) (by omega)
  obtain ⟨P1, hP1⟩ : ∃ P, a * d = P := ⟨_, rfl⟩
  obtain ⟨P2, hP2⟩ : ∃ P, c' * b = P := ⟨_, rfl⟩
  rw [hP1] at e1 m1 c
  rw [hP2] at e5 m3 c
  have e6 : IntKind.i64.wrap (P1 + P2) = P1 + P2 := i64_small (by omega) (by omega)
  have e2 : IntKind.i64.wrap (b * d) = b * d := i64_small (by omega) (by omega)
  obtain ⟨N, hN⟩ : ∃ N, P1 + P2 = N := ⟨_, rfl⟩
  obtain ⟨D, hD⟩ : ∃ D, b * d = D := ⟨_, rfl⟩
  rw [hN, hD] at c
  have e3 := e6.trans hN
  have q1' : IntKind.i64.wrap (a * d) = P1 := by rw [hP1]; exact e1
  have q2' : IntKind.i64.wrap (c' * b) = P2 := by rw [hP2]; exact e5
  have e4 := e2.trans hD
  clear e1 e2 e5 e6 hN hD hP1 hP2 m3
  have C := Lib.hid c; clear c m1 m2 hf hg hf1 hg1 hne
  have hb0 : Below w.heap.size w (((w.alloc (.cells #[.int .i64 a, .int .i64 b] 38)).alloc (.cells #[.int .i64 c', .int .i64 d] 38)).alloc (.cells #[.int .i64 0, .int .i64 0] 38)) := (((Below.refl _ _).alloc (Nat.le_refl _) _).alloc (by simp) _).alloc (by simp; omega) _
  go_enter Try.func80, Try.ntmps80
  go_wp2_with fail
  refine (C.out _).mono ?_
  rintro e w1 ⟨rfl, hw1⟩
  have o1 := (FrO.new (g := w.heap.size + 1 + 1) ((w.alloc (.cells #[.int .i64 a, .int .i64 b] 38)).alloc (.cells #[.int .i64 c', .int .i64 d] 38)) 0 0 (by simp)).below hw1
  have hb1 := hb0.trans (hw1.mono hb0.size)
  clear hw1 hb0
  obtain ⟨x0, x1⟩ := o1.at
  obtain ⟨y0, y1⟩ := o1.fr
  go_wp2_with fail
  obtain ⟨W, hW, ⟨q0, q1⟩, hB⟩ := fr2_end (a := X) (b := Y) o1 hb1 (by omega)
  unfold fr2 at hW
  rw [hW]
  exact bodyPost_ret (v := .agg #[.int .i64 X, .int .i64 Y]) (by simp [results, Try.results80, go_sem, q0, q1]) rfl ⟨rfl, hB⟩
set_option maxHeartbeats 3200000 in
set_option maxRecDepth 100000 in
theorem iAddFracs_c (f g : Fr) (w : World) :
    Calls Try.prog 51 #[frV f, frV g] w fun e w' => e = .returned (frR (lowF (addN f g) (f.d * g.d)) (addB f g)) ∧ Below w.heap.size w w' := by
  have ca := fun w k hk => areFracs_n f g k w hk
  have cm := fun w h1 h2 h3 => add_c f g w h1 h2 h3
  have ct := fun w => toldFrac_c (lowF (addN f g) (f.d * g.d)) w
  have hne := fun (h1 : frB f = true) (h2 : frB g = true) => show True → f.d * g.d ≠ 0 from fun h3 => mul_ne (by have := (frB_t.1 h1).2.1; omega) (by have := (frB_t.1 h2).2.1; omega)
  unfold addB mkB
  unfold frR at ct ⊢
  generalize frB (lowF (addN f g) (f.d * g.d)) = k at ct ⊢
  generalize addN f g = AN at *
  generalize lowF AN (f.d * g.d) = L at cm ct ⊢
  generalize frB f = u at ca cm hne ⊢
  generalize frB g = v at ca cm hne ⊢
  obtain ⟨a, b⟩ := f
  obtain ⟨c', d⟩ := g
  obtain ⟨X, Y⟩ := L
  unfold frV Fr.z at *
  simp only at ca cm ct hne ⊢
  have CA := Lib.hid ca; have CM := Lib.hid cm; have CT := Lib.hid ct; clear ca cm ct
  have hb0 : Below w.heap.size w ((((w.alloc (.cells #[.int .i64 a, .int .i64 b] 38)).alloc (.cells #[.int .i64 c', .int .i64 d] 38)).alloc (.cells #[.int .i64 0, .int .i64 0] 38)).alloc (.cells #[.int .i64 a, .int .i64 b, .int .i64 c', .int .i64 d] 38)) := ((((Below.refl _ _).alloc (Nat.le_refl _) _).alloc (by simp) _).alloc (by simp; omega) _).alloc (by simp; omega) _
  by_cases huv : (u && v) = true
  case neg =>
    have huv' : (u && v) = false := by simpa using huv
    rw [huv'] at CA
    rw [huv']
    simp only [Bool.false_and, Bool.false_eq_true, if_false]
    clear CM CT hne huv huv'
    go_enter Try.func51, Try.ntmps51
    go_wp2_with fail
    refine (CA.out _ _ (by simp)).mono ?_
    rintro e w1 ⟨rfl, hw1⟩
    have o1 := (((FrO.new (g := w.heap.size + 1 + 1) ((w.alloc (.cells #[.int .i64 a, .int .i64 b] 38)).alloc (.cells #[.int .i64 c', .int .i64 d] 38)) 0 0 (by simp)).alloc (.cells #[.int .i64 a, .int .i64 b, .int .i64 c', .int .i64 d] 38))).below hw1
    have p1 := (((((FrO.new w a b rfl).alloc (.cells #[.int .i64 c', .int .i64 d] 38)).alloc (.cells #[.int .i64 0, .int .i64 0] 38)).alloc (.cells #[.int .i64 a, .int .i64 b, .int .i64 c', .int .i64 d] 38))).below hw1
    have r1 := ((((FrO.new (g := w.heap.size + 1) (w.alloc (.cells #[.int .i64 a, .int .i64 b] 38)) c' d (by simp)).alloc (.cells #[.int .i64 0, .int .i64 0] 38)).alloc (.cells #[.int .i64 a, .int .i64 b, .int .i64 c', .int .i64 d] 38))).below hw1
    have hb1 := hb0.trans (hw1.mono hb0.size)
    clear hw1 hb0
    obtain ⟨x0, x1⟩ := o1.at
    obtain ⟨y0, y1⟩ := o1.fr
    obtain ⟨z0, z1⟩ := p1.at
    obtain ⟨u0, u1⟩ := r1.at
    go_wp2_with fail
    obtain ⟨W, hW, ⟨q0, q1⟩, hB⟩ := fr2_end (a := 0) (b := 0) o1 hb1 (by omega)
    unfold fr2 at hW
    rw [hW]
    exact bodyPost_ret (v := .tuple #[.agg #[.int .i64 0, .int .i64 0], .bool false]) (by simp [results, Try.results51, go_sem, q0, q1]) rfl ⟨rfl, hB⟩
  case pos =>
    obtain ⟨rfl, rfl⟩ := Bool.and_eq_true_iff.1 huv
    clear huv
    simp only [Bool.and_self, Bool.true_and] at CA ⊢
    have hn1 := hne rfl rfl trivial
    rw [decide_eq_true hn1]
    simp only [Bool.true_and]
    clear hne
    have CM2 := Lib.hid (fun w => CM.out w rfl rfl hn1); clear CM hn1
    go_enter Try.func51, Try.ntmps51
    go_wp2_with fail
    refine (CA.out _ _ (by simp)).mono ?_
    rintro e w1 ⟨rfl, hw1⟩
    have o1 := (((FrO.new (g := w.heap.size + 1 + 1) ((w.alloc (.cells #[.int .i64 a, .int .i64 b] 38)).alloc (.cells #[.int .i64 c', .int .i64 d] 38)) 0 0 (by simp)).alloc (.cells #[.int .i64 a, .int .i64 b, .int .i64 c', .int .i64 d] 38))).below hw1
    have p1 := (((((FrO.new w a b rfl).alloc (.cells #[.int .i64 c', .int .i64 d] 38)).alloc (.cells #[.int .i64 0, .int .i64 0] 38)).alloc (.cells #[.int .i64 a, .int .i64 b, .int .i64 c', .int .i64 d] 38))).below hw1
    have r1 := ((((FrO.new (g := w.heap.size + 1) (w.alloc (.cells #[.int .i64 a, .int .i64 b] 38)) c' d (by simp)).alloc (.cells #[.int .i64 0, .int .i64 0] 38)).alloc (.cells #[.int .i64 a, .int .i64 b, .int .i64 c', .int .i64 d] 38))).below hw1
    have hb1 := hb0.trans (hw1.mono hb0.size)
    clear hw1 hb0
    obtain ⟨x0, x1⟩ := o1.at
    obtain ⟨y0, y1⟩ := o1.fr
    obtain ⟨z0, z1⟩ := p1.at
    obtain ⟨u0, u1⟩ := r1.at
    go_wp2_with fail
    refine (CM2.out _).mono ?_
    rintro e w2 ⟨rfl, hw2⟩
    go_wp2_with fail
    refine (CT.out _).mono ?_
    rintro e w3 ⟨rfl, hw3⟩
    have o3 := (o1.below hw2).below hw3
    have hb3 := ball (ball hb1 hw2) hw3
    clear o1 p1 r1 hb1 x0 x1 y0 y1 z0 z1 u0 u1 hw2 hw3
    obtain ⟨x0, x1⟩ := o3.at
    obtain ⟨y0, y1⟩ := o3.fr
    cases k
    case false =>
      go_wp2_with fail
      obtain ⟨W, hW, ⟨q0, q1⟩, hB⟩ := fr2_end (a := 0) (b := 0) o3 hb3 (by omega)
      unfold fr2 at hW
      rw [hW]
      exact bodyPost_ret (v := .tuple #[.agg #[.int .i64 0, .int .i64 0], .bool false]) (by simp [results, Try.results51, go_sem, q0, q1]) rfl ⟨rfl, hB⟩
    case true =>
      go_wp2_with fail
      obtain ⟨W, hW, ⟨q0, q1⟩, hB⟩ := fr2_end (a := X) (b := Y) o3 hb3 (by omega)
      unfold fr2 at hW
      rw [hW]
      exact bodyPost_ret (v := .tuple #[.agg #[.int .i64 X, .int .i64 Y], .bool true]) (by simp [results, Try.results51, go_sem, q0, q1]) rfl ⟨rfl, hB⟩
set_option maxHeartbeats 3200000 in
set_option maxRecDepth 100000 in
theorem frAdd_c (f g : Fr) (w : World) (hf1 : (-1000000000 ≤ f.n ∧ f.n ≤ 1000000000) ∧ (0 ≤ f.d ∧ f.d ≤ 1000000000)) (hg1 : (-1000000000 ≤ g.n ∧ g.n ≤ 1000000000) ∧ (0 ≤ g.d ∧ g.d ≤ 1000000000)) :
    Calls Try.prog 57 #[frV f, frV g] w fun e w' => e = .returned (frR (lowF (addN f g) (f.d * g.d)) (mkB (addN f g) (f.d * g.d))) ∧ Below w.heap.size w w' := by
  have m1 := mulb9 (k := f.n) (m := g.d) (by omega) (by omega)
  have m3 := mulb9 (k := g.n) (m := f.d) (by omega) (by omega)
  have m2 := mulb9 (k := f.d) (m := g.d) (by omega) (by omega)
  have c := fun w => frMake_c (addN f g) (f.d * g.d) w (by unfold addN; omega) (by omega)
  unfold frR at c ⊢
  generalize mkB (addN f g) (f.d * g.d) = k at c ⊢
  generalize lowF (addN f g) (f.d * g.d) = L at c ⊢
  obtain ⟨a, b⟩ := f
  obtain ⟨c', d⟩ := g
  obtain ⟨X, Y⟩ := L
  unfold frV Fr.z at *
  unfold addN at *
  simp only at c m1 m2 m3 ⊢
  have e1 : IntKind.i64.wrap (a * d) = a * d := i64_small (by omega) (by omega)
  have e5 : IntKind.i64.wrap (c' * b) = c' * b := i64_small (by omega) (by omega)
  obtain ⟨P1, hP1⟩ : ∃ P, a * d = P := ⟨_, rfl⟩
  obtain ⟨P2, hP2⟩ : ∃ P, c' * b = P := ⟨_, rfl⟩
  rw [hP1] at e1 m1 c
  rw [hP2] at e5 m3 c
  have e6 : IntKind.i64.wrap (P1 + P2) = P1 + P2 := i64_small (by omega) (by omega)
  have e2 : IntKind.i64.wrap (b * d) = b * d := i64_small (by omega) (by omega)
  obtain ⟨N, hN⟩ : ∃ N, P1 + P2 = N := ⟨_, rfl⟩
  obtain ⟨D, hD⟩ : ∃ D, b * d = D := ⟨_, rfl⟩
  rw [hN, hD] at c
  have e3 := e6.trans hN
  have q1' : IntKind.i64.wrap (a * d) = P1 := by rw [hP1]; exact e1
  have q2' : IntKind.i64.wrap (c' * b) = P2 := by rw [hP2]; exact e5
  have e4 := e2.trans hD
  clear e1 e2 e5 e6 hN hD hP1 hP2 m3
  have C := Lib.hid c; clear c m1 m2 hf1 hg1
  have hb0 : Below w.heap.size w (((w.alloc (.cells #[.int .i64 a, .int .i64 b] 38)).alloc (.cells #[.int .i64 c', .int .i64 d] 38)).alloc (.cells #[.int .i64 0, .int .i64 0] 38)) := (((Below.refl _ _).alloc (Nat.le_refl _) _).alloc (by simp) _).alloc (by simp; omega) _
  go_enter Try.func57, Try.ntmps57
  go_wp2_with fail
  refine (C.out _).mono ?_
  rintro e w1 ⟨rfl, hw1⟩
  have o1 := (FrO.new (g := w.heap.size + 1 + 1) ((w.alloc (.cells #[.int .i64 a, .int .i64 b] 38)).alloc (.cells #[.int .i64 c', .int .i64 d] 38)) 0 0 (by simp)).below hw1
  have hb1 := hb0.trans (hw1.mono hb0.size)
  clear hw1 hb0
  obtain ⟨x0, x1⟩ := o1.at
  obtain ⟨y0, y1⟩ := o1.fr
  cases k
  case false =>
    go_wp2_with fail
    obtain ⟨W, hW, ⟨q0, q1⟩, hB⟩ := fr2_end (a := 0) (b := 0) o1 hb1 (by omega)
    unfold fr2 at hW
    rw [hW]
    exact bodyPost_ret (v := .tuple #[.agg #[.int .i64 0, .int .i64 0], .bool false]) (by simp [results, Try.results57, go_sem, q0, q1]) rfl ⟨rfl, hB⟩
  case true =>
    go_wp2_with fail
    obtain ⟨W, hW, ⟨q0, q1⟩, hB⟩ := fr2_end (a := X) (b := Y) o1 hb1 (by omega)
    unfold fr2 at hW
    rw [hW]
    exact bodyPost_ret (v := .tuple #[.agg #[.int .i64 X, .int .i64 Y], .bool true]) (by simp [results, Try.results57, go_sem, q0, q1]) rfl ⟨rfl, hB⟩

end Go.Proofs.Ytekhmjhbdoigoaa
