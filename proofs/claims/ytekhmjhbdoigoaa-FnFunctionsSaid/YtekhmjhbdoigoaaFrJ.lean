/-
  Products and quotients of fractions, floors: the program's side. Printed by gen_frI.py.
-/
import Derived.Test.YtekhmjhbdoigoaaFrI
namespace Go.Proofs.Ytekhmjhbdoigoaa
open Go.RowKit
set_option maxHeartbeats 1600000 in
set_option maxRecDepth 100000 in
theorem mul_c (f g : Fr) (w : World) (hf : frB f = true) (hg : frB g = true) (hne : (f.d * g.d) ≠ 0) :
    Calls Try.prog 79 #[frV f, frV g] w fun e w' => e = .returned (frV (lowF (f.n * g.n) (f.d * g.d))) ∧ Below w.heap.size w w' := by
  have hf1 := frB_t.1 hf
  have hg1 := frB_t.1 hg
  have m1 := mulb9 (k := f.n) (m := g.n) (by omega) (by omega)
  have m2 := mulb9 (k := f.d) (m := g.d) (by omega) (by omega)
  have c := fun w => lowest_c (f.n * g.n) (f.d * g.d) w hne (by omega) (by omega)
  generalize lowF (f.n * g.n) (f.d * g.d) = L at c ⊢
  obtain ⟨a, b⟩ := f
  obtain ⟨c', d⟩ := g
  obtain ⟨X, Y⟩ := L
  unfold frV at *
  simp only at c m1 m2 ⊢
  have e1 : IntKind.i64.wrap (a * c') = a * c' := i64_small (by omega) (by omega)
  have e2 : IntKind.i64.wrap (b * d) = b * d := i64_small (by omega) (by omega)
  obtain ⟨N, hN⟩ : ∃ N, a * c' = N := ⟨_, rfl⟩
  obtain ⟨D, hD⟩ : ∃ D, b * d = D := ⟨_, rfl⟩
  rw [hN, hD] at c
  have e3 := e1.trans hN
  have e4 := e2.trans hD
  clear e1 e2 hN hD
  have C := Lib.hid c; clear c m1 m2 hf hg hf1 hg1 hne
  have hb0 : Below w.heap.size w (((w.alloc (.cells #[.int .i64 a, .int .i64 b] 38)).alloc (.cells #[.int .i64 c', .int .i64 d] 38)).alloc (.cells #[.int .i64 0, .int .i64 0] 38)) := (((Below.refl _ _).alloc (Nat.le_refl _) _).alloc (by simp) _).alloc (by simp; omega) _
  go_enter Try.func79, Try.ntmps79
  go_wp2_with fail
  refine (C.out _).mono ?_
  rintro e w1 ⟨rfl, hw1⟩
  have o1 := (FrO.new (g := w.heap.size + 1 + 1) ((w.alloc (.cells #[.int .i64 a, .int .i64 b] 38)).alloc (.cells #[.int .i64 c', .int .i64 d] 38)) 0 0 (by simp)).below hw1
  have hb1 := hb0.trans (hw1.mono hb0.size)
  clear hw1 hb0
  obtain ⟨x0, x1⟩ := o1.at
  obtain ⟨y0, y1⟩ := o1.fr
  go_wp2_with fail
  obtain ⟨W, hW, ⟨q0, q1⟩, hB⟩ := fr2_end (a := X) (b := Y) o1 hb1 (by omega)
  unfold fr2 at hW
  rw [hW]
  exact bodyPost_ret (v := .agg #[.int .i64 X, .int .i64 Y]) (by simp [results, Try.results79, go_sem, q0, q1]) rfl ⟨rfl, hB⟩
end Go.Proofs.Ytekhmjhbdoigoaa
