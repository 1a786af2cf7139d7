/-
  Lines: the reference's meeting point. Printed by gen_lineS.py.
-/
import Derived.Test.YtbkfgaibcoekgaaDoorLineS
namespace Go.Proofs.YtbkfgaibcoekgaaDoor
open Go.RowKit

theorem lnPoint_e {x y X Y : Int} (w : World) (hx : x = X) (hy : y = Y) :
    Calls Tryd.prog 27 #[.int .i64 x, .int .i64 y] w fun e w' => e = .returned (ptR X Y) ∧ w = w' := by
  subst hx; subst hy
  exact lnPoint_c x y w

set_option maxRecDepth 100000 in
set_option maxHeartbeats 3200000 in
theorem sMeetingPoint_c (l m : Ln) (w : World) :
    Calls Tryd.prog 6 #[lnV l, lnV m] w fun e w' => e = .returned (ptV3 (meetX l m) (meetY l m) (lnB l && lnB m)) ∧ Below w.heap.size w w' := by
  have cl := fun w => lnGood_c l w
  have cm := fun w => lnGood_c m w
  obtain ⟨a, b, c⟩ := l
  obtain ⟨d, e', f⟩ := m
  unfold lnV at *
  simp only at cl cm ⊢
  have hbl := lnB_bd (a := a) (b := b) (c := c)
  have hbm := lnB_bd (a := d) (b := e') (c := f)
  generalize lnB ⟨a, b, c⟩ = u at cl hbl ⊢
  generalize lnB ⟨d, e', f⟩ = v at cm hbm ⊢
  have CL := Lib.hid cl; have CM := Lib.hid cm; clear cl cm
  have hb0 : Below w.heap.size w ((w.alloc (.cells #[.int .i64 a, .int .i64 b, .int .i64 c] 24)).alloc (.cells #[.int .i64 d, .int .i64 e', .int .i64 f] 24)) := ((Below.refl _ _).alloc (Nat.le_refl _) _).alloc (by simp) _
  have ol := (LnO.new w a b c rfl).below ((Below.refl _ _).alloc (Nat.le_refl _) (.cells #[.int .i64 d, .int .i64 e', .int .i64 f] 24))
  have om := LnO.new (g := w.heap.size + 1) (w.alloc (.cells #[.int .i64 a, .int .i64 b, .int .i64 c] 24)) d e' f (by simp)
  cases u
  case false =>
    rw [show (false && v) = false from rfl, ptV3_f]
    clear hbl hbm
    go_enter Tryd.func6, Tryd.ntmps6
    go_wp2_with fail
    refine (CL.out _).mono ?_
    rintro e w1 ⟨rfl, hw1⟩
    have ol1 := ol.below hw1
    have om1 := om.below hw1
    have hb1 := hb0.trans (hw1.mono hb0.size)
    clear ol om hw1 hb0
    obtain ⟨x0, x1, x2⟩ := ol1.at
    obtain ⟨y0, y1, y2⟩ := om1.at
    go_wp2_with fail
    go_ret3
    exact ⟨rfl, hb1⟩
  case true =>
    cases v
    case false =>
      rw [show (true && false) = false from rfl, ptV3_f]
      clear hbl hbm
      go_enter Tryd.func6, Tryd.ntmps6
      go_wp2_with fail
      refine (CL.out _).mono ?_
      rintro e w1 ⟨rfl, hw1⟩
      have ol1 := ol.below hw1
      have om1 := om.below hw1
      have hb1 := hb0.trans (hw1.mono hb0.size)
      clear ol om hw1 hb0
      obtain ⟨x0, x1, x2⟩ := ol1.at
      obtain ⟨y0, y1, y2⟩ := om1.at
      go_wp2_with fail
      refine (CM.out _).mono ?_
      rintro e w2 ⟨rfl, hw2⟩
      have ol2 := ol1.below hw2
      have om2 := om1.below hw2
      have hb2 := ball hb1 hw2
      clear ol1 om1 hw2 hb1 x0 x1 x2 y0 y1 y2
      obtain ⟨x0, x1, x2⟩ := ol2.at
      obtain ⟨y0, y1, y2⟩ := om2.at
      go_wp2_with fail
      go_ret3
      exact ⟨rfl, hb2⟩
    case true =>
      rw [show (true && true) = true from rfl, ptV3_t]
      have hbl' := hbl rfl
      have hbm' := hbm rfl
      clear hbl hbm
      have r1 := fun w => l1Least_n (a + e') (d + b) w
      have r2 := fun w => l1Least_n (b + f) (e' + c) w
      have r3 := fun w => l1Least_n (a + f) (d + c) w
      rw [leastZ_min] at r1 r2 r3
      have ct := fun w (x y : Int) (hx : x = (min (b + f) (e' + c) - min (a + e') (d + b))) (hy : y = (min (a + f) (d + c) - min (a + e') (d + b))) => lnPoint_e w (X := meetX ⟨a, b, c⟩ ⟨d, e', f⟩) (Y := meetY ⟨a, b, c⟩ ⟨d, e', f⟩) hx hy
      have s6 : IntKind.i64.wrap (min (b + f) (e' + c) - min (a + e') (d + b)) = min (b + f) (e' + c) - min (a + e') (d + b) := i64_small (by omega) (by omega)
      have s7 : IntKind.i64.wrap (min (a + f) (d + c) - min (a + e') (d + b)) = min (a + f) (d + c) - min (a + e') (d + b) := i64_small (by omega) (by omega)
      unfold ptR at ct ⊢
      generalize askP _ _ = k at ct ⊢
      generalize (if k = true then meetX _ _ else 0) = X at ct ⊢
      generalize (if k = true then meetY _ _ else 0) = Y at ct ⊢
      have CT := Lib.hid ct; have R1 := Lib.hid r1; have R2 := Lib.hid r2; have R3 := Lib.hid r3; clear ct r1 r2 r3
      have s0 : IntKind.i64.wrap (b + f) = b + f := i64_small (by omega) (by omega)
      have s1 : IntKind.i64.wrap (e' + c) = e' + c := i64_small (by omega) (by omega)
      have s2 : IntKind.i64.wrap (a + f) = a + f := i64_small (by omega) (by omega)
      have s3 : IntKind.i64.wrap (d + c) = d + c := i64_small (by omega) (by omega)
      have s4 : IntKind.i64.wrap (a + e') = a + e' := i64_small (by omega) (by omega)
      have s5 : IntKind.i64.wrap (d + b) = d + b := i64_small (by omega) (by omega)
      go_enter Tryd.func6, Tryd.ntmps6
      go_wp2_with fail
      refine (CL.out _).mono ?_
      rintro e w1 ⟨rfl, hw1⟩
      have ol1 := ol.below hw1
      have om1 := om.below hw1
      have hb1 := hb0.trans (hw1.mono hb0.size)
      clear ol om hw1 hb0
      obtain ⟨x0, x1, x2⟩ := ol1.at
      obtain ⟨y0, y1, y2⟩ := om1.at
      go_wp2_with fail
      refine (CM.out _).mono ?_
      rintro e w2 ⟨rfl, hw2⟩
      have ol2 := ol1.below hw2
      have om2 := om1.below hw2
      have hb2 := ball hb1 hw2
      clear ol1 om1 hw2 hb1 x0 x1 x2 y0 y1 y2
      obtain ⟨x0, x1, x2⟩ := ol2.at
      obtain ⟨y0, y1, y2⟩ := om2.at
      go_wp2_with fail
      all_goals
        refine (R1.out _).mono ?_
      rintro e w3 ⟨rfl, rfl⟩
      go_wp2_with fail
      go_quiet
        (first
          | (go_at_call 26; first | exact Calls.quiet_of_same ((R2.out _).mono (fun e w' h => ⟨h.1, h.2.symm⟩)) | exact Calls.quiet_of_same ((R3.out _).mono (fun e w' h => ⟨h.1, h.2.symm⟩)))
          | (go_at_call 27; exact Calls.quiet_of_same ((CT.out _ _ _ rfl rfl).mono (fun e w' h => ⟨h.1, h.2.symm⟩))))
      go_wp2_with fail
      go_ret3
      exact ⟨rfl, bdrewN hb2 _⟩

end Go.Proofs.YtbkfgaibcoekgaaDoor
