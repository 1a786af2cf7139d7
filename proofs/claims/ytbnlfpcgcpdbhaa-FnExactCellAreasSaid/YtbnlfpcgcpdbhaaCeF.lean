/-
  The height of a term above the plane of three: the reference's. Printed by gen_ceF.py. By an AI agent.
-/
import Derived.Test.YtbnlfpcgcpdbhaaCeE
namespace Go.Proofs.Ytbnlfpcgcpdbhaa
open Go.RowKit

theorem pt_end {w W : World} {g : Nat} {T : TypeId} {x y a b : Int} (h : Own W g T [.int .i64 x, .int .i64 y]) (hb : Below w.heap.size w W) (hg : w.heap.size ≤ g) : ∃ X, (W.setCell ⟨g, 0, none⟩ (.int .i64 a)).setCell ⟨g, 1, none⟩ (.int .i64 b) = X ∧ (X.cell? ⟨g, 0, none⟩ = some (.int .i64 a) ∧ X.cell? ⟨g, 1, none⟩ = some (.int .i64 b)) ∧ Below w.heap.size w X :=
  ⟨_, rfl, ⟨((Own.set h 0 (.int .i64 a)).set 1 (.int .i64 b)).cell? (i := 0) rfl, ((Own.set h 0 (.int .i64 a)).set 1 (.int .i64 b)).cell? (i := 1) rfl⟩, bel_set (bel_set hb hg) hg⟩
set_option maxHeartbeats 800000 in
theorem cePoint_c (t : Tm) (w : World) :
    Calls Try.prog 30 #[.agg #[.int .i64 t.i, .int .i64 t.j, .int .i64 t.c]] w fun e w' => e = .returned (.agg #[.int .i64 t.i, .int .i64 t.j]) ∧ Below w.heap.size w w' := by
  obtain ⟨a, b, c⟩ := t
  simp only
  obtain ⟨h, hh⟩ : ∃ h, w.heap.size = h := ⟨_, rfl⟩
  have o1 : Own ((w.alloc (.cells #[.int .i64 a, .int .i64 b, .int .i64 c] 43)).alloc (.cells #[.int .i64 0, .int .i64 0] 60)) (h + 1) 60 [.int .i64 0, .int .i64 0] := Own.newHG _ _ _ rfl (by simp; omega)
  have hb := bal_alloc (o := .cells #[.int .i64 0, .int .i64 0] 60) (bal_alloc (o := .cells #[.int .i64 a, .int .i64 b, .int .i64 c] 43) (Below.refl w.heap.size w))
  have y0 := o1.cell? (i := 0) rfl
  have y1 := o1.cell? (i := 1) rfl
  have f0 := o1.frozen 0
  have f1 := o1.frozen 1
  have hg : w.heap.size ≤ h + 1 := by omega
  go_enter Try.func30, Try.ntmps30
  go_wp2_with fail
  have o2 : Own ((w.alloc (.cells #[.int .i64 a, .int .i64 b, .int .i64 c] 43)).alloc (.cells #[.int .i64 a, .int .i64 b] 60)) (h + 1) 60 [.int .i64 a, .int .i64 b] := Own.newHG _ _ _ rfl (by simp; omega)
  have hB := bal_alloc (o := .cells #[.int .i64 a, .int .i64 b] 60) (bal_alloc (o := .cells #[.int .i64 a, .int .i64 b, .int .i64 c] 43) (Below.refl w.heap.size w))
  have q0 := o2.cell? (i := 0) rfl
  have q1 := o2.cell? (i := 1) rfl
  generalize (w.alloc (.cells #[.int .i64 a, .int .i64 b, .int .i64 c] 43)).alloc (.cells #[.int .i64 a, .int .i64 b] 60) = X at q0 q1 hB ⊢
  exact bodyPost_ret (v := .agg #[.int .i64 a, .int .i64 b]) (by simp [results, Try.results30, go_sem, q0, q1]) rfl ⟨rfl, hB⟩
theorem ceSign_c (n : Int) (w : World) :
    Calls Try.prog 59 #[.int .i64 n] w fun e w' => e = .returned (.int .i64 (if n < 0 then -1 else if n > 0 then 1 else 0)) ∧ w = w' := by
  rcases Int.lt_trichotomy n 0 with h | h | h
  · have d1 : decide (0 < n) = false := decide_eq_false (by omega)
    have d2 : decide (n < 0) = true := decide_eq_true h
    rw [if_pos h]
    go_enter Try.func59, Try.ntmps59
    go_wp2_with fail
    go_ret
    exact ⟨rfl, rfl⟩
  · subst h
    go_enter Try.func59, Try.ntmps59
    go_wp2_with fail
    go_ret
    exact ⟨rfl, rfl⟩
  · have d1 : decide (0 < n) = true := decide_eq_true h
    have d2 : decide (n < 0) = false := decide_eq_false (by omega)
    rw [if_neg (by omega), if_pos h]
    go_enter Try.func59, Try.ntmps59
    go_wp2_with fail
    go_ret
    exact ⟨rfl, rfl⟩

structure AeI (o u v x : Tm) (B0 B1 B2 B3 : Nat) (W : World) (L : Nat → Bool) (w : World) (s9 s10 s11 s12 s15 s16 s17 s18 s19 s20 s21 s22 : Value) : Prop where
  bel : Below W.heap.size W w
  p0 : L 0 = true → s15 = .agg #[.int .i64 o.i, .int .i64 o.j, .int .i64 o.c]
  p1 : L 1 = true → s16 = .agg #[.int .i64 o.i, .int .i64 o.j]
  p2 : L 2 = true → s17 = .agg #[.int .i64 u.i, .int .i64 u.j, .int .i64 u.c]
  p3 : L 3 = true → s18 = .agg #[.int .i64 u.i, .int .i64 u.j]
  p4 : L 4 = true → s19 = .agg #[.int .i64 v.i, .int .i64 v.j, .int .i64 v.c]
  p5 : L 5 = true → s20 = .agg #[.int .i64 v.i, .int .i64 v.j]
  p6 : L 6 = true → s21 = .agg #[.int .i64 x.i, .int .i64 x.j, .int .i64 x.c]
  p7 : L 7 = true → s22 = .agg #[.int .i64 x.i, .int .i64 x.j]
  a0 : L 8 = true → ∃ (T : Nat) (x0 x1 : Int), s9 = .pointer (some ⟨T, 0, none⟩) ∧ W.heap.size ≤ T ∧ Own w T 60 [.int .i64 x0, .int .i64 x1] ∧ (L 12 = true → x0 = o.i ∧ x1 = o.j)
  c0 : L 12 = true → L 8 = true
  a1 : L 9 = true → ∃ (T : Nat) (x0 x1 : Int), s10 = .pointer (some ⟨T, 0, none⟩) ∧ W.heap.size ≤ T ∧ Own w T 60 [.int .i64 x0, .int .i64 x1] ∧ (L 13 = true → x0 = u.i ∧ x1 = u.j)
  c1 : L 13 = true → L 9 = true
  a2 : L 10 = true → ∃ (T : Nat) (x0 x1 : Int), s11 = .pointer (some ⟨T, 0, none⟩) ∧ W.heap.size ≤ T ∧ Own w T 60 [.int .i64 x0, .int .i64 x1] ∧ (L 14 = true → x0 = v.i ∧ x1 = v.j)
  c2 : L 14 = true → L 10 = true
  a3 : L 11 = true → ∃ (T : Nat) (x0 x1 : Int), s12 = .pointer (some ⟨T, 0, none⟩) ∧ W.heap.size ≤ T ∧ Own w T 60 [.int .i64 x0, .int .i64 x1] ∧ (L 15 = true → x0 = x.i ∧ x1 = x.j)
  c3 : L 15 = true → L 11 = true
  d01 : L 8 = true → L 9 = true → s9 ≠ s10
  d02 : L 8 = true → L 10 = true → s9 ≠ s11
  d03 : L 8 = true → L 11 = true → s9 ≠ s12
  d12 : L 9 = true → L 10 = true → s10 ≠ s11
  d13 : L 9 = true → L 11 = true → s10 ≠ s12
  d23 : L 10 = true → L 11 = true → s11 ≠ s12
theorem AeI.mono {o u v x : Tm} {B0 B1 B2 B3 : Nat} {W w w' : World} {L : Nat → Bool} {s9 s10 s11 s12 s15 s16 s17 s18 s19 s20 s21 s22 : Value} (h : AeI o u v x B0 B1 B2 B3 W L w s9 s10 s11 s12 s15 s16 s17 s18 s19 s20 s21 s22) (hb : Below w.heap.size w w') : AeI o u v x B0 B1 B2 B3 W L w' s9 s10 s11 s12 s15 s16 s17 s18 s19 s20 s21 s22 :=
  ⟨ball h.bel hb, (fun e => h.p0 e), (fun e => h.p1 e), (fun e => h.p2 e), (fun e => h.p3 e), (fun e => h.p4 e), (fun e => h.p5 e), (fun e => h.p6 e), (fun e => h.p7 e), (fun e => let ⟨T, x0, x1, a, b, c, d⟩ := h.a0 e; ⟨T, x0, x1, a, b, c.belowAll hb, d⟩), (fun e => h.c0 e), (fun e => let ⟨T, x0, x1, a, b, c, d⟩ := h.a1 e; ⟨T, x0, x1, a, b, c.belowAll hb, d⟩), (fun e => h.c1 e), (fun e => let ⟨T, x0, x1, a, b, c, d⟩ := h.a2 e; ⟨T, x0, x1, a, b, c.belowAll hb, d⟩), (fun e => h.c2 e), (fun e => let ⟨T, x0, x1, a, b, c, d⟩ := h.a3 e; ⟨T, x0, x1, a, b, c.belowAll hb, d⟩), (fun e => h.c3 e), (fun e e2 => h.d01 e e2), (fun e e2 => h.d02 e e2), (fun e e2 => h.d03 e e2), (fun e e2 => h.d12 e e2), (fun e e2 => h.d13 e e2), (fun e e2 => h.d23 e e2)⟩
/-- four points in new memory. -/
def QuaP (W : World) (o u v x : Tm) (s9 s10 s11 s12 : Value) (wc : World) : Prop := ∃ P0 P1 P2 P3 : Nat, s9 = .pointer (some ⟨P0, 0, none⟩) ∧ s10 = .pointer (some ⟨P1, 0, none⟩) ∧ s11 = .pointer (some ⟨P2, 0, none⟩) ∧ s12 = .pointer (some ⟨P3, 0, none⟩) ∧ Own wc P0 60 [.int .i64 o.i, .int .i64 o.j] ∧ Own wc P1 60 [.int .i64 u.i, .int .i64 u.j] ∧ Own wc P2 60 [.int .i64 v.i, .int .i64 v.j] ∧ Own wc P3 60 [.int .i64 x.i, .int .i64 x.j] ∧ Below W.heap.size W wc
set_option maxHeartbeats 12800000 in
set_option maxRecDepth 100000 in
theorem ceAbove_c (o u v x : Tm) (w : World) (ho : termB o = true) (hu : termB u = true) (hv : termB v = true) (hx : termB x = true) :
    Calls Try.prog 40 #[.agg #[.int .i64 o.i, .int .i64 o.j, .int .i64 o.c], .agg #[.int .i64 u.i, .int .i64 u.j, .int .i64 u.c], .agg #[.int .i64 v.i, .int .i64 v.j, .int .i64 v.c], .agg #[.int .i64 x.i, .int .i64 x.j, .int .i64 x.c]] w fun e w' => e = .returned (.int .i64 (abvS o u v x * (if turnZ (pnt o) (pnt u) (pnt v) < 0 then -1 else if turnZ (pnt o) (pnt u) (pnt v) > 0 then 1 else 0))) ∧ Below w.heap.size w w' := by
  have ho := termB_t ho; have hu := termB_t hu; have hv := termB_t hv; have hx := termB_t hx
  have CP := Lib.hid (fun (t : Tm) w => cePoint_c t w)
  obtain ⟨W1, hW⟩ : ∃ W1, (((w.alloc (.cells #[.int .i64 o.i, .int .i64 o.j, .int .i64 o.c] 43)).alloc (.cells #[.int .i64 u.i, .int .i64 u.j, .int .i64 u.c] 43)).alloc (.cells #[.int .i64 v.i, .int .i64 v.j, .int .i64 v.c] 43)).alloc (.cells #[.int .i64 x.i, .int .i64 x.j, .int .i64 x.c] 43) = W1 := ⟨_, rfl⟩
  obtain ⟨RV, hRV⟩ : ∃ z, abvS o u v x * (if turnZ (pnt o) (pnt u) (pnt v) < 0 then -1 else if turnZ (pnt o) (pnt u) (pnt v) > 0 then 1 else 0) = z := ⟨_, rfl⟩
  rw [hRV]
  have HRV := Lib.hid hRV; clear hRV
  obtain ⟨B0, h0⟩ : ∃ h, w.heap.size = h := ⟨_, rfl⟩
  have HH0 := Lib.hid h0
  obtain ⟨B1, h1⟩ : ∃ h, B0 + 1 = h := ⟨_, rfl⟩
  obtain ⟨B2, h2⟩ : ∃ h, B1 + 1 = h := ⟨_, rfl⟩
  obtain ⟨B3, h3⟩ : ∃ h, B2 + 1 = h := ⟨_, rfl⟩
  have hO0 : Own W1 B0 43 [.int .i64 o.i, .int .i64 o.j, .int .i64 o.c] := by rw [← hW]; exact (((Own.newHG _ _ _ rfl (by first | omega | (simp; omega))).alloc _).alloc _).alloc _
  have hO1 : Own W1 B1 43 [.int .i64 u.i, .int .i64 u.j, .int .i64 u.c] := by rw [← hW]; exact ((Own.newHG _ _ _ rfl (by first | omega | (simp; omega))).alloc _).alloc _
  have hO2 : Own W1 B2 43 [.int .i64 v.i, .int .i64 v.j, .int .i64 v.c] := by rw [← hW]; exact (Own.newHG _ _ _ rfl (by first | omega | (simp; omega))).alloc _
  have hO3 : Own W1 B3 43 [.int .i64 x.i, .int .i64 x.j, .int .i64 x.c] := by rw [← hW]; exact Own.newHG _ _ _ rfl (by first | omega | (simp; omega))
  have HB1 := Lib.hid (show Below w.heap.size w W1 by rw [← hW]; exact bal_alloc (bal_alloc (bal_alloc (bal_alloc (Below.refl _ _)))))
  have F00 := Lib.hid (And.intro hO0.lt (hO0.cell? (i := 0) rfl))
  have F01 := Lib.hid (And.intro hO0.lt (hO0.cell? (i := 1) rfl))
  have F02 := Lib.hid (And.intro hO0.lt (hO0.cell? (i := 2) rfl))
  have F10 := Lib.hid (And.intro hO1.lt (hO1.cell? (i := 0) rfl))
  have F11 := Lib.hid (And.intro hO1.lt (hO1.cell? (i := 1) rfl))
  have F12 := Lib.hid (And.intro hO1.lt (hO1.cell? (i := 2) rfl))
  have F20 := Lib.hid (And.intro hO2.lt (hO2.cell? (i := 0) rfl))
  have F21 := Lib.hid (And.intro hO2.lt (hO2.cell? (i := 1) rfl))
  have F22 := Lib.hid (And.intro hO2.lt (hO2.cell? (i := 2) rfl))
  have F30 := Lib.hid (And.intro hO3.lt (hO3.cell? (i := 0) rfl))
  have F31 := Lib.hid (And.intro hO3.lt (hO3.cell? (i := 1) rfl))
  have F32 := Lib.hid (And.intro hO3.lt (hO3.cell? (i := 2) rfl))
  have HBD := Lib.hid (And.intro ho (And.intro hu (And.intro hv hx)))
  clear ho hu hv hx hO0 hO1 hO2 hO3
  go_enter Try.func40, Try.ntmps40
  go_wp2_with fail
  try rw [hW]
  try simp only [h0, h1, h2, h3]
  go_cut [9, 10, 11, 12] from 9 to 22 (fun s9 s10 s11 s12 wc => QuaP W1 o u v x s9 s10 s11 s12 wc)
  case first =>
    refine wp_region_inv (fun L ac w' => ∃ s9 s10 s11 s12 s15 s16 s17 s18 s19 s20 s21 s22, ac = { tmps := #[.agg #[.int .i64 o.i, .int .i64 o.j, .int .i64 o.c], .agg #[.int .i64 u.i, .int .i64 u.j, .int .i64 u.c], .agg #[.int .i64 v.i, .int .i64 v.j, .int .i64 v.c], .agg #[.int .i64 x.i, .int .i64 x.j, .int .i64 x.c], .pointer (some ⟨B0, 0, none⟩), .pointer (some ⟨B1, 0, none⟩), .pointer (some ⟨B2, 0, none⟩), .pointer (some ⟨B3, 0, none⟩), .int .i64 0, s9, s10, s11, s12, undef, undef, s15, s16, s17, s18, s19, s20, s21, s22, undef, undef, undef, undef, undef, undef, undef, undef, undef, undef, undef, undef, undef, undef, undef, undef, undef, undef, undef, undef, undef, undef, undef, undef, undef, undef, undef, undef, undef, undef, undef, undef, undef, undef, undef, undef], defers := [] } ∧ AeI o u v x B0 B1 B2 B3 W1 L w' s9 s10 s11 s12 s15 s16 s17 s18 s19 s20 s21 s22) (by kernel_rfl) (by kernel_rfl) ?_ ?_ ?_
    · exact ⟨_, _, _, _, _, _, _, _, _, _, _, _, rfl, (Below.refl _ _).drew, (fun e => by cases e), (fun e => by cases e), (fun e => by cases e), (fun e => by cases e), (fun e => by cases e), (fun e => by cases e), (fun e => by cases e), (fun e => by cases e), (fun e => by cases e), (fun e => by cases e), (fun e => by cases e), (fun e => by cases e), (fun e => by cases e), (fun e => by cases e), (fun e => by cases e), (fun e => by cases e), (fun e => by cases e), (fun e => by cases e), (fun e => by cases e), (fun e => by cases e), (fun e => by cases e), (fun e => by cases e)⟩
    · rintro L ac w' ⟨s9, s10, s11, s12, s15, s16, s17, s18, s19, s20, s21, s22, rfl, H⟩ hL
      obtain ⟨T0, x00, x01, rfl, hT0, hO0, e0⟩ := H.a0 (hL 8 (by decide))
      obtain ⟨g00, g01⟩ := e0 (hL 12 (by decide))
      rw [g00, g01] at hO0
      obtain ⟨T1, x10, x11, rfl, hT1, hO1, e1⟩ := H.a1 (hL 9 (by decide))
      obtain ⟨g10, g11⟩ := e1 (hL 13 (by decide))
      rw [g10, g11] at hO1
      obtain ⟨T2, x20, x21, rfl, hT2, hO2, e2⟩ := H.a2 (hL 10 (by decide))
      obtain ⟨g20, g21⟩ := e2 (hL 14 (by decide))
      rw [g20, g21] at hO2
      obtain ⟨T3, x30, x31, rfl, hT3, hO3, e3⟩ := H.a3 (hL 11 (by decide))
      obtain ⟨g30, g31⟩ := e3 (hL 15 (by decide))
      rw [g30, g31] at hO3
      have HREL := Lib.hid (show QuaP W1 o u v x (.pointer (some ⟨T0, 0, none⟩)) (.pointer (some ⟨T1, 0, none⟩)) (.pointer (some ⟨T2, 0, none⟩)) (.pointer (some ⟨T3, 0, none⟩)) w' from ⟨T0, T1, T2, T3, rfl, rfl, rfl, rfl, hO0, hO1, hO2, hO3, H.bel⟩)
      clear H hL hO0 e0 g00 g01 hO1 e1 g10 g11 hO2 e2 g20 g21 hO3 e3 g30 g31
      go_wp2_with fail
      go_meet
      exact HREL.out
    · rintro i L ac w' ⟨s9, s10, s11, s12, s15, s16, s17, s18, s19, s20, s21, s22, rfl, H⟩ hi hL hw
      have hi : i < 16 := hi
      have HH := Lib.hid H; have HWt := Lib.hid hw
      clear H hw
      rcases (show i = 0 ∨ i = 1 ∨ i = 2 ∨ i = 3 ∨ i = 4 ∨ i = 5 ∨ i = 6 ∨ i = 7 ∨ i = 8 ∨ i = 9 ∨ i = 10 ∨ i = 11 ∨ i = 12 ∨ i = 13 ∨ i = 14 ∨ i = 15 by omega) with rfl | rfl | rfl | rfl | rfl | rfl | rfl | rfl | rfl | rfl | rfl | rfl | rfl | rfl | rfl | rfl
      · refine' wpOp_step (o := ?oAe_0) ?hoAe_0 (fun K hK => ?stAe_0)
        case hoAe_0 => rfl
        case stAe_0 =>
          have HK := Lib.hid hK; clear hK
          have q0 := bcellP HH.out.bel F00.out; have q1 := bcellP HH.out.bel F01.out; have q2 := bcellP HH.out.bel F02.out
          go_simp
          refine HK.out _ _ ⟨_, _, _, _, _, _, _, _, _, _, _, _, rfl, ?_⟩
          have h := HH.out
          exact ⟨h.bel, (fun _ => rfl), (fun e => h.p1 e), (fun e => h.p2 e), (fun e => h.p3 e), (fun e => h.p4 e), (fun e => h.p5 e), (fun e => h.p6 e), (fun e => h.p7 e), (fun e => h.a0 e), (fun e => h.c0 e), (fun e => h.a1 e), (fun e => h.c1 e), (fun e => h.a2 e), (fun e => h.c2 e), (fun e => h.a3 e), (fun e => h.c3 e), (fun e e2 => h.d01 e e2), (fun e e2 => h.d02 e e2), (fun e e2 => h.d03 e e2), (fun e e2 => h.d12 e e2), (fun e e2 => h.d13 e e2), (fun e e2 => h.d23 e e2)⟩
      · refine' wpOp_step (o := ?oAe_1) ?hoAe_1 (fun K hK => ?stAe_1)
        case hoAe_1 => rfl
        case stAe_1 =>
          have HK := Lib.hid hK; clear hK
          obtain rfl := HH.out.p0 (HWt.out 0 (by kernel_rfl))
          go_simp
          go_at_call 30; (refine (CP.out o _).mono ?_); rintro e wC ⟨rfl, hwC⟩
          refine HK.out _ _ ⟨_, _, _, _, _, _, _, _, _, _, _, _, rfl, ?_⟩
          have h := HH.out.mono hwC
          exact ⟨h.bel, (fun e => h.p0 e), (fun _ => rfl), (fun e => h.p2 e), (fun e => h.p3 e), (fun e => h.p4 e), (fun e => h.p5 e), (fun e => h.p6 e), (fun e => h.p7 e), (fun e => h.a0 e), (fun e => h.c0 e), (fun e => h.a1 e), (fun e => h.c1 e), (fun e => h.a2 e), (fun e => h.c2 e), (fun e => h.a3 e), (fun e => h.c3 e), (fun e e2 => h.d01 e e2), (fun e e2 => h.d02 e e2), (fun e e2 => h.d03 e e2), (fun e e2 => h.d12 e e2), (fun e e2 => h.d13 e e2), (fun e e2 => h.d23 e e2)⟩
      · refine' wpOp_step (o := ?oAe_2) ?hoAe_2 (fun K hK => ?stAe_2)
        case hoAe_2 => rfl
        case stAe_2 =>
          have HK := Lib.hid hK; clear hK
          have q0 := bcellP HH.out.bel F10.out; have q1 := bcellP HH.out.bel F11.out; have q2 := bcellP HH.out.bel F12.out
          go_simp
          refine HK.out _ _ ⟨_, _, _, _, _, _, _, _, _, _, _, _, rfl, ?_⟩
          have h := HH.out
          exact ⟨h.bel, (fun e => h.p0 e), (fun e => h.p1 e), (fun _ => rfl), (fun e => h.p3 e), (fun e => h.p4 e), (fun e => h.p5 e), (fun e => h.p6 e), (fun e => h.p7 e), (fun e => h.a0 e), (fun e => h.c0 e), (fun e => h.a1 e), (fun e => h.c1 e), (fun e => h.a2 e), (fun e => h.c2 e), (fun e => h.a3 e), (fun e => h.c3 e), (fun e e2 => h.d01 e e2), (fun e e2 => h.d02 e e2), (fun e e2 => h.d03 e e2), (fun e e2 => h.d12 e e2), (fun e e2 => h.d13 e e2), (fun e e2 => h.d23 e e2)⟩
      · refine' wpOp_step (o := ?oAe_3) ?hoAe_3 (fun K hK => ?stAe_3)
        case hoAe_3 => rfl
        case stAe_3 =>
          have HK := Lib.hid hK; clear hK
          obtain rfl := HH.out.p2 (HWt.out 2 (by kernel_rfl))
          go_simp
          go_at_call 30; (refine (CP.out u _).mono ?_); rintro e wC ⟨rfl, hwC⟩
          refine HK.out _ _ ⟨_, _, _, _, _, _, _, _, _, _, _, _, rfl, ?_⟩
          have h := HH.out.mono hwC
          exact ⟨h.bel, (fun e => h.p0 e), (fun e => h.p1 e), (fun e => h.p2 e), (fun _ => rfl), (fun e => h.p4 e), (fun e => h.p5 e), (fun e => h.p6 e), (fun e => h.p7 e), (fun e => h.a0 e), (fun e => h.c0 e), (fun e => h.a1 e), (fun e => h.c1 e), (fun e => h.a2 e), (fun e => h.c2 e), (fun e => h.a3 e), (fun e => h.c3 e), (fun e e2 => h.d01 e e2), (fun e e2 => h.d02 e e2), (fun e e2 => h.d03 e e2), (fun e e2 => h.d12 e e2), (fun e e2 => h.d13 e e2), (fun e e2 => h.d23 e e2)⟩
      · refine' wpOp_step (o := ?oAe_4) ?hoAe_4 (fun K hK => ?stAe_4)
        case hoAe_4 => rfl
        case stAe_4 =>
          have HK := Lib.hid hK; clear hK
          have q0 := bcellP HH.out.bel F20.out; have q1 := bcellP HH.out.bel F21.out; have q2 := bcellP HH.out.bel F22.out
          go_simp
          refine HK.out _ _ ⟨_, _, _, _, _, _, _, _, _, _, _, _, rfl, ?_⟩
          have h := HH.out
          exact ⟨h.bel, (fun e => h.p0 e), (fun e => h.p1 e), (fun e => h.p2 e), (fun e => h.p3 e), (fun _ => rfl), (fun e => h.p5 e), (fun e => h.p6 e), (fun e => h.p7 e), (fun e => h.a0 e), (fun e => h.c0 e), (fun e => h.a1 e), (fun e => h.c1 e), (fun e => h.a2 e), (fun e => h.c2 e), (fun e => h.a3 e), (fun e => h.c3 e), (fun e e2 => h.d01 e e2), (fun e e2 => h.d02 e e2), (fun e e2 => h.d03 e e2), (fun e e2 => h.d12 e e2), (fun e e2 => h.d13 e e2), (fun e e2 => h.d23 e e2)⟩
      · refine' wpOp_step (o := ?oAe_5) ?hoAe_5 (fun K hK => ?stAe_5)
        case hoAe_5 => rfl
        case stAe_5 =>
          have HK := Lib.hid hK; clear hK
          obtain rfl := HH.out.p4 (HWt.out 4 (by kernel_rfl))
          go_simp
          go_at_call 30; (refine (CP.out v _).mono ?_); rintro e wC ⟨rfl, hwC⟩
          refine HK.out _ _ ⟨_, _, _, _, _, _, _, _, _, _, _, _, rfl, ?_⟩
          have h := HH.out.mono hwC
          exact ⟨h.bel, (fun e => h.p0 e), (fun e => h.p1 e), (fun e => h.p2 e), (fun e => h.p3 e), (fun e => h.p4 e), (fun _ => rfl), (fun e => h.p6 e), (fun e => h.p7 e), (fun e => h.a0 e), (fun e => h.c0 e), (fun e => h.a1 e), (fun e => h.c1 e), (fun e => h.a2 e), (fun e => h.c2 e), (fun e => h.a3 e), (fun e => h.c3 e), (fun e e2 => h.d01 e e2), (fun e e2 => h.d02 e e2), (fun e e2 => h.d03 e e2), (fun e e2 => h.d12 e e2), (fun e e2 => h.d13 e e2), (fun e e2 => h.d23 e e2)⟩
      · refine' wpOp_step (o := ?oAe_6) ?hoAe_6 (fun K hK => ?stAe_6)
        case hoAe_6 => rfl
        case stAe_6 =>
          have HK := Lib.hid hK; clear hK
          have q0 := bcellP HH.out.bel F30.out; have q1 := bcellP HH.out.bel F31.out; have q2 := bcellP HH.out.bel F32.out
          go_simp
          refine HK.out _ _ ⟨_, _, _, _, _, _, _, _, _, _, _, _, rfl, ?_⟩
          have h := HH.out
          exact ⟨h.bel, (fun e => h.p0 e), (fun e => h.p1 e), (fun e => h.p2 e), (fun e => h.p3 e), (fun e => h.p4 e), (fun e => h.p5 e), (fun _ => rfl), (fun e => h.p7 e), (fun e => h.a0 e), (fun e => h.c0 e), (fun e => h.a1 e), (fun e => h.c1 e), (fun e => h.a2 e), (fun e => h.c2 e), (fun e => h.a3 e), (fun e => h.c3 e), (fun e e2 => h.d01 e e2), (fun e e2 => h.d02 e e2), (fun e e2 => h.d03 e e2), (fun e e2 => h.d12 e e2), (fun e e2 => h.d13 e e2), (fun e e2 => h.d23 e e2)⟩
      · refine' wpOp_step (o := ?oAe_7) ?hoAe_7 (fun K hK => ?stAe_7)
        case hoAe_7 => rfl
        case stAe_7 =>
          have HK := Lib.hid hK; clear hK
          obtain rfl := HH.out.p6 (HWt.out 6 (by kernel_rfl))
          go_simp
          go_at_call 30; (refine (CP.out x _).mono ?_); rintro e wC ⟨rfl, hwC⟩
          refine HK.out _ _ ⟨_, _, _, _, _, _, _, _, _, _, _, _, rfl, ?_⟩
          have h := HH.out.mono hwC
          exact ⟨h.bel, (fun e => h.p0 e), (fun e => h.p1 e), (fun e => h.p2 e), (fun e => h.p3 e), (fun e => h.p4 e), (fun e => h.p5 e), (fun e => h.p6 e), (fun _ => rfl), (fun e => h.a0 e), (fun e => h.c0 e), (fun e => h.a1 e), (fun e => h.c1 e), (fun e => h.a2 e), (fun e => h.c2 e), (fun e => h.a3 e), (fun e => h.c3 e), (fun e e2 => h.d01 e e2), (fun e e2 => h.d02 e e2), (fun e e2 => h.d03 e e2), (fun e e2 => h.d12 e e2), (fun e e2 => h.d13 e e2), (fun e e2 => h.d23 e e2)⟩
      · refine' wpOp_step (o := ?oAe_8) ?hoAe_8 (fun K hK => ?stAe_8)
        case hoAe_8 => rfl
        case stAe_8 =>
          have HK := Lib.hid hK; clear hK
          go_simp
          refine HK.out _ _ ⟨_, _, _, _, _, _, _, _, _, _, _, _, rfl, ?_⟩
          have h := HH.out.mono (bal_alloc (o := .cells #[.int .i64 0, .int .i64 0] 60) (Below.refl _ _))
          exact ⟨h.bel, (fun e => h.p0 e), (fun e => h.p1 e), (fun e => h.p2 e), (fun e => h.p3 e), (fun e => h.p4 e), (fun e => h.p5 e), (fun e => h.p6 e), (fun e => h.p7 e), (fun _ => ⟨_, 0, 0, rfl, HH.out.bel.size, Own.newHG _ _ _ rfl rfl, fun e9 => (no_up hL (h.c0 e9)).elim⟩), (fun _ => rfl), (fun e => h.a1 e), (fun e => h.c1 e), (fun e => h.a2 e), (fun e => h.c2 e), (fun e => h.a3 e), (fun e => h.c3 e), (fun e e2 => by obtain ⟨T, _, _, h1, _, h3, _⟩ := HH.out.a1 e2; have := Own.lt h3; intro h4; rw [h1] at h4; simp only [Value.pointer.injEq, Option.some.injEq, Addr.mk.injEq] at h4; omega), (fun e e2 => by obtain ⟨T, _, _, h1, _, h3, _⟩ := HH.out.a2 e2; have := Own.lt h3; intro h4; rw [h1] at h4; simp only [Value.pointer.injEq, Option.some.injEq, Addr.mk.injEq] at h4; omega), (fun e e2 => by obtain ⟨T, _, _, h1, _, h3, _⟩ := HH.out.a3 e2; have := Own.lt h3; intro h4; rw [h1] at h4; simp only [Value.pointer.injEq, Option.some.injEq, Addr.mk.injEq] at h4; omega), (fun e e2 => h.d12 e e2), (fun e e2 => h.d13 e e2), (fun e e2 => h.d23 e e2)⟩
      · refine' wpOp_step (o := ?oAe_9) ?hoAe_9 (fun K hK => ?stAe_9)
        case hoAe_9 => rfl
        case stAe_9 =>
          have HK := Lib.hid hK; clear hK
          go_simp
          refine HK.out _ _ ⟨_, _, _, _, _, _, _, _, _, _, _, _, rfl, ?_⟩
          have h := HH.out.mono (bal_alloc (o := .cells #[.int .i64 0, .int .i64 0] 60) (Below.refl _ _))
          exact ⟨h.bel, (fun e => h.p0 e), (fun e => h.p1 e), (fun e => h.p2 e), (fun e => h.p3 e), (fun e => h.p4 e), (fun e => h.p5 e), (fun e => h.p6 e), (fun e => h.p7 e), (fun e => h.a0 e), (fun e => h.c0 e), (fun _ => ⟨_, 0, 0, rfl, HH.out.bel.size, Own.newHG _ _ _ rfl rfl, fun e9 => (no_up hL (h.c1 e9)).elim⟩), (fun _ => rfl), (fun e => h.a2 e), (fun e => h.c2 e), (fun e => h.a3 e), (fun e => h.c3 e), (fun e e2 => by obtain ⟨T, _, _, h1, _, h3, _⟩ := HH.out.a0 e; have := Own.lt h3; intro h4; rw [h1] at h4; simp only [Value.pointer.injEq, Option.some.injEq, Addr.mk.injEq] at h4; omega), (fun e e2 => h.d02 e e2), (fun e e2 => h.d03 e e2), (fun e e2 => by obtain ⟨T, _, _, h1, _, h3, _⟩ := HH.out.a2 e2; have := Own.lt h3; intro h4; rw [h1] at h4; simp only [Value.pointer.injEq, Option.some.injEq, Addr.mk.injEq] at h4; omega), (fun e e2 => by obtain ⟨T, _, _, h1, _, h3, _⟩ := HH.out.a3 e2; have := Own.lt h3; intro h4; rw [h1] at h4; simp only [Value.pointer.injEq, Option.some.injEq, Addr.mk.injEq] at h4; omega), (fun e e2 => h.d23 e e2)⟩
      · refine' wpOp_step (o := ?oAe_10) ?hoAe_10 (fun K hK => ?stAe_10)
        case hoAe_10 => rfl
        case stAe_10 =>
          have HK := Lib.hid hK; clear hK
          go_simp
          refine HK.out _ _ ⟨_, _, _, _, _, _, _, _, _, _, _, _, rfl, ?_⟩
          have h := HH.out.mono (bal_alloc (o := .cells #[.int .i64 0, .int .i64 0] 60) (Below.refl _ _))
          exact ⟨h.bel, (fun e => h.p0 e), (fun e => h.p1 e), (fun e => h.p2 e), (fun e => h.p3 e), (fun e => h.p4 e), (fun e => h.p5 e), (fun e => h.p6 e), (fun e => h.p7 e), (fun e => h.a0 e), (fun e => h.c0 e), (fun e => h.a1 e), (fun e => h.c1 e), (fun _ => ⟨_, 0, 0, rfl, HH.out.bel.size, Own.newHG _ _ _ rfl rfl, fun e9 => (no_up hL (h.c2 e9)).elim⟩), (fun _ => rfl), (fun e => h.a3 e), (fun e => h.c3 e), (fun e e2 => h.d01 e e2), (fun e e2 => by obtain ⟨T, _, _, h1, _, h3, _⟩ := HH.out.a0 e; have := Own.lt h3; intro h4; rw [h1] at h4; simp only [Value.pointer.injEq, Option.some.injEq, Addr.mk.injEq] at h4; omega), (fun e e2 => h.d03 e e2), (fun e e2 => by obtain ⟨T, _, _, h1, _, h3, _⟩ := HH.out.a1 e; have := Own.lt h3; intro h4; rw [h1] at h4; simp only [Value.pointer.injEq, Option.some.injEq, Addr.mk.injEq] at h4; omega), (fun e e2 => h.d13 e e2), (fun e e2 => by obtain ⟨T, _, _, h1, _, h3, _⟩ := HH.out.a3 e2; have := Own.lt h3; intro h4; rw [h1] at h4; simp only [Value.pointer.injEq, Option.some.injEq, Addr.mk.injEq] at h4; omega)⟩
      · refine' wpOp_step (o := ?oAe_11) ?hoAe_11 (fun K hK => ?stAe_11)
        case hoAe_11 => rfl
        case stAe_11 =>
          have HK := Lib.hid hK; clear hK
          go_simp
          refine HK.out _ _ ⟨_, _, _, _, _, _, _, _, _, _, _, _, rfl, ?_⟩
          have h := HH.out.mono (bal_alloc (o := .cells #[.int .i64 0, .int .i64 0] 60) (Below.refl _ _))
          exact ⟨h.bel, (fun e => h.p0 e), (fun e => h.p1 e), (fun e => h.p2 e), (fun e => h.p3 e), (fun e => h.p4 e), (fun e => h.p5 e), (fun e => h.p6 e), (fun e => h.p7 e), (fun e => h.a0 e), (fun e => h.c0 e), (fun e => h.a1 e), (fun e => h.c1 e), (fun e => h.a2 e), (fun e => h.c2 e), (fun _ => ⟨_, 0, 0, rfl, HH.out.bel.size, Own.newHG _ _ _ rfl rfl, fun e9 => (no_up hL (h.c3 e9)).elim⟩), (fun _ => rfl), (fun e e2 => h.d01 e e2), (fun e e2 => h.d02 e e2), (fun e e2 => by obtain ⟨T, _, _, h1, _, h3, _⟩ := HH.out.a0 e; have := Own.lt h3; intro h4; rw [h1] at h4; simp only [Value.pointer.injEq, Option.some.injEq, Addr.mk.injEq] at h4; omega), (fun e e2 => h.d12 e e2), (fun e e2 => by obtain ⟨T, _, _, h1, _, h3, _⟩ := HH.out.a1 e; have := Own.lt h3; intro h4; rw [h1] at h4; simp only [Value.pointer.injEq, Option.some.injEq, Addr.mk.injEq] at h4; omega), (fun e e2 => by obtain ⟨T, _, _, h1, _, h3, _⟩ := HH.out.a2 e; have := Own.lt h3; intro h4; rw [h1] at h4; simp only [Value.pointer.injEq, Option.some.injEq, Addr.mk.injEq] at h4; omega)⟩
      · refine' wpOp_step (o := ?oAe_12) ?hoAe_12 (fun K hK => ?stAe_12)
        case hoAe_12 => rfl
        case stAe_12 =>
          have HK := Lib.hid hK; clear hK
          obtain rfl := HH.out.p1 (HWt.out 1 (by kernel_rfl))
          obtain ⟨T, x0, x1, rfl, hT, hO, -⟩ := HH.out.a0 (HWt.out 8 (by kernel_rfl))
          have y0 := hO.cell? (i := 0) rfl; have z0 := hO.frozen 0
          have y1 := hO.cell? (i := 1) rfl; have z1 := hO.frozen 1
          have HO := Lib.hid hO; clear hO
          go_simp
          refine HK.out _ _ ⟨_, _, _, _, _, _, _, _, _, _, _, _, rfl, ?_⟩
          have h := HH.out
          have hO := HO.out
          exact ⟨bel_set (bel_set (h.bel) hT) hT, (fun e => h.p0 e), (fun e => h.p1 e), (fun e => h.p2 e), (fun e => h.p3 e), (fun e => h.p4 e), (fun e => h.p5 e), (fun e => h.p6 e), (fun e => h.p7 e), (fun _ => ⟨T, _, _, rfl, hT, (Own.set (Own.set hO 0 (.int .i64 (o.i))) 1 (.int .i64 (o.j))), fun _ => ⟨rfl, rfl⟩⟩), (fun _ => HWt.out 8 (by kernel_rfl)), (fun e => let ⟨t, x0, x1, a', b', c', d'⟩ := h.a1 e; have hne : t ≠ T := (fun e9 => h.d01 (HWt.out 8 (by kernel_rfl)) e (by rw [a', e9])); ⟨t, x0, x1, a', b', (Own.sO hne (Own.sO hne c' _) _), d'⟩), (fun e => h.c1 e), (fun e => let ⟨t, x0, x1, a', b', c', d'⟩ := h.a2 e; have hne : t ≠ T := (fun e9 => h.d02 (HWt.out 8 (by kernel_rfl)) e (by rw [a', e9])); ⟨t, x0, x1, a', b', (Own.sO hne (Own.sO hne c' _) _), d'⟩), (fun e => h.c2 e), (fun e => let ⟨t, x0, x1, a', b', c', d'⟩ := h.a3 e; have hne : t ≠ T := (fun e9 => h.d03 (HWt.out 8 (by kernel_rfl)) e (by rw [a', e9])); ⟨t, x0, x1, a', b', (Own.sO hne (Own.sO hne c' _) _), d'⟩), (fun e => h.c3 e), (fun e e2 => h.d01 e e2), (fun e e2 => h.d02 e e2), (fun e e2 => h.d03 e e2), (fun e e2 => h.d12 e e2), (fun e e2 => h.d13 e e2), (fun e e2 => h.d23 e e2)⟩
      · refine' wpOp_step (o := ?oAe_13) ?hoAe_13 (fun K hK => ?stAe_13)
        case hoAe_13 => rfl
        case stAe_13 =>
          have HK := Lib.hid hK; clear hK
          obtain rfl := HH.out.p3 (HWt.out 3 (by kernel_rfl))
          obtain ⟨T, x0, x1, rfl, hT, hO, -⟩ := HH.out.a1 (HWt.out 9 (by kernel_rfl))
          have y0 := hO.cell? (i := 0) rfl; have z0 := hO.frozen 0
          have y1 := hO.cell? (i := 1) rfl; have z1 := hO.frozen 1
          have HO := Lib.hid hO; clear hO
          go_simp
          refine HK.out _ _ ⟨_, _, _, _, _, _, _, _, _, _, _, _, rfl, ?_⟩
          have h := HH.out
          have hO := HO.out
          exact ⟨bel_set (bel_set (h.bel) hT) hT, (fun e => h.p0 e), (fun e => h.p1 e), (fun e => h.p2 e), (fun e => h.p3 e), (fun e => h.p4 e), (fun e => h.p5 e), (fun e => h.p6 e), (fun e => h.p7 e), (fun e => let ⟨t, x0, x1, a', b', c', d'⟩ := h.a0 e; have hne : t ≠ T := (fun e9 => h.d01 e (HWt.out 9 (by kernel_rfl)) (by rw [a', e9])); ⟨t, x0, x1, a', b', (Own.sO hne (Own.sO hne c' _) _), d'⟩), (fun e => h.c0 e), (fun _ => ⟨T, _, _, rfl, hT, (Own.set (Own.set hO 0 (.int .i64 (u.i))) 1 (.int .i64 (u.j))), fun _ => ⟨rfl, rfl⟩⟩), (fun _ => HWt.out 9 (by kernel_rfl)), (fun e => let ⟨t, x0, x1, a', b', c', d'⟩ := h.a2 e; have hne : t ≠ T := (fun e9 => h.d12 (HWt.out 9 (by kernel_rfl)) e (by rw [a', e9])); ⟨t, x0, x1, a', b', (Own.sO hne (Own.sO hne c' _) _), d'⟩), (fun e => h.c2 e), (fun e => let ⟨t, x0, x1, a', b', c', d'⟩ := h.a3 e; have hne : t ≠ T := (fun e9 => h.d13 (HWt.out 9 (by kernel_rfl)) e (by rw [a', e9])); ⟨t, x0, x1, a', b', (Own.sO hne (Own.sO hne c' _) _), d'⟩), (fun e => h.c3 e), (fun e e2 => h.d01 e e2), (fun e e2 => h.d02 e e2), (fun e e2 => h.d03 e e2), (fun e e2 => h.d12 e e2), (fun e e2 => h.d13 e e2), (fun e e2 => h.d23 e e2)⟩
      · refine' wpOp_step (o := ?oAe_14) ?hoAe_14 (fun K hK => ?stAe_14)
        case hoAe_14 => rfl
        case stAe_14 =>
          have HK := Lib.hid hK; clear hK
          obtain rfl := HH.out.p5 (HWt.out 5 (by kernel_rfl))
          obtain ⟨T, x0, x1, rfl, hT, hO, -⟩ := HH.out.a2 (HWt.out 10 (by kernel_rfl))
          have y0 := hO.cell? (i := 0) rfl; have z0 := hO.frozen 0
          have y1 := hO.cell? (i := 1) rfl; have z1 := hO.frozen 1
          have HO := Lib.hid hO; clear hO
          go_simp
          refine HK.out _ _ ⟨_, _, _, _, _, _, _, _, _, _, _, _, rfl, ?_⟩
          have h := HH.out
          have hO := HO.out
          exact ⟨bel_set (bel_set (h.bel) hT) hT, (fun e => h.p0 e), (fun e => h.p1 e), (fun e => h.p2 e), (fun e => h.p3 e), (fun e => h.p4 e), (fun e => h.p5 e), (fun e => h.p6 e), (fun e => h.p7 e), (fun e => let ⟨t, x0, x1, a', b', c', d'⟩ := h.a0 e; have hne : t ≠ T := (fun e9 => h.d02 e (HWt.out 10 (by kernel_rfl)) (by rw [a', e9])); ⟨t, x0, x1, a', b', (Own.sO hne (Own.sO hne c' _) _), d'⟩), (fun e => h.c0 e), (fun e => let ⟨t, x0, x1, a', b', c', d'⟩ := h.a1 e; have hne : t ≠ T := (fun e9 => h.d12 e (HWt.out 10 (by kernel_rfl)) (by rw [a', e9])); ⟨t, x0, x1, a', b', (Own.sO hne (Own.sO hne c' _) _), d'⟩), (fun e => h.c1 e), (fun _ => ⟨T, _, _, rfl, hT, (Own.set (Own.set hO 0 (.int .i64 (v.i))) 1 (.int .i64 (v.j))), fun _ => ⟨rfl, rfl⟩⟩), (fun _ => HWt.out 10 (by kernel_rfl)), (fun e => let ⟨t, x0, x1, a', b', c', d'⟩ := h.a3 e; have hne : t ≠ T := (fun e9 => h.d23 (HWt.out 10 (by kernel_rfl)) e (by rw [a', e9])); ⟨t, x0, x1, a', b', (Own.sO hne (Own.sO hne c' _) _), d'⟩), (fun e => h.c3 e), (fun e e2 => h.d01 e e2), (fun e e2 => h.d02 e e2), (fun e e2 => h.d03 e e2), (fun e e2 => h.d12 e e2), (fun e e2 => h.d13 e e2), (fun e e2 => h.d23 e e2)⟩
      · refine' wpOp_step (o := ?oAe_15) ?hoAe_15 (fun K hK => ?stAe_15)
        case hoAe_15 => rfl
        case stAe_15 =>
          have HK := Lib.hid hK; clear hK
          obtain rfl := HH.out.p7 (HWt.out 7 (by kernel_rfl))
          obtain ⟨T, x0, x1, rfl, hT, hO, -⟩ := HH.out.a3 (HWt.out 11 (by kernel_rfl))
          have y0 := hO.cell? (i := 0) rfl; have z0 := hO.frozen 0
          have y1 := hO.cell? (i := 1) rfl; have z1 := hO.frozen 1
          have HO := Lib.hid hO; clear hO
          go_simp
          refine HK.out _ _ ⟨_, _, _, _, _, _, _, _, _, _, _, _, rfl, ?_⟩
          have h := HH.out
          have hO := HO.out
          exact ⟨bel_set (bel_set (h.bel) hT) hT, (fun e => h.p0 e), (fun e => h.p1 e), (fun e => h.p2 e), (fun e => h.p3 e), (fun e => h.p4 e), (fun e => h.p5 e), (fun e => h.p6 e), (fun e => h.p7 e), (fun e => let ⟨t, x0, x1, a', b', c', d'⟩ := h.a0 e; have hne : t ≠ T := (fun e9 => h.d03 e (HWt.out 11 (by kernel_rfl)) (by rw [a', e9])); ⟨t, x0, x1, a', b', (Own.sO hne (Own.sO hne c' _) _), d'⟩), (fun e => h.c0 e), (fun e => let ⟨t, x0, x1, a', b', c', d'⟩ := h.a1 e; have hne : t ≠ T := (fun e9 => h.d13 e (HWt.out 11 (by kernel_rfl)) (by rw [a', e9])); ⟨t, x0, x1, a', b', (Own.sO hne (Own.sO hne c' _) _), d'⟩), (fun e => h.c1 e), (fun e => let ⟨t, x0, x1, a', b', c', d'⟩ := h.a2 e; have hne : t ≠ T := (fun e9 => h.d23 e (HWt.out 11 (by kernel_rfl)) (by rw [a', e9])); ⟨t, x0, x1, a', b', (Own.sO hne (Own.sO hne c' _) _), d'⟩), (fun e => h.c2 e), (fun _ => ⟨T, _, _, rfl, hT, (Own.set (Own.set hO 0 (.int .i64 (x.i))) 1 (.int .i64 (x.j))), fun _ => ⟨rfl, rfl⟩⟩), (fun _ => HWt.out 11 (by kernel_rfl)), (fun e e2 => h.d01 e e2), (fun e e2 => h.d02 e e2), (fun e e2 => h.d03 e e2), (fun e e2 => h.d12 e e2), (fun e e2 => h.d13 e e2), (fun e e2 => h.d23 e e2)⟩
  case rest =>
    obtain ⟨P0, P1, P2, P3, rfl, rfl, rfl, rfl, hQ0, hQ1, hQ2, hQ3, hbel4⟩ := hcut
    obtain ⟨W4, rfl⟩ : ∃ y : World, y = wc := ⟨_, rfl⟩
    have m0 := bcell hbel4 F02.out.1 F02.out.2
    have m1 := bcell hbel4 F12.out.1 F12.out.2
    have m2 := bcell hbel4 F22.out.1 F22.out.2
    have m3 := bcell hbel4 F32.out.1 F32.out.2
    have m4 := hQ0.cell? (i := 0) rfl
    have m5 := hQ0.cell? (i := 1) rfl
    have m6 := hQ1.cell? (i := 0) rfl
    have m7 := hQ1.cell? (i := 1) rfl
    have m8 := hQ2.cell? (i := 0) rfl
    have m9 := hQ2.cell? (i := 1) rfl
    have m10 := hQ3.cell? (i := 0) rfl
    have m11 := hQ3.cell? (i := 1) rfl
    have lB0 : B0 < W4.heap.size := Nat.lt_of_lt_of_le F02.out.1 hbel4.size
    have lB1 : B1 < W4.heap.size := Nat.lt_of_lt_of_le F12.out.1 hbel4.size
    have lB2 : B2 < W4.heap.size := Nat.lt_of_lt_of_le F22.out.1 hbel4.size
    have lB3 : B3 < W4.heap.size := Nat.lt_of_lt_of_le F32.out.1 hbel4.size
    have lP0 := hQ0.lt
    have lP1 := hQ1.lt
    have lP2 := hQ2.lt
    have lP3 := hQ3.lt
    obtain ⟨ho, hu, hv, hx⟩ := HBD.out
    have HB4 := Lib.hid (HB1.out.trans (hbel4.mono HB1.out.size))
    clear F00 F01 F02 F10 F11 F12 F20 F21 F22 F30 F31 F32 hQ0 hQ1 hQ2 hQ3 hbel4
    obtain ⟨X0, hX0⟩ : ∃ z, turnZ (pnt o) (pnt u) (pnt v) = z := ⟨_, rfl⟩
    obtain ⟨X1, hX1⟩ : ∃ z, turnZ (pnt x) (pnt u) (pnt v) = z := ⟨_, rfl⟩
    obtain ⟨X2, hX2⟩ : ∃ z, turnZ (pnt o) (pnt x) (pnt v) = z := ⟨_, rfl⟩
    obtain ⟨X3, hX3⟩ : ∃ z, turnZ (pnt o) (pnt u) (pnt x) = z := ⟨_, rfl⟩
    have K0 := Lib.hid (fun w => show Calls Try.prog 29 #[.agg #[.int .i64 o.i, .int .i64 o.j], .agg #[.int .i64 u.i, .int .i64 u.j], .agg #[.int .i64 v.i, .int .i64 v.j]] w fun e w' => e = .returned (.int .i64 X0) ∧ Below w.heap.size w w' by rw [← hX0]; exact pyTurn_c (pnt o) (pnt u) (pnt v) w ⟨by show _ ≤ o.i; omega, by show o.i ≤ _; omega, by show _ ≤ o.j; omega, by show o.j ≤ _; omega⟩ ⟨by show _ ≤ u.i; omega, by show u.i ≤ _; omega, by show _ ≤ u.j; omega, by show u.j ≤ _; omega⟩ ⟨by show _ ≤ v.i; omega, by show v.i ≤ _; omega, by show _ ≤ v.j; omega, by show v.j ≤ _; omega⟩)
    have K1 := Lib.hid (fun w => show Calls Try.prog 29 #[.agg #[.int .i64 x.i, .int .i64 x.j], .agg #[.int .i64 u.i, .int .i64 u.j], .agg #[.int .i64 v.i, .int .i64 v.j]] w fun e w' => e = .returned (.int .i64 X1) ∧ Below w.heap.size w w' by rw [← hX1]; exact pyTurn_c (pnt x) (pnt u) (pnt v) w ⟨by show _ ≤ x.i; omega, by show x.i ≤ _; omega, by show _ ≤ x.j; omega, by show x.j ≤ _; omega⟩ ⟨by show _ ≤ u.i; omega, by show u.i ≤ _; omega, by show _ ≤ u.j; omega, by show u.j ≤ _; omega⟩ ⟨by show _ ≤ v.i; omega, by show v.i ≤ _; omega, by show _ ≤ v.j; omega, by show v.j ≤ _; omega⟩)
    have K2 := Lib.hid (fun w => show Calls Try.prog 29 #[.agg #[.int .i64 o.i, .int .i64 o.j], .agg #[.int .i64 x.i, .int .i64 x.j], .agg #[.int .i64 v.i, .int .i64 v.j]] w fun e w' => e = .returned (.int .i64 X2) ∧ Below w.heap.size w w' by rw [← hX2]; exact pyTurn_c (pnt o) (pnt x) (pnt v) w ⟨by show _ ≤ o.i; omega, by show o.i ≤ _; omega, by show _ ≤ o.j; omega, by show o.j ≤ _; omega⟩ ⟨by show _ ≤ x.i; omega, by show x.i ≤ _; omega, by show _ ≤ x.j; omega, by show x.j ≤ _; omega⟩ ⟨by show _ ≤ v.i; omega, by show v.i ≤ _; omega, by show _ ≤ v.j; omega, by show v.j ≤ _; omega⟩)
    have K3 := Lib.hid (fun w => show Calls Try.prog 29 #[.agg #[.int .i64 o.i, .int .i64 o.j], .agg #[.int .i64 u.i, .int .i64 u.j], .agg #[.int .i64 x.i, .int .i64 x.j]] w fun e w' => e = .returned (.int .i64 X3) ∧ Below w.heap.size w w' by rw [← hX3]; exact pyTurn_c (pnt o) (pnt u) (pnt x) w ⟨by show _ ≤ o.i; omega, by show o.i ≤ _; omega, by show _ ≤ o.j; omega, by show o.j ≤ _; omega⟩ ⟨by show _ ≤ u.i; omega, by show u.i ≤ _; omega, by show _ ≤ u.j; omega, by show u.j ≤ _; omega⟩ ⟨by show _ ≤ x.i; omega, by show x.i ≤ _; omega, by show _ ≤ x.j; omega, by show x.j ≤ _; omega⟩)
    have bX : ∀ {a b c : Tm}, (0 ≤ a.i ∧ a.i ≤ 6) ∧ (0 ≤ a.j ∧ a.j ≤ 6) → (0 ≤ b.i ∧ b.i ≤ 6) ∧ (0 ≤ b.j ∧ b.j ≤ 6) → (0 ≤ c.i ∧ c.i ≤ 6) ∧ (0 ≤ c.j ∧ c.j ≤ 6) → -300 ≤ turnZ (pnt a) (pnt b) (pnt c) ∧ turnZ (pnt a) (pnt b) (pnt c) ≤ 300 := fun {a b c} ha hb hc => by
      have h1 := mulb (K := 12) (M := 12) (by omega) (show -12 ≤ b.i - a.i ∧ b.i - a.i ≤ 12 by omega) (show -12 ≤ c.j - a.j ∧ c.j - a.j ≤ 12 by omega)
      have h2 := mulb (K := 12) (M := 12) (by omega) (show -12 ≤ b.j - a.j ∧ b.j - a.j ≤ 12 by omega) (show -12 ≤ c.i - a.i ∧ c.i - a.i ≤ 12 by omega)
      unfold turnZ pnt
      simp only
      omega
    have b0 := bX (a := o) (b := u) (c := v) (by omega) (by omega) (by omega)
    have b1 := bX (a := x) (b := u) (c := v) (by omega) (by omega) (by omega)
    have b2 := bX (a := o) (b := x) (c := v) (by omega) (by omega) (by omega)
    have b3 := bX (a := o) (b := u) (c := x) (by omega) (by omega) (by omega)
    rw [hX0] at b0; rw [hX1] at b1; rw [hX2] at b2; rw [hX3] at b3
    have HAB := Lib.hid (show abvS o u v x = x.c * X0 - o.c * X1 - u.c * X2 - v.c * X3 from by rw [← hX0, ← hX1, ← hX2, ← hX3]; rfl)
    have c0 := mulb (K := 1000000) (M := 300) (by omega) hx.2.2 b0
    have c1 := mulb (K := 1000000) (M := 300) (by omega) ho.2.2 b1
    have c2 := mulb (K := 1000000) (M := 300) (by omega) hu.2.2 b2
    have c3 := mulb (K := 1000000) (M := 300) (by omega) hv.2.2 b3
    obtain ⟨Y0, hY0⟩ : ∃ z, x.c * X0 = z := ⟨_, rfl⟩
    obtain ⟨Y1, hY1⟩ : ∃ z, o.c * X1 = z := ⟨_, rfl⟩
    obtain ⟨Y2, hY2⟩ : ∃ z, u.c * X2 = z := ⟨_, rfl⟩
    obtain ⟨Y3, hY3⟩ : ∃ z, v.c * X3 = z := ⟨_, rfl⟩
    rw [hY0] at c0; rw [hY1] at c1; rw [hY2] at c2; rw [hY3] at c3
    rw [hY0, hY1, hY2, hY3] at HAB
    have f0 : IntKind.i64.wrap (x.c * X0) = Y0 := by rw [hY0]; exact i64_small (by omega) (by omega)
    have f1 : IntKind.i64.wrap (o.c * X1) = Y1 := by rw [hY1]; exact i64_small (by omega) (by omega)
    have f2 : IntKind.i64.wrap (u.c * X2) = Y2 := by rw [hY2]; exact i64_small (by omega) (by omega)
    have f3 : IntKind.i64.wrap (v.c * X3) = Y3 := by rw [hY3]; exact i64_small (by omega) (by omega)
    obtain ⟨Z1, hZ1⟩ : ∃ z, Y0 - Y1 = z := ⟨_, rfl⟩
    obtain ⟨Z2, hZ2⟩ : ∃ z, Z1 - Y2 = z := ⟨_, rfl⟩
    obtain ⟨Z3, hZ3⟩ : ∃ z, Z2 - Y3 = z := ⟨_, rfl⟩
    have f4 : IntKind.i64.wrap (Y0 - Y1) = Z1 := by rw [i64_small (by omega) (by omega)]; exact hZ1
    have f5 : IntKind.i64.wrap (Z1 - Y2) = Z2 := by rw [i64_small (by omega) (by omega)]; exact hZ2
    have f6 : IntKind.i64.wrap (Z2 - Y3) = Z3 := by rw [i64_small (by omega) (by omega)]; exact hZ3
    rw [hZ1, hZ2, hZ3] at HAB
    obtain ⟨sg, hsg⟩ : ∃ z : Int, (if X0 < 0 then -1 else if X0 > 0 then 1 else 0) = z := ⟨_, rfl⟩
    have hs1 : sg = -1 ∨ sg = 1 ∨ sg = 0 := by
      rw [← hsg]
      split
      · exact Or.inl rfl
      · split
        · exact Or.inr (Or.inl rfl)
        · exact Or.inr (Or.inr rfl)
    have CS := Lib.hid (fun w => ceSign_c X0 w)
    rw [hsg] at CS
    have f7 : IntKind.i64.wrap (Z3 * sg) = Z3 * sg := by rcases hs1 with e | e | e <;> (rw [e]; exact i64_small (by omega) (by omega))
    have HFIN := Lib.hid (show abvS o u v x * (if turnZ (pnt o) (pnt u) (pnt v) < 0 then -1 else if turnZ (pnt o) (pnt u) (pnt v) > 0 then 1 else 0) = Z3 * sg from by rw [HAB.out, hX0, hsg])
    clear hX0 hX1 hX2 hX3 hY0 hY1 hY2 hY3 hZ1 hZ2 hZ3 hs1 hsg b0 b1 b2 b3 c0 c1 c2 c3 bX ho hu hv hx HAB
    go_wp2_with fail
    refine (K0.out _).mono ?_
    rintro e W5 ⟨rfl, hw5⟩
    have m0 := bcell hw5 lB0 m0
    have m1 := bcell hw5 lB1 m1
    have m2 := bcell hw5 lB2 m2
    have m3 := bcell hw5 lB3 m3
    have m4 := bcell hw5 lP0 m4
    have m5 := bcell hw5 lP0 m5
    have m6 := bcell hw5 lP1 m6
    have m7 := bcell hw5 lP1 m7
    have m8 := bcell hw5 lP2 m8
    have m9 := bcell hw5 lP2 m9
    have m10 := bcell hw5 lP3 m10
    have m11 := bcell hw5 lP3 m11
    have lB0 := Nat.lt_of_lt_of_le lB0 hw5.size
    have lB1 := Nat.lt_of_lt_of_le lB1 hw5.size
    have lB2 := Nat.lt_of_lt_of_le lB2 hw5.size
    have lB3 := Nat.lt_of_lt_of_le lB3 hw5.size
    have lP0 := Nat.lt_of_lt_of_le lP0 hw5.size
    have lP1 := Nat.lt_of_lt_of_le lP1 hw5.size
    have lP2 := Nat.lt_of_lt_of_le lP2 hw5.size
    have lP3 := Nat.lt_of_lt_of_le lP3 hw5.size
    go_wp2_with fail
    go_region_held3 (fun w' => w'.cell? ⟨B0, 2, none⟩ = some (.int .i64 o.c) ∧ w'.cell? ⟨B1, 2, none⟩ = some (.int .i64 u.c) ∧ w'.cell? ⟨B2, 2, none⟩ = some (.int .i64 v.c) ∧ w'.cell? ⟨B3, 2, none⟩ = some (.int .i64 x.c) ∧ w'.cell? ⟨P0, 0, none⟩ = some (.int .i64 o.i) ∧ w'.cell? ⟨P0, 1, none⟩ = some (.int .i64 o.j) ∧ w'.cell? ⟨P1, 0, none⟩ = some (.int .i64 u.i) ∧ w'.cell? ⟨P1, 1, none⟩ = some (.int .i64 u.j) ∧ w'.cell? ⟨P2, 0, none⟩ = some (.int .i64 v.i) ∧ w'.cell? ⟨P2, 1, none⟩ = some (.int .i64 v.j) ∧ w'.cell? ⟨P3, 0, none⟩ = some (.int .i64 x.i) ∧ w'.cell? ⟨P3, 1, none⟩ = some (.int .i64 x.j)) (exact ⟨by assumption, by assumption, by assumption, by assumption, by assumption, by assumption, by assumption, by assumption, by assumption, by assumption, by assumption, by assumption⟩)
      (first
        | (go_at_call 29; (with_reducible refine (K1.out _).mono ?_); rintro e W6 ⟨rfl, hw6⟩; have n0 := bcell hw6 lB0 m0; have n1 := bcell hw6 lB1 m1; have n2 := bcell hw6 lB2 m2; have n3 := bcell hw6 lB3 m3; have n4 := bcell hw6 lP0 m4; have n5 := bcell hw6 lP0 m5; have n6 := bcell hw6 lP1 m6; have n7 := bcell hw6 lP1 m7; have n8 := bcell hw6 lP2 m8; have n9 := bcell hw6 lP2 m9; have n10 := bcell hw6 lP3 m10; have n11 := bcell hw6 lP3 m11)
        | (go_at_call 29; (with_reducible refine (K2.out _).mono ?_); rintro e W7 ⟨rfl, hw7⟩; have k0 := bcell hw7 (Nat.lt_of_lt_of_le lB0 hw6.size) n0; have k1 := bcell hw7 (Nat.lt_of_lt_of_le lB1 hw6.size) n1; have k2 := bcell hw7 (Nat.lt_of_lt_of_le lB2 hw6.size) n2; have k3 := bcell hw7 (Nat.lt_of_lt_of_le lB3 hw6.size) n3; have k4 := bcell hw7 (Nat.lt_of_lt_of_le lP0 hw6.size) n4; have k5 := bcell hw7 (Nat.lt_of_lt_of_le lP0 hw6.size) n5; have k6 := bcell hw7 (Nat.lt_of_lt_of_le lP1 hw6.size) n6; have k7 := bcell hw7 (Nat.lt_of_lt_of_le lP1 hw6.size) n7; have k8 := bcell hw7 (Nat.lt_of_lt_of_le lP2 hw6.size) n8; have k9 := bcell hw7 (Nat.lt_of_lt_of_le lP2 hw6.size) n9; have k10 := bcell hw7 (Nat.lt_of_lt_of_le lP3 hw6.size) n10; have k11 := bcell hw7 (Nat.lt_of_lt_of_le lP3 hw6.size) n11)
        | (go_at_call 29; (with_reducible refine (K3.out _).mono ?_); rintro e W8 ⟨rfl, hw8⟩; have r0 := bcell hw8 (Nat.lt_of_lt_of_le (Nat.lt_of_lt_of_le lB0 hw6.size) hw7.size) k0; have r1 := bcell hw8 (Nat.lt_of_lt_of_le (Nat.lt_of_lt_of_le lB1 hw6.size) hw7.size) k1; have r2 := bcell hw8 (Nat.lt_of_lt_of_le (Nat.lt_of_lt_of_le lB2 hw6.size) hw7.size) k2; have r3 := bcell hw8 (Nat.lt_of_lt_of_le (Nat.lt_of_lt_of_le lB3 hw6.size) hw7.size) k3; have r4 := bcell hw8 (Nat.lt_of_lt_of_le (Nat.lt_of_lt_of_le lP0 hw6.size) hw7.size) k4; have r5 := bcell hw8 (Nat.lt_of_lt_of_le (Nat.lt_of_lt_of_le lP0 hw6.size) hw7.size) k5; have r6 := bcell hw8 (Nat.lt_of_lt_of_le (Nat.lt_of_lt_of_le lP1 hw6.size) hw7.size) k6; have r7 := bcell hw8 (Nat.lt_of_lt_of_le (Nat.lt_of_lt_of_le lP1 hw6.size) hw7.size) k7; have r8 := bcell hw8 (Nat.lt_of_lt_of_le (Nat.lt_of_lt_of_le lP2 hw6.size) hw7.size) k8; have r9 := bcell hw8 (Nat.lt_of_lt_of_le (Nat.lt_of_lt_of_le lP2 hw6.size) hw7.size) k9; have r10 := bcell hw8 (Nat.lt_of_lt_of_le (Nat.lt_of_lt_of_le lP3 hw6.size) hw7.size) k10; have r11 := bcell hw8 (Nat.lt_of_lt_of_le (Nat.lt_of_lt_of_le lP3 hw6.size) hw7.size) k11))
    go_wp2_with fail
    refine (CS.out _).mono ?_
    rintro e W9 ⟨rfl, rfl⟩
    go_wp2_with fail
    go_ret
    have hbF := ball (ball (ball (ball HB4.out hw5) ((Below.refl _ _).drew.trans hw6)) hw7) hw8

    exact ⟨by rw [← HRV.out, HFIN.out]; rfl, hbF⟩
end Go.Proofs.Ytbnlfpcgcpdbhaa
