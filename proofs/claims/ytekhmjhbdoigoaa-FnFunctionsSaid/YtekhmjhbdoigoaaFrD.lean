/-
  Fractions that the cursor draws. Printed by gen_frD.py.
-/
import Derived.Test.YtekhmjhbdoigoaaFrS
import Derived.Test.YtekhmjhbdoigoaaDrawM
namespace Go.Proofs.Ytekhmjhbdoigoaa
open Go.RowKit

def SomeF (P : Fr → Prop) (c n : Nat) (w : World) (e : Ending) (w' : World) : Prop := ∃ f : Fr, e = .returned (frV f) ∧ P f ∧ Cur w' c n ∧ Chg c w w'
/-- The end of a drawing function that gives a fraction by its cell. -/
theorem fr2_endD {u w : World} {g c n : Nat} {f : Fr} {x y : Int} (h : FrO w g f) (hu : Cur w c n) (hc : Chg c u w) (hg : u.heap.size ≤ g) (hcl : c < u.heap.size) : ∃ W, fr2 w g x y = W ∧ (W.cell? ⟨g, 0, none⟩ = some (.int .i64 x) ∧ W.cell? ⟨g, 1, none⟩ = some (.int .i64 y)) ∧ Cur W c n ∧ Chg c u W := by
  have h1 := (Chg.set g 0 w (.int .i64 x)).trans (Chg.set g 1 _ (.int .i64 y))
  have hb : Below u.heap.size w (fr2 w g x y) := h1.below hg hc.size
  exact ⟨_, rfl, (h.set x y).at, hu.under hb hcl, hc.under hb (Nat.le_refl _) h1.size⟩
theorem mk_small {n d : Int} (hd : 1 ≤ d) (hdb : d ≤ 1000000000) (hn : -1000000000 ≤ n ∧ n ≤ 1000000000) : mkB n d = true ∧ ((lowF n d).n.natAbs ≤ n.natAbs) ∧ (lowF n d).d ≤ d := by
  obtain ⟨s, hs, hs0, h1, h2, h3, h4⟩ := low_spec (n := n) (d := d) (by omega)
  have x1 := tdiv_bd n (sgG n d)
  have x2 := tdiv_bd d (sgG n d)
  have y1 : (lowF n d).n.natAbs ≤ n.natAbs := x1
  have y2 : (lowF n d).d.natAbs ≤ d.natAbs := x2
  refine ⟨mkB_t.2 ⟨by omega, frB_t.2 ⟨by omega, by omega, h4⟩⟩, y1, by omega⟩
/-- A small valid fraction. -/
def SmallF (f : Fr) : Prop := frB f = true ∧ (-20 ≤ f.n ∧ f.n ≤ 20) ∧ f.d ≤ 12

set_option maxHeartbeats 1600000 in
set_option maxRecDepth 100000 in
theorem frac_c (c n : Nat) (w : World) (h : Cur w c n) (hn : n ≤ 4611686018427370000) :
    Calls Try.prog 85 #[.pointer (some ⟨c, 0, none⟩)] w (SomeF SmallF c (n + 4) w) := by
  have hcl := h.lt
  have hz := FrO.new w 0 0 rfl
  have h0 := h.below ((Below.refl _ _).alloc (Nat.le_refl _) (.cells #[.int .i64 0, .int .i64 0] 38))
  have f0 := Chg.alloc c w (.cells #[.int .i64 0, .int .i64 0] 38)
  have H := Lib.hid h0; have F := Lib.hid f0; clear h h0 f0
  obtain ⟨g, hg⟩ : ∃ g, w.heap.size = g := ⟨_, rfl⟩
  rw [hg] at hz
  have hgc : g ≠ c := by omega
  go_enter Try.func85, Try.ntmps85
  go_wp2_with fail
  refine (pick_c 41 c n _ H.out (by omega)).mono ?_
  rintro e w1 ⟨x, rfl, hx, hcu, hch⟩
  have H1 := Lib.hid hcu; have F1 := Lib.hid (F.out.trans hch)
  have o1 := hz.chg hch hgc
  clear hcu hch hz H F
  have e1 : IntKind.i64.wrap (x - 20) = x - 20 := i64_small (by omega) (by omega)
  go_wp2_with fail
  refine (pick_c 12 c (n + 2) _ H1.out (by omega)).mono ?_
  rintro e w2 ⟨y, rfl, hy, hcu, hch⟩
  have H2 := Lib.hid hcu; have F2 := Lib.hid (F1.out.trans hch)
  have o2 := o1.chg hch hgc
  clear hcu hch o1 H1 F1
  have e2 : IntKind.i64.wrap (1 + y) = 1 + y := i64_small (by omega) (by omega)
  obtain ⟨hm, hm1, hm2⟩ := mk_small (n := x - 20) (d := 1 + y) (by omega) (by omega) (by omega)
  have hsm := Lib.hid (show SmallF (lowF (x - 20) (1 + y)) from ⟨(mkB_t.1 hm).2, by omega, by omega⟩)
  have cm := fun w => frMake_c (x - 20) (1 + y) w (by omega) (by omega)
  rw [hm, frR_t] at cm
  generalize lowF (x - 20) (1 + y) = L at cm hsm
  clear hm hm1 hm2
  obtain ⟨X, Y⟩ := L
  unfold frV at cm
  simp only at cm
  have CM := Lib.hid cm; clear cm hx hy
  go_wp2_with fail
  refine (CM.out _).mono ?_
  rintro e w3 ⟨rfl, hw3⟩
  have H3 := Lib.hid (H2.out.below (hw3.alloc hw3.size (.cells #[.int .i64 X, .int .i64 Y] 38)))
  have F3 := Lib.hid (F2.out.trans (Chg.of_below (hw3.alloc hw3.size (.cells #[.int .i64 X, .int .i64 Y] 38))))
  have o3 := (o2.below hw3).alloc (.cells #[.int .i64 X, .int .i64 Y] 38)
  have p3 := FrO.new w3 X Y rfl
  clear o2 H2 F2 hw3
  obtain ⟨x0, x1⟩ := o3.at
  obtain ⟨y0, y1⟩ := o3.fr
  obtain ⟨z0, z1⟩ := p3.at
  go_wp2_with fail
  obtain ⟨W, hW, ⟨q0, q1⟩, hU, hC⟩ := fr2_endD (x := X) (y := Y) o3 H3.out F3.out (by omega) hcl
  unfold fr2 at hW
  rw [hW]
  exact bodyPost_ret (v := .agg #[.int .i64 X, .int .i64 Y]) (by simp [results, Try.results85, go_sem, q0, q1]) rfl ⟨⟨X, Y⟩, rfl, hsm.out, hU.mono (by omega), hC⟩
set_option maxHeartbeats 3200000 in
set_option maxRecDepth 100000 in
theorem anyFrac_c (c n : Nat) (w : World) (h : Cur w c n) (hn : n ≤ 4611686018427360000) :
    Calls Try.prog 75 #[.pointer (some ⟨c, 0, none⟩)] w (SomeF (fun _ => True) c (n + 6) w) := by
  have hcl := h.lt
  have hz := FrO.new w 0 0 rfl
  have h0 := h.below ((Below.refl _ _).alloc (Nat.le_refl _) (.cells #[.int .i64 0, .int .i64 0] 38))
  have f0 := Chg.alloc c w (.cells #[.int .i64 0, .int .i64 0] 38)
  have H := Lib.hid h0; have F := Lib.hid f0; clear h h0 f0
  obtain ⟨g, hg⟩ : ∃ g, w.heap.size = g := ⟨_, rfl⟩
  rw [hg] at hz
  have hgc : g ≠ c := by omega
  go_enter Try.func75, Try.ntmps75
  go_wp2_with fail
  refine (pick_c 24 c n _ H.out (by omega)).mono ?_
  rintro e w1 ⟨t, rfl, ht, hcu, hch⟩
  have H1 := Lib.hid hcu; have F1 := Lib.hid (F.out.trans hch)
  have o1 := hz.chg hch hgc
  clear hcu hch hz H F ht
  by_cases h1 : t = 0
  case pos =>
    subst h1
    have hl1 := H1.out.lt
    have H2 := Lib.hid (H1.out.below ((Below.refl _ _).alloc (Nat.le_refl _) (.cells #[.int .i64 1000000000, .int .i64 (-1000000000), .int .i64 1000000001, .int .i64 (-9223372036854775808)] 3)))
    have F2 := Lib.hid (F1.out.trans (Chg.alloc c w1 (.cells #[.int .i64 1000000000, .int .i64 (-1000000000), .int .i64 1000000001, .int .i64 (-9223372036854775808)] 3)))
    have o2 := o1.alloc (.cells #[.int .i64 1000000000, .int .i64 (-1000000000), .int .i64 1000000001, .int .i64 (-9223372036854775808)] 3)
    go_wp2_with fail
    refine (among_c w1.heap.size 4 [1000000000, (-1000000000), 1000000001, (-9223372036854775808)] c (n + 2) _ H2.out (by omega) (by simp) (by simp) (by omega) (Own.newA w1 _ 3 rfl)).mono ?_
    rintro e w3 ⟨z, rfl, -, hcu, hch⟩
    have H3 := Lib.hid hcu; have F3 := Lib.hid (F2.out.trans hch)
    have o3 := o2.chg hch hgc
    clear hcu hch o1 o2 H1 F1 H2 F2
    obtain ⟨x0, x1⟩ := o3.at
    obtain ⟨y0, y1⟩ := o3.fr
    go_wp2_with fail
    obtain ⟨W, hW, ⟨q0, q1⟩, hU, hC⟩ := fr2_endD (x := z) (y := 1) o3 H3.out F3.out (by omega) hcl
    unfold fr2 at hW
    rw [hW]
    exact bodyPost_ret (v := .agg #[.int .i64 z, .int .i64 1]) (by simp [results, Try.results75, go_sem, q0, q1]) rfl ⟨⟨z, 1⟩, rfl, trivial, hU.mono (by omega), hC⟩
  case neg =>
    have e1 : (t == 0) = false := beq_eq_false_iff_ne.2 h1
    by_cases h2 : t = 1
    case pos =>
      subst h2
      clear e1 h1
      have hl1 := H1.out.lt
      have H2 := Lib.hid (H1.out.below ((Below.refl _ _).alloc (Nat.le_refl _) (.cells #[.int .i64 1000000000, .int .i64 999999999, .int .i64 1000000001, .int .i64 0, .int .i64 (-1)] 3)))
      have F2 := Lib.hid (F1.out.trans (Chg.alloc c w1 (.cells #[.int .i64 1000000000, .int .i64 999999999, .int .i64 1000000001, .int .i64 0, .int .i64 (-1)] 3)))
      have o2 := o1.alloc (.cells #[.int .i64 1000000000, .int .i64 999999999, .int .i64 1000000001, .int .i64 0, .int .i64 (-1)] 3)
      go_wp2_with fail
      refine (among_c w1.heap.size 5 [1000000000, 999999999, 1000000001, 0, (-1)] c (n + 2) _ H2.out (by omega) (by simp) (by simp) (by omega) (Own.newA w1 _ 3 rfl)).mono ?_
      rintro e w3 ⟨z, rfl, -, hcu, hch⟩
      have H3 := Lib.hid hcu; have F3 := Lib.hid (F2.out.trans hch)
      have o3 := o2.chg hch hgc
      clear hcu hch o1 o2 H1 F1 H2 F2
      obtain ⟨x0, x1⟩ := o3.at
      obtain ⟨y0, y1⟩ := o3.fr
      go_wp2_with fail
      obtain ⟨W, hW, ⟨q0, q1⟩, hU, hC⟩ := fr2_endD (x := 1) (y := z) o3 H3.out F3.out (by omega) hcl
      unfold fr2 at hW
      rw [hW]
      exact bodyPost_ret (v := .agg #[.int .i64 1, .int .i64 z]) (by simp [results, Try.results75, go_sem, q0, q1]) rfl ⟨⟨1, z⟩, rfl, trivial, hU.mono (by omega), hC⟩
    case neg =>
      have e2 : (t == 1) = false := beq_eq_false_iff_ne.2 h2
      by_cases h3 : t = 2
      case pos =>
        subst h3
        clear e1 h1 e2 h2
        have hl1 := H1.out.lt
        have H2 := Lib.hid (H1.out.below ((Below.refl _ _).alloc (Nat.le_refl _) (.cells #[.int .i64 2, .int .i64 0] 3)))
        have F2 := Lib.hid (F1.out.trans (Chg.alloc c w1 (.cells #[.int .i64 2, .int .i64 0] 3)))
        have o2 := o1.alloc (.cells #[.int .i64 2, .int .i64 0] 3)
        go_wp2_with fail
        refine (among_c w1.heap.size 2 [2, 0] c (n + 2) _ H2.out (by omega) (by simp) (by simp) (by omega) (Own.newA w1 _ 3 rfl)).mono ?_
        rintro e w3 ⟨z, rfl, -, hcu, hch⟩
        have H3 := Lib.hid hcu; have F3 := Lib.hid (F2.out.trans hch)
        have o3 := o2.chg hch hgc
        clear hcu hch o1 o2 H1 F1 H2 F2
        obtain ⟨x0, x1⟩ := o3.at
        obtain ⟨y0, y1⟩ := o3.fr
        go_wp2_with fail
        obtain ⟨W, hW, ⟨q0, q1⟩, hU, hC⟩ := fr2_endD (x := z) (y := 4) o3 H3.out F3.out (by omega) hcl
        unfold fr2 at hW
        rw [hW]
        exact bodyPost_ret (v := .agg #[.int .i64 z, .int .i64 4]) (by simp [results, Try.results75, go_sem, q0, q1]) rfl ⟨⟨z, 4⟩, rfl, trivial, hU.mono (by omega), hC⟩
      case neg =>
        have e3 : (t == 2) = false := beq_eq_false_iff_ne.2 h3
        go_wp2_with fail
        refine (frac_c c (n + 2) _ H1.out (by omega)).mono ?_
        rintro e w3 ⟨f, rfl, -, hcu, hch⟩
        obtain ⟨X, Y⟩ := f
        unfold frV
        have H3 := Lib.hid hcu; have F3 := Lib.hid (F1.out.trans hch)
        have o3 := o1.chg hch hgc
        clear hcu hch o1 H1 F1
        obtain ⟨x0, x1⟩ := o3.at
        obtain ⟨y0, y1⟩ := o3.fr
        simp only
        go_wp2_with fail
        obtain ⟨W, hW, ⟨q0, q1⟩, hU, hC⟩ := fr2_endD (x := X) (y := Y) o3 H3.out F3.out (by omega) hcl
        unfold fr2 at hW
        rw [hW]
        exact bodyPost_ret (v := .agg #[.int .i64 X, .int .i64 Y]) (by simp [results, Try.results75, go_sem, q0, q1]) rfl ⟨⟨X, Y⟩, rfl, trivial, hU.mono (by omega), hC⟩
def TwoF (w : World) (e : Ending) (w' : World) : Prop := ∃ f g : Fr, e = .returned (.tuple #[frV f, frV g]) ∧ Below w.heap.size w w'
/-- Two fractions by their cells. -/
theorem fr4_end {u w : World} {g h : Nat} {l m : Fr} {a b c d : Int} (hg : FrO w g l) (hh : FrO w h m) (hne : g ≠ h) (hb : Below u.heap.size u w) (h1 : u.heap.size ≤ g) (h2 : u.heap.size ≤ h) : ∃ W, fr2 (fr2 w g a b) h c d = W ∧ (W.cell? ⟨g, 0, none⟩ = some (.int .i64 a) ∧ W.cell? ⟨g, 1, none⟩ = some (.int .i64 b)) ∧ (W.cell? ⟨h, 0, none⟩ = some (.int .i64 c) ∧ W.cell? ⟨h, 1, none⟩ = some (.int .i64 d)) ∧ Below u.heap.size u W :=
  ⟨_, rfl, ((hg.set a b).setOther hne c d).at, ((hh.setOther (Ne.symm hne) a b).set c d).at, fr2_below (fr2_below hb h1) h2⟩
theorem anyFrac_e (c n : Nat) (w : World) (h : Cur w c n) (hn : n ≤ 4611686018427360000) :
    Calls Try.prog 75 #[.pointer (some ⟨c, 0, none⟩)] w fun e w' => ∃ x y : Int, e = .returned (.agg #[.int .i64 x, .int .i64 y]) ∧ Cur w' c (n + 6) ∧ Chg c w w' := by
  refine (anyFrac_c c n w h hn).mono ?_
  rintro e w' ⟨f, rfl, _, hu, hc⟩
  exact ⟨f.n, f.d, rfl, hu, hc⟩
end Go.Proofs.Ytekhmjhbdoigoaa
