/-
  Rays that the cursor draws. Printed by gen_stV.py.
-/
import Derived.Test.YtlplodkabeiimaaStU
import Derived.Test.YtlplodkabeiimaaOpenB
namespace Go.Proofs.Ytlplodkabeiimaa
open Go.RowKit

def SomeY (P : Ry → Prop) (c n : Nat) (w : World) (e : Ending) (w' : World) : Prop := ∃ r : Ry, e = .returned (ryV r) ∧ P r ∧ Cur w' c n ∧ Chg c w w'
theorem RyO.chg {w w' : World} {g c : Nat} {r : Ry} (h : RyO w g r) (hc : Chg c w w') (hg : g ≠ c) : RyO w' g r := Own.chg h hc hg
/-- The end of a drawing function that gives a ray by its cell. -/
theorem three_endD {u w : World} {g c n : Nat} {r : Ry} {x y z : Int} (h : RyO w g r) (hu : Cur w c n) (hc : Chg c u w) (hg : u.heap.size ≤ g) (hcl : c < u.heap.size) : ∃ W, three w g x y z = W ∧ (W.cell? ⟨g, 0, none⟩ = some (.int .i64 x) ∧ W.cell? ⟨g, 1, none⟩ = some (.int .i64 y) ∧ W.cell? ⟨g, 2, none⟩ = some (.int .i64 z)) ∧ Cur W c n ∧ Chg c u W := by
  have h1 := three_chg w g x y z
  have hb : Below u.heap.size w (three w g x y z) := h1.below hg hc.size
  exact ⟨_, rfl, (h.set x y z).at, hu.under hb hcl, hc.under hb (Nat.le_refl _) h1.size⟩
def SmallY (r : Ry) : Prop := (-3 ≤ r.x ∧ r.x ≤ 3) ∧ (-3 ≤ r.y ∧ r.y ≤ 3) ∧ 1 ≤ r.w ∧ r.w ≤ 3

set_option maxHeartbeats 1600000 in
set_option maxRecDepth 100000 in
theorem ray_c (c n : Nat) (w : World) (h : Cur w c n) (hn : n ≤ 4611686018427370000) :
    Calls Try.prog 66 #[.pointer (some ⟨c, 0, none⟩)] w (SomeY SmallY c (n + 6) w) := by
  have hcl := h.lt
  have hz := RyO.new w 0 0 0 rfl
  have h0 := h.below ((Below.refl _ _).alloc (Nat.le_refl _) (.cells #[.int .i64 0, .int .i64 0, .int .i64 0] 35))
  have f0 := Chg.alloc c w (.cells #[.int .i64 0, .int .i64 0, .int .i64 0] 35)
  have H := Lib.hid h0; have F := Lib.hid f0; clear h h0 f0
  obtain ⟨g, hg⟩ : ∃ g, w.heap.size = g := ⟨_, rfl⟩
  rw [hg] at hz
  have hgc : g ≠ c := by omega
  go_enter Try.func66, Try.ntmps66
  go_wp2_with fail
  refine (pick_c 7 c n _ H.out (by omega)).mono ?_
  rintro e w1 ⟨x, rfl, hx, hcu, hch⟩
  have H1 := Lib.hid hcu; have F1 := Lib.hid (F.out.trans hch)
  have o1 := hz.chg hch hgc
  clear hcu hch hz H F
  have e1 : IntKind.i64.wrap (x - 3) = x - 3 := i64_small (by omega) (by omega)
  go_wp2_with fail
  refine (pick_c 7 c (n + 2) _ H1.out (by omega)).mono ?_
  rintro e w2 ⟨y, rfl, hy, hcu, hch⟩
  have H2 := Lib.hid hcu; have F2 := Lib.hid (F1.out.trans hch)
  have o2 := o1.chg hch hgc
  clear hcu hch o1 H1 F1
  have e2 : IntKind.i64.wrap (y - 3) = y - 3 := i64_small (by omega) (by omega)
  have CP := Lib.hid (fun w => sPrimitiveRay_c (x - 3) (y - 3) w)
  have xb := tdiv_in (x - 3) (gcdN (x - 3) (y - 3))
  have yb := tdiv_in (y - 3) (gcdN (x - 3) (y - 3))
  have hbd : (-3 ≤ (primR (x - 3) (y - 3)).x ∧ (primR (x - 3) (y - 3)).x ≤ 3) ∧ -3 ≤ (primR (x - 3) (y - 3)).y ∧ (primR (x - 3) (y - 3)).y ≤ 3 := by unfold primR; simp only; omega
  clear xb yb
  generalize primR (x - 3) (y - 3) = p at CP hbd
  generalize stepsB (x - 3) (y - 3) = B at CP
  obtain ⟨X, Y, G⟩ := p
  simp only at hbd
  have HBD := Lib.hid hbd; clear hbd
  unfold rayR at CP
  cases B
  case false =>
    rw [show (if false = true then (⟨X, Y, G⟩ : Ry) else Ry.z) = ⟨0, 0, 0⟩ from rfl] at CP
    unfold ryV at CP
    simp only at CP
    go_wp2_with fail
    refine (CP.out _).mono ?_
    rintro e w3 ⟨rfl, hw3⟩
    have hba := hw3.alloc hw3.size (.cells #[.int .i64 0, .int .i64 0, .int .i64 0] 35)
    have H3 := Lib.hid (H2.out.below hba)
    have F3 := Lib.hid (F2.out.trans (Chg.of_below hba))
    have o3 := o2.below hba
    have p3 := RyO.new w3 0 0 0 rfl
    obtain ⟨k, hk⟩ : ∃ k, w3.heap.size = k := ⟨_, rfl⟩
    rw [hk] at p3
    have hgk : g < k := by have := o2.at; have := Own.lt o2; have := hw3.size; omega
    have hck : c < k := by have := F2.out.size; have := hw3.size; omega
    have hwk : w.heap.size ≤ k := by have := F2.out.size; have := hw3.size; omega
    clear o2 H2 F2 hw3 hba
    go_upto_region 3 with fail
    generalize w3.alloc (.cells #[.int .i64 0, .int .i64 0, .int .i64 0] 35) = w4 at H3 F3 o3 p3 ⊢
    obtain ⟨y0, y1, y2⟩ := p3.fr
    obtain ⟨z0, z1, z2⟩ := p3.at
    have p4 := p3.set 1 0 0
    have hc4 := three_chg w4 k 1 0 0
    go_upto_region 4 with fail
    have hb4 : Below k w4 (three w4 k 1 0 0) := hc4.below (Nat.le_refl _) (by have := Own.lt p3; omega)
    have H4 := Lib.hid (H3.out.under hb4 hck)
    have F4 := Lib.hid (F3.out.under hb4 hwk hc4.size)
    have o4 := RyO.chg o3 hc4 (by omega)
    unfold three at H4 F4 o4 p4
    generalize ((w4.setCell ⟨k, 0, none⟩ (.int .i64 1)).setCell ⟨k, 1, none⟩ (.int .i64 0)).setCell ⟨k, 2, none⟩ (.int .i64 0) = w5 at H4 F4 o4 p4 ⊢
    clear p3 o3 H3 F3 hb4 hc4 y0 y1 y2 z0 z1 z2
    go_wp2_with fail
    refine (pick_c 3 c (n + 4) _ H4.out (by omega)).mono ?_
    rintro e w6 ⟨z, rfl, hz, hcu, hch⟩
    have H6 := Lib.hid hcu; have F6 := Lib.hid (F4.out.trans hch)
    have o6 := RyO.chg o4 hch hgc
    have p6 := RyO.chg p4 hch (by omega)
    clear hcu hch o4 p4 H4 F4
    have e3 : IntKind.i64.wrap (1 + z) = 1 + z := i64_small (by omega) (by omega)
    obtain ⟨y0, y1, y2⟩ := RyO.fr p6
    obtain ⟨z0, z1, z2⟩ := RyO.at p6
    have p7 := Own.set p6 2 (.int .i64 (1 + z))
    have hc7 := Chg.set k 2 w6 (.int .i64 (1 + z))
    have hb7 : Below k w6 (w6.setCell ⟨k, 2, none⟩ (.int .i64 (1 + z))) := hc7.below (Nat.le_refl _) (by have := Own.lt p6; omega)
    have H7 := Lib.hid (H6.out.under hb7 hck)
    have F7 := Lib.hid (F6.out.under hb7 hwk hc7.size)
    have o7 := RyO.chg o6 hc7 (by omega)
    go_upto_region 5 with fail
    generalize w6.setCell ⟨k, 2, none⟩ (.int .i64 (1 + z)) = w7 at H7 F7 o7 p7 ⊢
    clear p6 o6 H6 F6 hb7 hc7 y0 y1 y2 z0 z1 z2
    have r7 : RyO w7 k ⟨1, 0, 1 + z⟩ := p7
    obtain ⟨z0, z1, z2⟩ := r7.at
    obtain ⟨x0, x1, x2⟩ := RyO.at o7
    obtain ⟨y0, y1, y2⟩ := RyO.fr o7
    go_wp2_with fail
    obtain ⟨W, hW, ⟨q0, q1, q2⟩, hU, hC⟩ := three_endD (x := 1) (y := 0) (z := 1 + z) o7 H7.out F7.out (by omega) hcl
    unfold three at hW
    rw [hW]
    exact bodyPost_ret (v := .agg #[.int .i64 (1), .int .i64 (0), .int .i64 (1 + z)]) (by simp [results, Try.results66, go_sem, q0, q1, q2]) rfl ⟨⟨1, 0, 1 + z⟩, rfl, by (have := HBD.out; unfold SmallY; simp only; omega), hU.mono (by omega), hC⟩

  case true =>
    rw [show (if true = true then (⟨X, Y, G⟩ : Ry) else Ry.z) = ⟨X, Y, G⟩ from rfl] at CP
    unfold ryV at CP
    simp only at CP
    go_wp2_with fail
    refine (CP.out _).mono ?_
    rintro e w3 ⟨rfl, hw3⟩
    have hba := hw3.alloc hw3.size (.cells #[.int .i64 X, .int .i64 Y, .int .i64 G] 35)
    have H3 := Lib.hid (H2.out.below hba)
    have F3 := Lib.hid (F2.out.trans (Chg.of_below hba))
    have o3 := o2.below hba
    have p3 := RyO.new w3 X Y G rfl
    obtain ⟨k, hk⟩ : ∃ k, w3.heap.size = k := ⟨_, rfl⟩
    rw [hk] at p3
    have hgk : g < k := by have := o2.at; have := Own.lt o2; have := hw3.size; omega
    have hck : c < k := by have := F2.out.size; have := hw3.size; omega
    have hwk : w.heap.size ≤ k := by have := F2.out.size; have := hw3.size; omega
    clear o2 H2 F2 hw3 hba
    go_upto_region 4 with fail
    generalize w3.alloc (.cells #[.int .i64 X, .int .i64 Y, .int .i64 G] 35) = w4 at H3 F3 o3 p3 ⊢
    obtain ⟨y0, y1, y2⟩ := p3.fr
    obtain ⟨z0, z1, z2⟩ := p3.at
    have p4 := p3
    have H4 := H3; have F4 := F3; have o4 := o3
    obtain ⟨w5, rfl⟩ : ∃ w5, w5 = w4 := ⟨_, rfl⟩
    clear p3 o3 H3 F3 y0 y1 y2 z0 z1 z2
    go_wp2_with fail
    refine (pick_c 3 c (n + 4) _ H4.out (by omega)).mono ?_
    rintro e w6 ⟨z, rfl, hz, hcu, hch⟩
    have H6 := Lib.hid hcu; have F6 := Lib.hid (F4.out.trans hch)
    have o6 := RyO.chg o4 hch hgc
    have p6 := RyO.chg p4 hch (by omega)
    clear hcu hch o4 p4 H4 F4
    have e3 : IntKind.i64.wrap (1 + z) = 1 + z := i64_small (by omega) (by omega)
    obtain ⟨y0, y1, y2⟩ := RyO.fr p6
    obtain ⟨z0, z1, z2⟩ := RyO.at p6
    have p7 := Own.set p6 2 (.int .i64 (1 + z))
    have hc7 := Chg.set k 2 w6 (.int .i64 (1 + z))
    have hb7 : Below k w6 (w6.setCell ⟨k, 2, none⟩ (.int .i64 (1 + z))) := hc7.below (Nat.le_refl _) (by have := Own.lt p6; omega)
    have H7 := Lib.hid (H6.out.under hb7 hck)
    have F7 := Lib.hid (F6.out.under hb7 hwk hc7.size)
    have o7 := RyO.chg o6 hc7 (by omega)
    go_upto_region 5 with fail
    generalize w6.setCell ⟨k, 2, none⟩ (.int .i64 (1 + z)) = w7 at H7 F7 o7 p7 ⊢
    clear p6 o6 H6 F6 hb7 hc7 y0 y1 y2 z0 z1 z2
    have r7 : RyO w7 k ⟨X, Y, 1 + z⟩ := p7
    obtain ⟨z0, z1, z2⟩ := r7.at
    obtain ⟨x0, x1, x2⟩ := RyO.at o7
    obtain ⟨y0, y1, y2⟩ := RyO.fr o7
    go_wp2_with fail
    obtain ⟨W, hW, ⟨q0, q1, q2⟩, hU, hC⟩ := three_endD (x := X) (y := Y) (z := 1 + z) o7 H7.out F7.out (by omega) hcl
    unfold three at hW
    rw [hW]
    exact bodyPost_ret (v := .agg #[.int .i64 (X), .int .i64 (Y), .int .i64 (1 + z)]) (by simp [results, Try.results66, go_sem, q0, q1, q2]) rfl ⟨⟨X, Y, 1 + z⟩, rfl, by (have := HBD.out; unfold SmallY; simp only; omega), hU.mono (by omega), hC⟩

end Go.Proofs.Ytlplodkabeiimaa
