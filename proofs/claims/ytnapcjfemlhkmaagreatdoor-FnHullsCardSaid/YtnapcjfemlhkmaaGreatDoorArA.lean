/-
  Points that the cursor draws. By an AI agent.
-/
import Derived.Test.YtnapcjfemlhkmaaGreatDoorLaws
import Derived.Test.YtnapcjfemlhkmaaGreatDoorHull
namespace Go.Proofs.YtnapcjfemlhkmaaGreatDoor
open Go.RowKit

/-- A point in a cell of one's own. -/
def PtO (w : World) (g : Nat) (p : Pt) : Prop := Own w g 30 [.int .i64 p.x, .int .i64 p.y]
theorem PtO.new (w : World) (a b : Int) {g : Nat} (hg : g = w.heap.size) : PtO (w.alloc (.cells #[.int .i64 a, .int .i64 b] 30)) g ⟨a, b⟩ := by subst hg; exact Own.newA w _ _ rfl
theorem PtO.below {w w' : World} {g : Nat} {p : Pt} (h : PtO w g p) (hb : Below w.heap.size w w') : PtO w' g p := Own.belowAll h hb
theorem PtO.chg {w w' : World} {g c : Nat} {p : Pt} (h : PtO w g p) (hc : Chg c w w') (hg : g ≠ c) : PtO w' g p := Own.chg h hc hg
theorem PtO.at {w : World} {g : Nat} {a b : Int} (h : PtO w g ⟨a, b⟩) : w.cell? ⟨g, 0, none⟩ = some (.int .i64 a) ∧ w.cell? ⟨g, 1, none⟩ = some (.int .i64 b) := ⟨Own.cell? h rfl, Own.cell? h rfl⟩
theorem PtO.fr {w : World} {g : Nat} {p : Pt} (h : PtO w g p) : w.frozen? ⟨g, 0, none⟩ = false ∧ w.frozen? ⟨g, 1, none⟩ = false := ⟨Own.frozen h 0, Own.frozen h 1⟩
def two (w : World) (g : Nat) (a b : Int) : World := (w.setCell ⟨g, 0, none⟩ (.int .i64 a)).setCell ⟨g, 1, none⟩ (.int .i64 b)
theorem PtO.set {w : World} {g : Nat} {p : Pt} (h : PtO w g p) (a b : Int) : PtO (two w g a b) g ⟨a, b⟩ := (Own.set h 0 (.int .i64 a)).set 1 (.int .i64 b)
theorem two_chg (w : World) (g : Nat) (a b : Int) : Chg g w (two w g a b) := (Chg.set g 0 w (.int .i64 a)).trans (Chg.set g 1 _ (.int .i64 b))
/-- After a store into a cell of one's own: what the cursor has. -/
theorem two_end {u w : World} {g c n : Nat} {p : Pt} {x y : Int} (h : PtO w g p) (hu : Cur w c n) (hc : Chg c u w) (hg : u.heap.size ≤ g) (hcl : c < u.heap.size) : ∃ W, two w g x y = W ∧ PtO W g ⟨x, y⟩ ∧ Cur W c n ∧ Chg c u W := by
  have h1 := two_chg w g x y
  have hb : Below u.heap.size w (two w g x y) := h1.below hg hc.size
  exact ⟨_, rfl, h.set x y, hu.under hb hcl, hc.under hb (Nat.le_refl _) h1.size⟩
def SomeP (P : Pt → Prop) (c n : Nat) (w : World) (e : Ending) (w' : World) : Prop := ∃ x y : Int, e = .returned (.agg #[.int .i64 x, .int .i64 y]) ∧ P ⟨x, y⟩ ∧ Cur w' c n ∧ Chg c w w'
def SmallP (p : Pt) : Prop := (-4 ≤ p.x ∧ p.x ≤ 4) ∧ -4 ≤ p.y ∧ p.y ≤ 4

set_option maxHeartbeats 1600000 in
set_option maxRecDepth 100000 in
theorem point_c (c n : Nat) (w : World) (h : Cur w c n) (hn : n ≤ 4611686018427370000) :
    Calls Tryz.prog 54 #[.pointer (some ⟨c, 0, none⟩)] w (SomeP SmallP c (n + 4) w) := by
  have hcl := h.lt
  have hz := PtO.new w 0 0 rfl
  have h0 := h.below ((Below.refl _ _).alloc (Nat.le_refl _) (.cells #[.int .i64 0, .int .i64 0] 30))
  have f0 := Chg.alloc c w (.cells #[.int .i64 0, .int .i64 0] 30)
  have H := Lib.hid h0; have F := Lib.hid f0; clear h h0 f0
  obtain ⟨g, hg⟩ : ∃ g, w.heap.size = g := ⟨_, rfl⟩
  rw [hg] at hz
  have hgc : g ≠ c := by omega
  go_enter Tryz.func54, Tryz.ntmps54
  go_wp2_with fail
  refine (pick_c 9 c n _ H.out (by omega)).mono ?_
  rintro e w1 ⟨x, rfl, hx, hcu, hch⟩
  have H1 := Lib.hid hcu; have F1 := Lib.hid (F.out.trans hch)
  have o1 := hz.chg hch hgc
  clear hcu hch hz H F
  have e1 : IntKind.i64.wrap (x - 4) = x - 4 := i64_small (by omega) (by omega)
  go_wp2_with fail
  refine (pick_c 9 c (n + 2) _ H1.out (by omega)).mono ?_
  rintro e w2 ⟨y, rfl, hy, hcu, hch⟩
  have H2 := Lib.hid hcu; have F2 := Lib.hid (F1.out.trans hch)
  have o2 := o1.chg hch hgc
  clear hcu hch o1 H1 F1
  have e2 : IntKind.i64.wrap (y - 4) = y - 4 := i64_small (by omega) (by omega)
  obtain ⟨z0, z1⟩ := o2.at
  obtain ⟨y0, y1⟩ := o2.fr
  go_wp2_with fail
  obtain ⟨W, hW, hq, hU, hC⟩ := two_end (x := x - 4) (y := y - 4) o2 H2.out F2.out (by omega) hcl
  obtain ⟨q0, q1⟩ := hq.at
  unfold two at hW
  rw [hW]
  exact bodyPost_ret (v := .agg #[.int .i64 (x - 4), .int .i64 (y - 4)]) (by simp [results, Tryz.results54, go_sem, q0, q1]) rfl ⟨_, _, rfl, by unfold SmallP; simp only; omega, hU, hC⟩

set_option maxHeartbeats 1600000 in
set_option maxRecDepth 100000 in
theorem anyPoint_c (c n : Nat) (w : World) (h : Cur w c n) (hn : n ≤ 4611686018427360000) :
    Calls Tryz.prog 43 #[.pointer (some ⟨c, 0, none⟩)] w (SomeP (fun _ => True) c (n + 8) w) := by
  have hcl := h.lt
  have hz := PtO.new w 0 0 rfl
  have h0 := h.below ((Below.refl _ _).alloc (Nat.le_refl _) (.cells #[.int .i64 0, .int .i64 0] 30))
  have f0 := Chg.alloc c w (.cells #[.int .i64 0, .int .i64 0] 30)
  have H := Lib.hid h0; have F := Lib.hid f0; clear h h0 f0
  obtain ⟨g, hg⟩ : ∃ g, w.heap.size = g := ⟨_, rfl⟩
  rw [hg] at hz
  have hgc : g ≠ c := by omega
  go_enter Tryz.func43, Tryz.ntmps43
  go_wp2_with fail
  refine (point_c c n _ H.out (by omega)).mono ?_
  rintro e w1 ⟨px, py, rfl, hp, hcu, hch⟩
  have H1 := Lib.hid hcu; have F1 := Lib.hid (F.out.trans hch)
  have o1 := hz.chg hch hgc
  clear hcu hch hz H F
  have pW := PtO.new w1 px py rfl
  have bW := (Below.refl w1.heap.size w1).alloc (Nat.le_refl _) (.cells #[.int .i64 px, .int .i64 py] 30)
  go_upto_region 2 with fail
  generalize hW : w1.alloc (.cells #[.int .i64 px, .int .i64 py] 30) = W at pW bW ⊢
  clear hW
  have H2 := Lib.hid (H1.out.below bW); have F2 := Lib.hid (F1.out.trans (Chg.of_below bW))
  have o2 := o1.below bW
  obtain ⟨k, hk⟩ : ∃ k, w1.heap.size = k := ⟨_, rfl⟩
  rw [hk] at pW ⊢
  have hgk : g ≠ k := by have := Own.lt o1; omega
  have hkc : k ≠ c := by have := F1.out.size; omega
  have hwk : w.heap.size ≤ k := by have := F1.out.size; omega
  clear o1 H1 F1 bW
  go_wp2_with fail
  refine (pick_c 30 c (n + 4) _ H2.out (by omega)).mono ?_
  rintro e w3 ⟨x, rfl, hx, hcu, hch⟩
  have H3 := Lib.hid hcu; have F3 := Lib.hid (F2.out.trans hch)
  have o3 := o2.chg hch hgc
  have p3 := pW.chg hch hkc
  clear hcu hch o2 pW H2 F2
  by_cases h1 : x = 0
  case pos =>
      subst h1
      go_wp2_with fail
      have HU := Lib.hid (H3.out.below ((Below.refl _ _).alloc (Nat.le_refl _) (.cells #[.int .i64 100, .int .i64 (-100), .int .i64 101, .int .i64 (-9223372036854775808)] 3)))
      have HF := Lib.hid (F3.out.trans (Chg.alloc c w3 (.cells #[.int .i64 100, .int .i64 (-100), .int .i64 101, .int .i64 (-9223372036854775808)] 3)))
      have o4 := o3.below ((Below.refl _ _).alloc (Nat.le_refl _) (.cells #[.int .i64 100, .int .i64 (-100), .int .i64 101, .int .i64 (-9223372036854775808)] 3))
      have p4 := p3.below ((Below.refl _ _).alloc (Nat.le_refl _) (.cells #[.int .i64 100, .int .i64 (-100), .int .i64 101, .int .i64 (-9223372036854775808)] 3))
      have hl12 := H3.out.lt
      refine (among_c w3.heap.size 4 [100, -100, 101, -9223372036854775808] c (n + 6) (w3.alloc (.cells #[.int .i64 100, .int .i64 (-100), .int .i64 101, .int .i64 (-9223372036854775808)] 3)) HU.out (by omega) (by simp) (by simp) (by omega) (Own.newA w3 _ 3 rfl)).mono ?_
      rintro e w5 ⟨v, rfl, _, hcu, hch⟩
      have o5 := o4.chg hch hgc
      have p5 := p4.chg hch hkc
      have H5 := Lib.hid hcu; have F5 := Lib.hid (HF.out.trans hch)
      clear hcu hch HU HF o4 p4 o3 p3 H3 F3
      obtain ⟨z0, z1⟩ := p5.at
      obtain ⟨y0, y1⟩ := p5.fr
      have p6 := Own.set p5 0 (.int .i64 v)
      have hc6 := Chg.set k 0 w5 (.int .i64 v)
      have hb6 : Below w.heap.size w5 (w5.setCell ⟨k, 0, none⟩ (.int .i64 v)) := hc6.below hwk (by have := F5.out.size; omega)
      have o6 := o5.chg hc6 hgk
      have H6 := Lib.hid (H5.out.under hb6 hcl)
      have F6 := Lib.hid (F5.out.under hb6 (Nat.le_refl _) hc6.size)
      go_upto_region 7 with fail
      generalize w5.setCell ⟨k, 0, none⟩ (.int .i64 v) = w6 at H6 F6 o6 p6 ⊢
      clear p5 o5 H5 F5 hb6 hc6 y0 y1 z0 z1
      have r6 : PtO w6 k ⟨v, py⟩ := p6
      obtain ⟨z0, z1⟩ := r6.at
      obtain ⟨y0, y1⟩ := o6.fr
      obtain ⟨x0, x1⟩ := o6.at
      go_wp2_with fail
      obtain ⟨W, hW, hq, hU, hC⟩ := two_end (x := v) (y := py) o6 H6.out F6.out (by omega) hcl
      obtain ⟨q0, q1⟩ := hq.at
      unfold two at hW
      rw [hW]
      exact bodyPost_ret (v := .agg #[.int .i64 (v), .int .i64 (py)]) (by simp [results, Tryz.results43, go_sem, q0, q1]) rfl ⟨_, _, rfl, trivial, hU.mono (by omega), hC⟩
  case neg =>
    have e1 : (x == 0) = false := beq_eq_false_iff_ne.2 h1
    by_cases h2 : x = 1
    case pos =>
      subst h2
      go_wp2_with fail
      have HU := Lib.hid (H3.out.below ((Below.refl _ _).alloc (Nat.le_refl _) (.cells #[.int .i64 100, .int .i64 (-100), .int .i64 (-101), .int .i64 9223372036854775807] 3)))
      have HF := Lib.hid (F3.out.trans (Chg.alloc c w3 (.cells #[.int .i64 100, .int .i64 (-100), .int .i64 (-101), .int .i64 9223372036854775807] 3)))
      have o4 := o3.below ((Below.refl _ _).alloc (Nat.le_refl _) (.cells #[.int .i64 100, .int .i64 (-100), .int .i64 (-101), .int .i64 9223372036854775807] 3))
      have p4 := p3.below ((Below.refl _ _).alloc (Nat.le_refl _) (.cells #[.int .i64 100, .int .i64 (-100), .int .i64 (-101), .int .i64 9223372036854775807] 3))
      have hl12 := H3.out.lt
      refine (among_c w3.heap.size 4 [100, -100, -101, 9223372036854775807] c (n + 6) (w3.alloc (.cells #[.int .i64 100, .int .i64 (-100), .int .i64 (-101), .int .i64 9223372036854775807] 3)) HU.out (by omega) (by simp) (by simp) (by omega) (Own.newA w3 _ 3 rfl)).mono ?_
      rintro e w5 ⟨v, rfl, _, hcu, hch⟩
      have o5 := o4.chg hch hgc
      have p5 := p4.chg hch hkc
      have H5 := Lib.hid hcu; have F5 := Lib.hid (HF.out.trans hch)
      clear hcu hch HU HF o4 p4 o3 p3 H3 F3
      obtain ⟨z0, z1⟩ := p5.at
      obtain ⟨y0, y1⟩ := p5.fr
      have p6 := Own.set p5 1 (.int .i64 v)
      have hc6 := Chg.set k 1 w5 (.int .i64 v)
      have hb6 : Below w.heap.size w5 (w5.setCell ⟨k, 1, none⟩ (.int .i64 v)) := hc6.below hwk (by have := F5.out.size; omega)
      have o6 := o5.chg hc6 hgk
      have H6 := Lib.hid (H5.out.under hb6 hcl)
      have F6 := Lib.hid (F5.out.under hb6 (Nat.le_refl _) hc6.size)
      go_upto_region 7 with fail
      generalize w5.setCell ⟨k, 1, none⟩ (.int .i64 v) = w6 at H6 F6 o6 p6 ⊢
      clear p5 o5 H5 F5 hb6 hc6 y0 y1 z0 z1
      have r6 : PtO w6 k ⟨px, v⟩ := p6
      obtain ⟨z0, z1⟩ := r6.at
      obtain ⟨y0, y1⟩ := o6.fr
      obtain ⟨x0, x1⟩ := o6.at
      go_wp2_with fail
      obtain ⟨W, hW, hq, hU, hC⟩ := two_end (x := px) (y := v) o6 H6.out F6.out (by omega) hcl
      obtain ⟨q0, q1⟩ := hq.at
      unfold two at hW
      rw [hW]
      exact bodyPost_ret (v := .agg #[.int .i64 (px), .int .i64 (v)]) (by simp [results, Tryz.results43, go_sem, q0, q1]) rfl ⟨_, _, rfl, trivial, hU.mono (by omega), hC⟩
    case neg =>
      have e2 : (x == 1) = false := beq_eq_false_iff_ne.2 h2
      obtain ⟨z0, z1⟩ := p3.at
      obtain ⟨y0, y1⟩ := o3.fr
      obtain ⟨x0, x1⟩ := o3.at
      go_wp2_with fail
      obtain ⟨W, hW, hq, hU, hC⟩ := two_end (x := px) (y := py) o3 H3.out F3.out (by omega) hcl
      obtain ⟨q0, q1⟩ := hq.at
      unfold two at hW
      rw [hW]
      exact bodyPost_ret (v := .agg #[.int .i64 px, .int .i64 py]) (by simp [results, Tryz.results43, go_sem, q0, q1]) rfl ⟨_, _, rfl, trivial, hU.mono (by omega), hC⟩
end Go.Proofs.YtnapcjfemlhkmaaGreatDoor
