/-
  The program's reading of a line. Printed by gen_lineQ.py.
-/
import Derived.Test.YtbkfgaibcoekgaaDoorLineW
namespace Go.Proofs.YtbkfgaibcoekgaaDoor
open Go.RowKit

def numsL (l : List UInt8) : Ln := ⟨numF l 0, numF l 1, numF l 2⟩
def parseB (l : List UInt8) : Bool := goodF l && (lnB (numsL l) && decide (lineTxt (numsL l) = l))
def parseV (l : List UInt8) : Value := .tuple #[lnV (if parseB l = true then numsL l else Ln.z), .bool (parseB l)]

set_option maxHeartbeats 6400000 in
set_option maxRecDepth 100000 in
theorem iParseLine_c (l : List UInt8) (w : World) (hp : PB l) (hL : LaidL w) :
    Calls Tryd.prog 13 #[.string ⟨l.toArray⟩] w fun e w' => e = .returned (parseV l) ∧ Below w.heap.size w w' := by
  have hbA : Below w.heap.size w (w.alloc (.cells #[.int .i64 0, .int .i64 0, .int .i64 0] 24)) := (Below.refl _ _).alloc (Nat.le_refl _) _
  have hbB : Below w.heap.size w ((w.alloc (.cells #[.int .i64 0, .int .i64 0, .int .i64 0] 24)).alloc (.cells #[.string ⟨#[32]⟩, .string ⟨#[32]⟩] 9)) := hbA.alloc hbA.size _
  have osp : Own ((w.alloc (.cells #[.int .i64 0, .int .i64 0, .int .i64 0] 24)).alloc (.cells #[.string ⟨#[32]⟩, .string ⟨#[32]⟩] 9)) (w.heap.size + 1) 9 (strs [⟨#[32]⟩, ⟨#[32]⟩]) := by
    have := Own.newA (w.alloc (.cells #[.int .i64 0, .int .i64 0, .int .i64 0] 24)) #[.string ⟨#[32]⟩, .string ⟨#[32]⟩] 9 (cs := strs [⟨#[32]⟩, ⟨#[32]⟩]) rfl
    simpa using this
  have cs := splitWhole_c l (w.heap.size + 1) _ osp hp (hL.below hbB)
  have o0 := (LnO.new w 0 0 0 rfl).alloc (.cells #[.string ⟨#[32]⟩, .string ⟨#[32]⟩] 9)
  have HL := Lib.hid hL; clear hp hL osp hbA
  have hpb : parseB l = (goodF l && (lnB (numsL l) && decide (lineTxt (numsL l) = l))) := rfl
  unfold parseV
  generalize parseB l = pb at hpb ⊢
  have cl := fun w => isLine_c (numsL l) w
  have ct := fun w h hL => lineTxt_c (numsL l) w h hL
  rw [show [numF l 0, numF l 1, numF l 2] = [(numsL l).a, (numsL l).b, (numsL l).c] from rfl] at cs
  generalize numsL l = L at cs hpb cl ct ⊢
  obtain ⟨n0, n1, n2⟩ := L
  generalize lnB ⟨n0, n1, n2⟩ = u at hpb cl ct
  generalize lineTxt ⟨n0, n1, n2⟩ = T at hpb ct
  generalize goodF l = gd at cs hpb
  unfold lnV Ln.z at *
  unfold strV at ct
  simp only at cs cl ct ⊢
  have hneq : (T == l) = decide (T = l) := Bool.eq_iff_iff.2 (by rw [beq_iff_eq, decide_eq_true_iff])
  generalize decide (T = l) = Q at hpb hneq
  have CS := Lib.hid cs; have CL := Lib.hid cl; have CT := Lib.hid ct; clear cs cl ct
  cases gd
  case false =>
    obtain rfl : pb = false := hpb
    clear hneq
    go_enter Tryd.func13, Tryd.ntmps13
    go_wp2_with fail
    refine CS.out.mono ?_
    rintro e w1 ⟨⟨v, rfl, -⟩, hw1⟩
    have o1 := o0.below hw1
    have hb1 := ball hbB hw1
    obtain ⟨x0, x1, x2⟩ := o1.at
    obtain ⟨y0, y1, y2⟩ := o1.fr
    go_wp2_with fail
    obtain ⟨W, hW, ⟨q0, q1, q2⟩, hB⟩ := ln3_end (a := 0) (b := 0) (c := 0) o1 hb1 (by omega)
    unfold ln3 at hW
    rw [hW]
    exact bodyPost_ret (v := .tuple #[.agg #[.int .i64 0, .int .i64 0, .int .i64 0], .bool false]) (by simp [results, Tryd.results13, go_sem, q0, q1, q2]) rfl ⟨rfl, hB⟩
  case true =>
    have hgk : w.heap.size ≤ w.heap.size := Nat.le_refl _
    cases u
    case false =>
      obtain rfl : pb = false := hpb
      clear hneq CT
      go_enter Tryd.func13, Tryd.ntmps13
      go_wp2_with fail
      refine CS.out.mono ?_
      rintro e w1 ⟨⟨v, rfl, hv⟩, hw1⟩
      obtain ⟨ad, cap, rfl, hrd⟩ := hv trivial
      have o1 := o0.below hw1
      have hb1 := ball hbB hw1
      have hs1 := hb1.size
      clear hv hw1 o0 hbB
      obtain ⟨b, off, rfl, hbl⟩ := hrd.shape (j := 0) (by simp)
      have d0 := hrd.at (j := 0) (by simp)
      have d1 := hrd.at (j := 1) (by simp)
      have d2 := hrd.at (j := 2) (by simp)
      simp only [Nat.add_zero, List.getD_cons_zero, List.getD_cons_succ] at d0 d1 d2
      clear hrd
      have hbk := Nat.ne_of_lt hbl
      go_wp2_with fail
      go_region_held3 (fun w' => w'.cell? ⟨b, off, none⟩ = some (.int .i64 n0) ∧ w'.cell? ⟨b, off + 1, none⟩ = some (.int .i64 n1) ∧ w'.cell? ⟨b, off + 2, none⟩ = some (.int .i64 n2)) (with_reducible repeat' (first | apply And.intro | assumption | (apply cell_set' (Nat.ne_of_lt hbl)) | apply cell_alloc' | apply cell_drew')) (fail)
      have o2 : LnO (w1.alloc (.cells #[.int .i64 n0, .int .i64 n1, .int .i64 n2] 24)).drew w.heap.size ⟨0, 0, 0⟩ := o1.alloc _
      have p2 : LnO (w1.alloc (.cells #[.int .i64 n0, .int .i64 n1, .int .i64 n2] 24)).drew w1.heap.size ⟨n0, n1, n2⟩ := LnO.new w1 n0 n1 n2 rfl
      have hb2 : Below w.heap.size w (w1.alloc (.cells #[.int .i64 n0, .int .i64 n1, .int .i64 n2] 24)).drew := (bal_alloc hb1).drew
      obtain ⟨k, hk⟩ : ∃ k, w1.heap.size = k := ⟨_, rfl⟩
      rw [hk] at p2
      clear d0 d1 d2 o1 hbk hbl hb1
      go_wp2_with fail
      generalize (w1.alloc (.cells #[.int .i64 n0, .int .i64 n1, .int .i64 n2] 24)).drew = W2 at o2 p2 hb2 ⊢
      refine (CL.out _).mono ?_
      rintro e w3 ⟨rfl, hw3⟩
      have o3 := o2.below hw3
      have p3 := p2.below hw3
      have hb3 := ball hb2 hw3
      clear o2 p2 hb2 hw3
      obtain ⟨x0, x1, x2⟩ := o3.at
      obtain ⟨y0, y1, y2⟩ := o3.fr
      obtain ⟨z0, z1, z2⟩ := p3.at
      go_wp2_with fail
      obtain ⟨W, hW, ⟨q0, q1, q2⟩, hB⟩ := ln3_end (a := 0) (b := 0) (c := 0) o3 hb3 (by omega)
      unfold ln3 at hW
      rw [hW]
      exact bodyPost_ret (v := .tuple #[.agg #[.int .i64 0, .int .i64 0, .int .i64 0], .bool false]) (by simp [results, Tryd.results13, go_sem, q0, q1, q2]) rfl ⟨rfl, hB⟩
    case true =>
      obtain rfl : pb = Q := hpb
      cases pb
      case false =>
        go_enter Tryd.func13, Tryd.ntmps13
        go_wp2_with fail
        refine CS.out.mono ?_
        rintro e w1 ⟨⟨v, rfl, hv⟩, hw1⟩
        obtain ⟨ad, cap, rfl, hrd⟩ := hv trivial
        have o1 := o0.below hw1
        have hb1 := ball hbB hw1
        have hs1 := hb1.size
        clear hv hw1 o0 hbB
        obtain ⟨b, off, rfl, hbl⟩ := hrd.shape (j := 0) (by simp)
        have d0 := hrd.at (j := 0) (by simp)
        have d1 := hrd.at (j := 1) (by simp)
        have d2 := hrd.at (j := 2) (by simp)
        simp only [Nat.add_zero, List.getD_cons_zero, List.getD_cons_succ] at d0 d1 d2
        clear hrd
        have hbk := Nat.ne_of_lt hbl
        go_wp2_with fail
        go_region_held3 (fun w' => w'.cell? ⟨b, off, none⟩ = some (.int .i64 n0) ∧ w'.cell? ⟨b, off + 1, none⟩ = some (.int .i64 n1) ∧ w'.cell? ⟨b, off + 2, none⟩ = some (.int .i64 n2)) (with_reducible repeat' (first | apply And.intro | assumption | (apply cell_set' (Nat.ne_of_lt hbl)) | apply cell_alloc' | apply cell_drew')) (fail)
        have o2 : LnO (w1.alloc (.cells #[.int .i64 n0, .int .i64 n1, .int .i64 n2] 24)).drew w.heap.size ⟨0, 0, 0⟩ := o1.alloc _
        have p2 : LnO (w1.alloc (.cells #[.int .i64 n0, .int .i64 n1, .int .i64 n2] 24)).drew w1.heap.size ⟨n0, n1, n2⟩ := LnO.new w1 n0 n1 n2 rfl
        have hb2 : Below w.heap.size w (w1.alloc (.cells #[.int .i64 n0, .int .i64 n1, .int .i64 n2] 24)).drew := (bal_alloc hb1).drew
        obtain ⟨k, hk⟩ : ∃ k, w1.heap.size = k := ⟨_, rfl⟩
        rw [hk] at p2
        clear d0 d1 d2 o1 hbk hbl hb1
        go_wp2_with fail
        generalize (w1.alloc (.cells #[.int .i64 n0, .int .i64 n1, .int .i64 n2] 24)).drew = W2 at o2 p2 hb2 ⊢
        refine (CL.out _).mono ?_
        rintro e w3 ⟨rfl, hw3⟩
        have o3 := o2.below hw3
        have p3 := p2.below hw3
        have hb3 := ball hb2 hw3
        clear o2 p2 hb2 hw3
        obtain ⟨z0, z1, z2⟩ := p3.at
        go_wp2_with fail
        refine (CT.out _ trivial (HL.out.s.below hb3)).mono ?_
        rintro e w4 ⟨rfl, hw4⟩
        have o4 := o3.below hw4
        have p4 := p3.below hw4
        have hb4 := ball hb3 hw4
        clear z0 z1 z2
        obtain ⟨x0, x1, x2⟩ := o4.at
        obtain ⟨y0, y1, y2⟩ := o4.fr
        obtain ⟨z0, z1, z2⟩ := p4.at
        go_wp2_with fail
        obtain ⟨W, hW, ⟨q0, q1, q2⟩, hB⟩ := ln3_end (a := 0) (b := 0) (c := 0) o4 hb4 (by omega)
        unfold ln3 at hW
        rw [hW]
        exact bodyPost_ret (v := .tuple #[.agg #[.int .i64 0, .int .i64 0, .int .i64 0], .bool false]) (by simp [results, Tryd.results13, go_sem, q0, q1, q2]) rfl ⟨rfl, hB⟩
      case true =>
        go_enter Tryd.func13, Tryd.ntmps13
        go_wp2_with fail
        refine CS.out.mono ?_
        rintro e w1 ⟨⟨v, rfl, hv⟩, hw1⟩
        obtain ⟨ad, cap, rfl, hrd⟩ := hv trivial
        have o1 := o0.below hw1
        have hb1 := ball hbB hw1
        have hs1 := hb1.size
        clear hv hw1 o0 hbB
        obtain ⟨b, off, rfl, hbl⟩ := hrd.shape (j := 0) (by simp)
        have d0 := hrd.at (j := 0) (by simp)
        have d1 := hrd.at (j := 1) (by simp)
        have d2 := hrd.at (j := 2) (by simp)
        simp only [Nat.add_zero, List.getD_cons_zero, List.getD_cons_succ] at d0 d1 d2
        clear hrd
        have hbk := Nat.ne_of_lt hbl
        go_wp2_with fail
        go_region_held3 (fun w' => w'.cell? ⟨b, off, none⟩ = some (.int .i64 n0) ∧ w'.cell? ⟨b, off + 1, none⟩ = some (.int .i64 n1) ∧ w'.cell? ⟨b, off + 2, none⟩ = some (.int .i64 n2)) (with_reducible repeat' (first | apply And.intro | assumption | (apply cell_set' (Nat.ne_of_lt hbl)) | apply cell_alloc' | apply cell_drew')) (fail)
        have o2 : LnO (w1.alloc (.cells #[.int .i64 n0, .int .i64 n1, .int .i64 n2] 24)).drew w.heap.size ⟨0, 0, 0⟩ := o1.alloc _
        have p2 : LnO (w1.alloc (.cells #[.int .i64 n0, .int .i64 n1, .int .i64 n2] 24)).drew w1.heap.size ⟨n0, n1, n2⟩ := LnO.new w1 n0 n1 n2 rfl
        have hb2 : Below w.heap.size w (w1.alloc (.cells #[.int .i64 n0, .int .i64 n1, .int .i64 n2] 24)).drew := (bal_alloc hb1).drew
        obtain ⟨k, hk⟩ : ∃ k, w1.heap.size = k := ⟨_, rfl⟩
        rw [hk] at p2
        clear d0 d1 d2 o1 hbk hbl hb1
        go_wp2_with fail
        generalize (w1.alloc (.cells #[.int .i64 n0, .int .i64 n1, .int .i64 n2] 24)).drew = W2 at o2 p2 hb2 ⊢
        refine (CL.out _).mono ?_
        rintro e w3 ⟨rfl, hw3⟩
        have o3 := o2.below hw3
        have p3 := p2.below hw3
        have hb3 := ball hb2 hw3
        clear o2 p2 hb2 hw3
        obtain ⟨z0, z1, z2⟩ := p3.at
        go_wp2_with fail
        refine (CT.out _ trivial (HL.out.s.below hb3)).mono ?_
        rintro e w4 ⟨rfl, hw4⟩
        have o4 := o3.below hw4
        have p4 := p3.below hw4
        have hb4 := ball hb3 hw4
        clear z0 z1 z2
        obtain ⟨x0, x1, x2⟩ := o4.at
        obtain ⟨y0, y1, y2⟩ := o4.fr
        obtain ⟨z0, z1, z2⟩ := p4.at
        go_wp2_with fail
        obtain ⟨W, hW, ⟨q0, q1, q2⟩, hB⟩ := ln3_end (a := n0) (b := n1) (c := n2) o4 hb4 (by omega)
        unfold ln3 at hW
        rw [hW]
        exact bodyPost_ret (v := .tuple #[.agg #[.int .i64 n0, .int .i64 n1, .int .i64 n2], .bool true]) (by simp [results, Tryd.results13, go_sem, q0, q1, q2]) rfl ⟨rfl, hB⟩

end Go.Proofs.YtbkfgaibcoekgaaDoor
