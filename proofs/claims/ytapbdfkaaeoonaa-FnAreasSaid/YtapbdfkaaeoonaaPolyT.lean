/-
  BoundaryPoints and InnerPoints: program and reference. Printed by gen_polyt.py.
-/
import Derived.Test.YtapbdfkaaeoonaaPyHull
namespace Go.Proofs.Ytapbdfkaaeoonaa
open Go.RowKit

theorem bndP_b {l : List Pt} (hs : AllSh l) (hl : l.length ≤ 50000) (h0 : 0 < l.length) : 0 ≤ bndP l ∧ bndP l ≤ 200000000000 := by
  unfold bndP
  split
  · omega
  · split
    · have := gP_b (edgeP_sm hs h0); omega
    · have h := gsum_b (edgesP_sm hs)
      have h2 : (edgesP l).length = l.length := tab_length _ _
      rw [h2] at h
      omega
def bpV (l : List Pt) : Value := .tuple #[.int .i64 (if polyB l = true then bndP l else 0), .bool (polyB l)]
def innP (l : List Pt) : Int := if l.length < 3 then 0 else (areaP l - bndP l + 2).tdiv 2
def ipV (l : List Pt) : Value := .tuple #[.int .i64 (if polyB l = true then innP l else 0), .bool (polyB l)]

set_option maxHeartbeats 800000 in
theorem pyGood_c (ad : Option Addr) (cap : Nat) (l : List Pt) (w : World) (hr : RdP w ad l) (hl : l.length ≤ 1048576) :
    Calls Try.prog 26 #[.slice ad l.length cap] w fun e w' => e = .returned (.bool (polyB l)) ∧ Below w.heap.size w w' := by
  have c1 := fun w hr => pyPoints_c ad cap l w hr hl
  have hp := Lib.hid (fun h : ptsB l = true => ptsB_t h)
  have hlen := hullF_len (pySortF l)
  have hlen2 := pySortF_len l
  have HR := Lib.hid hr; clear hr
  have hull := Lib.hid (fun w hr hl hs => pyHull_c ad cap l w hr hl hs)
  unfold polyB
  generalize ptsB l = u at c1 hp ⊢
  generalize hullF (pySortF l) = H at hull hlen ⊢
  have C1 := Lib.hid c1; clear c1
  cases u
  case false =>
    go_enter Try.func26, Try.ntmps26
    go_wp2_with fail
    refine (C1.out _ HR.out).mono ?_
    rintro e w1 ⟨rfl, hw1⟩
    go_wp2_with fail
    go_ret
    exact ⟨rfl, hw1⟩
  case true =>
    obtain ⟨h1, h2, hs⟩ := hp.out rfl
    have HS := Lib.hid hs; clear hs
    go_enter Try.func26, Try.ntmps26
    go_wp2_with fail
    refine (C1.out _ HR.out).mono ?_
    rintro e w1 ⟨rfl, hw1⟩
    have HR1 := Lib.hid (HR.out.below hw1)
    go_wp2_with fail
    refine (hull.out _ HR1.out (by omega) HS.out).mono ?_
    rintro e w2 ⟨ad2, cap2, rfl, hrd2, hw2⟩
    have HR2 := Lib.hid (HR1.out.below hw2)
    have HD2 := Lib.hid hrd2; clear hrd2
    have ce := Lib.hid (pySame_c ad2 ad cap2 cap H l w2 HD2.out HR2.out (by omega) (by omega))
    go_wp2_with fail
    refine ce.out.mono ?_
    rintro e w3 ⟨rfl, hw3⟩
    go_wp2_with fail
    go_ret
    exact ⟨ret_bool (by simp), ball (ball hw1 hw2) hw3⟩

set_option maxHeartbeats 800000 in
theorem iBoundaryPoints_c (ad : Option Addr) (cap : Nat) (l : List Pt) (w : World) (hr : RdP w ad l) (hl : l.length ≤ 1048576) :
    Calls Try.prog 13 #[.slice ad l.length cap] w fun e w' => e = .returned (bpV l) ∧ Below w.heap.size w w' := by
  have c1 := fun w hr => isPolygon_c ad cap l w hr hl
  have hp := Lib.hid (show polyB l = true → ptsB l = true from fun h => (Bool.and_eq_true_iff.1 h).1)
  have HR := Lib.hid hr; clear hr
  unfold bpV
  generalize polyB l = u at c1 hp ⊢
  have C1 := Lib.hid c1; clear c1
  cases u
  case false =>
    rw [if_neg (by simp)]
    go_enter Try.func13, Try.ntmps13
    go_wp2_with fail
    refine (C1.out _ HR.out).mono ?_
    rintro e w1 ⟨rfl, hw1⟩
    go_wp2_with fail
    go_ret2
    exact ⟨rfl, hw1⟩
  case true =>
    rw [if_pos rfl]
    obtain ⟨h1, h2, hs⟩ := ptsB_t (hp.out rfl)
    have HS := Lib.hid hs; clear hs
    have cb := Lib.hid (fun w hr => boundary_c ad cap l w hr (by omega) (by omega) HS.out)
    generalize bndP l = z at cb ⊢
    go_enter Try.func13, Try.ntmps13
    go_wp2_with fail
    refine (C1.out _ HR.out).mono ?_
    rintro e w1 ⟨rfl, hw1⟩
    have HR1 := Lib.hid (HR.out.below hw1)
    go_wp2_with fail
    refine (cb.out _ HR1.out).mono ?_
    rintro e w2 ⟨rfl, hw2⟩
    go_wp2_with fail
    go_ret2
    exact ⟨rfl, ball hw1 hw2⟩

set_option maxHeartbeats 800000 in
theorem iInnerPoints_c (ad : Option Addr) (cap : Nat) (l : List Pt) (w : World) (hr : RdP w ad l) (hl : l.length ≤ 1048576) :
    Calls Try.prog 15 #[.slice ad l.length cap] w fun e w' => e = .returned (ipV l) ∧ Below w.heap.size w w' := by
  have c1 := fun w hr => isPolygon_c ad cap l w hr hl
  have hp := Lib.hid (show polyB l = true → ptsB l = true from fun h => (Bool.and_eq_true_iff.1 h).1)
  have HR := Lib.hid hr; clear hr
  unfold ipV
  generalize polyB l = u at c1 hp ⊢
  have C1 := Lib.hid c1; clear c1
  cases u
  case false =>
    rw [if_neg (by simp)]
    go_enter Try.func15, Try.ntmps15
    go_wp2_with fail
    refine (C1.out _ HR.out).mono ?_
    rintro e w1 ⟨rfl, hw1⟩
    go_wp2_with fail
    go_ret2
    exact ⟨rfl, hw1⟩
  case true =>
    rw [if_pos rfl]
    obtain ⟨h1, h2, hs⟩ := ptsB_t (hp.out rfl)
    have HS := Lib.hid hs; clear hs
    by_cases h3 : l.length < 3
    case pos =>
      have e1 : decide ((l.length : Int) < 3) = true := decide_eq_true (by omega)
      have HV := Lib.hid (show innP l = 0 by unfold innP; rw [if_pos h3])
      clear h3
      go_enter Try.func15, Try.ntmps15
      go_wp2_with fail
      refine (C1.out _ HR.out).mono ?_
      rintro e w1 ⟨rfl, hw1⟩
      go_wp2_with fail
      go_ret2
      exact ⟨by rw [HV.out]; rfl, hw1⟩
    case neg =>
      have e1 : decide ((l.length : Int) < 3) = false := decide_eq_false (by omega)
      have hv := show innP l = (areaP l - bndP l + 2).tdiv 2 by unfold innP; rw [if_neg h3]
      have hb := bndP_b HS.out (by omega) (by omega)
      have ha := areaTo_b HS.out l.length (Nat.le_refl _)
      rw [show areaTo l l.length = areaP l from rfl] at ha
      have cb := Lib.hid (fun w hr => boundary_c ad cap l w hr (by omega) (by omega) HS.out)
      have ca := Lib.hid (fun w hr => doubleArea_c ad cap l w hr (by omega) HS.out)
      generalize bndP l = z at cb hb hv
      generalize areaP l = a at ca ha hv
      have v1 : IntKind.i64.wrap (a - z) = a - z := i64_small (by omega) (by omega)
      have v2 : IntKind.i64.wrap (a - z + 2) = a - z + 2 := i64_small (by omega) (by omega)
      have hq : -4611686018427387904 ≤ (a - z + 2).tdiv 2 ∧ (a - z + 2).tdiv 2 ≤ 4611686018427387904 := by
        have h5 : ((a - z + 2).tdiv 2).natAbs ≤ (a - z + 2).natAbs := Int.natAbs_tdiv_le_natAbs _ _
        omega
      have v3 : IntKind.i64.wrap ((a - z + 2).tdiv 2) = (a - z + 2).tdiv 2 := i64_small hq.1 hq.2
      have HV := Lib.hid hv; clear hv ha hb h3
      go_enter Try.func15, Try.ntmps15
      go_wp2_with fail
      refine (C1.out _ HR.out).mono ?_
      rintro e w1 ⟨rfl, hw1⟩
      have HR1 := Lib.hid (HR.out.below hw1)
      go_wp2_with fail
      refine (ca.out _ HR1.out).mono ?_
      rintro e w2 ⟨rfl, hw2⟩
      have HR2 := Lib.hid (HR1.out.below hw2)
      go_wp2_with fail
      refine (cb.out _ HR2.out).mono ?_
      rintro e w3 ⟨rfl, hw3⟩
      go_wp2_with fail
      go_ret2
      exact ⟨by rw [HV.out]; rfl, ball (ball hw1 hw2) hw3⟩

set_option maxHeartbeats 800000 in
theorem sBoundaryPoints_c (ad : Option Addr) (cap : Nat) (l : List Pt) (w : World) (hr : RdP w ad l) (hl : l.length ≤ 1048576) :
    Calls Try.prog 14 #[.slice ad l.length cap] w fun e w' => e = .returned (bpV l) ∧ Below w.heap.size w w' := by
  have c1 := fun w hr => pyGood_c ad cap l w hr hl
  have hp := Lib.hid (show polyB l = true → ptsB l = true from fun h => (Bool.and_eq_true_iff.1 h).1)
  have HR := Lib.hid hr; clear hr
  unfold bpV
  generalize polyB l = u at c1 hp ⊢
  have C1 := Lib.hid c1; clear c1
  cases u
  case false =>
    rw [if_neg (by simp)]
    go_enter Try.func14, Try.ntmps14
    go_wp2_with fail
    refine (C1.out _ HR.out).mono ?_
    rintro e w1 ⟨rfl, hw1⟩
    go_wp2_with fail
    go_ret2
    exact ⟨rfl, hw1⟩
  case true =>
    rw [if_pos rfl]
    obtain ⟨h1, h2, hs⟩ := ptsB_t (hp.out rfl)
    have HS := Lib.hid hs; clear hs
    have cb := Lib.hid (fun w hr => pyBoundary_c ad cap l w hr (by omega) HS.out)
    generalize bndP l = z at cb ⊢
    go_enter Try.func14, Try.ntmps14
    go_wp2_with fail
    refine (C1.out _ HR.out).mono ?_
    rintro e w1 ⟨rfl, hw1⟩
    have HR1 := Lib.hid (HR.out.below hw1)
    go_wp2_with fail
    refine (cb.out _ HR1.out).mono ?_
    rintro e w2 ⟨rfl, hw2⟩
    go_wp2_with fail
    go_ret2
    exact ⟨rfl, ball hw1 hw2⟩

set_option maxHeartbeats 800000 in
theorem sInnerPoints_c (ad : Option Addr) (cap : Nat) (l : List Pt) (w : World) (hr : RdP w ad l) (hl : l.length ≤ 1048576) :
    Calls Try.prog 16 #[.slice ad l.length cap] w fun e w' => e = .returned (ipV l) ∧ Below w.heap.size w w' := by
  have c1 := fun w hr => pyGood_c ad cap l w hr hl
  have hp := Lib.hid (show polyB l = true → ptsB l = true from fun h => (Bool.and_eq_true_iff.1 h).1)
  have HR := Lib.hid hr; clear hr
  unfold ipV
  generalize polyB l = u at c1 hp ⊢
  have C1 := Lib.hid c1; clear c1
  cases u
  case false =>
    rw [if_neg (by simp)]
    go_enter Try.func16, Try.ntmps16
    go_wp2_with fail
    refine (C1.out _ HR.out).mono ?_
    rintro e w1 ⟨rfl, hw1⟩
    go_wp2_with fail
    go_ret2
    exact ⟨rfl, hw1⟩
  case true =>
    rw [if_pos rfl]
    obtain ⟨h1, h2, hs⟩ := ptsB_t (hp.out rfl)
    have HS := Lib.hid hs; clear hs
    by_cases h3 : l.length < 3
    case pos =>
      have e1 : decide ((l.length : Int) < 3) = true := decide_eq_true (by omega)
      have HV := Lib.hid (show innP l = 0 by unfold innP; rw [if_pos h3])
      clear h3
      go_enter Try.func16, Try.ntmps16
      go_wp2_with fail
      refine (C1.out _ HR.out).mono ?_
      rintro e w1 ⟨rfl, hw1⟩
      go_wp2_with fail
      go_ret2
      exact ⟨by rw [HV.out]; rfl, hw1⟩
    case neg =>
      have e1 : decide ((l.length : Int) < 3) = false := decide_eq_false (by omega)
      have hv := show innP l = (areaP l - bndP l + 2).tdiv 2 by unfold innP; rw [if_neg h3]
      have hb := bndP_b HS.out (by omega) (by omega)
      have ha := areaTo_b HS.out l.length (Nat.le_refl _)
      rw [show areaTo l l.length = areaP l from rfl] at ha
      have cb := Lib.hid (fun w hr => pyBoundary_c ad cap l w hr (by omega) HS.out)
      have ca := Lib.hid (fun w hr => pyArea_c ad cap l w hr (by omega) HS.out)
      generalize bndP l = z at cb hb hv
      generalize areaP l = a at ca ha hv
      have v1 : IntKind.i64.wrap (a - z) = a - z := i64_small (by omega) (by omega)
      have v2 : IntKind.i64.wrap (a - z + 2) = a - z + 2 := i64_small (by omega) (by omega)
      have hq : -4611686018427387904 ≤ (a - z + 2).tdiv 2 ∧ (a - z + 2).tdiv 2 ≤ 4611686018427387904 := by
        have h5 : ((a - z + 2).tdiv 2).natAbs ≤ (a - z + 2).natAbs := Int.natAbs_tdiv_le_natAbs _ _
        omega
      have v3 : IntKind.i64.wrap ((a - z + 2).tdiv 2) = (a - z + 2).tdiv 2 := i64_small hq.1 hq.2
      have HV := Lib.hid hv; clear hv ha hb h3
      go_enter Try.func16, Try.ntmps16
      go_wp2_with fail
      refine (C1.out _ HR.out).mono ?_
      rintro e w1 ⟨rfl, hw1⟩
      have HR1 := Lib.hid (HR.out.below hw1)
      go_wp2_with fail
      refine (ca.out _ HR1.out).mono ?_
      rintro e w2 ⟨rfl, hw2⟩
      have HR2 := Lib.hid (HR1.out.below hw2)
      go_wp2_with fail
      refine (cb.out _ HR2.out).mono ?_
      rintro e w3 ⟨rfl, hw3⟩
      go_wp2_with fail
      go_ret2
      exact ⟨by rw [HV.out]; rfl, ball (ball hw1 hw2) hw3⟩

end Go.Proofs.Ytapbdfkaaeoonaa
