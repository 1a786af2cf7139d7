/-
  HullOf and IsPoint of both sides. Printed by gen_huA.py.
-/
import Derived.Test.YtnapcjfemlhkmaaGreatDoorPyHull
import Derived.Test.YtnapcjfemlhkmaaGreatDoorGeD
namespace Go.Proofs.YtnapcjfemlhkmaaGreatDoor
open Go.RowKit

def HulR (w : World) (l : List Pt) (b : Bool) (e : Ending) (w' : World) : Prop := ∃ ad cap, e = .returned (.tuple #[.slice ad l.length cap, .bool b]) ∧ RdP w' ad l ∧ Below w.heap.size w w'
def hulO (l : List Pt) : List Pt := if ptsB l = true then hullF (pySortF l) else []

set_option maxHeartbeats 800000 in
theorem iHullOf_c (ad : Option Addr) (cap : Nat) (l : List Pt) (w : World) (hr : RdP w ad l) (hl : l.length ≤ 1048576) :
    Calls Tryz.prog 5 #[.slice ad l.length cap] w (HulR w (hulO l) (ptsB l)) := by
  have c1 := Lib.hid (arePoints_c ad cap l w hr hl)
  have c2 := Lib.hid (fun (h : ptsB l = true) w hr => hull_c ad cap l w hr (by have := ptsB_t h; omega) (by have := ptsB_t h; omega) (ptsB_t h).2.2)
  have HR := Lib.hid hr; clear hr
  unfold hulO
  generalize ptsB l = u at c1 c2 ⊢
  generalize hullF (pySortF l) = H at c2 ⊢
  cases u
  case false =>
    rw [if_neg (by simp)]
    go_enter Tryz.func5, Tryz.ntmps5
    go_wp2_with fail
    refine c1.out.mono ?_
    rintro e w1 ⟨rfl, hw1⟩
    go_wp2_with fail
    go_ret2
    exact ⟨none, 0, rfl, RdP.nil _ _, hw1⟩
  case true =>
    rw [if_pos rfl]
    have C2 := Lib.hid (c2.out rfl)
    go_enter Tryz.func5, Tryz.ntmps5
    go_wp2_with fail
    refine c1.out.mono ?_
    rintro e w1 ⟨rfl, hw1⟩
    have HR1 := Lib.hid (HR.out.below hw1)
    go_wp2_with fail
    refine (C2.out _ HR1.out).mono ?_
    rintro e w2 ⟨ad2, cap2, rfl, hr2, hw2⟩
    have HR2 := Lib.hid hr2; clear hr2
    go_wp2_with fail
    go_ret2
    exact ⟨ad2, cap2, rfl, HR2.out, ball hw1 hw2⟩

set_option maxHeartbeats 800000 in
theorem sHullOf_c (ad : Option Addr) (cap : Nat) (l : List Pt) (w : World) (hr : RdP w ad l) (hl : l.length ≤ 1048576) :
    Calls Tryz.prog 6 #[.slice ad l.length cap] w (HulR w (hulO l) (ptsB l)) := by
  have c1 := Lib.hid (pyPoints_c ad cap l w hr hl)
  have c2 := Lib.hid (fun (h : ptsB l = true) w hr => pyHull_c ad cap l w hr (by have := ptsB_t h; omega) (ptsB_t h).2.2)
  have HR := Lib.hid hr; clear hr
  unfold hulO
  generalize ptsB l = u at c1 c2 ⊢
  generalize hullF (pySortF l) = H at c2 ⊢
  cases u
  case false =>
    rw [if_neg (by simp)]
    go_enter Tryz.func6, Tryz.ntmps6
    go_wp2_with fail
    refine c1.out.mono ?_
    rintro e w1 ⟨rfl, hw1⟩
    go_wp2_with fail
    go_ret2
    exact ⟨none, 0, rfl, RdP.nil _ _, hw1⟩
  case true =>
    rw [if_pos rfl]
    have C2 := Lib.hid (c2.out rfl)
    go_enter Tryz.func6, Tryz.ntmps6
    go_wp2_with fail
    refine c1.out.mono ?_
    rintro e w1 ⟨rfl, hw1⟩
    have HR1 := Lib.hid (HR.out.below hw1)
    go_wp2_with fail
    refine (C2.out _ HR1.out).mono ?_
    rintro e w2 ⟨ad2, cap2, rfl, hr2, hw2⟩
    have HR2 := Lib.hid hr2; clear hr2
    go_wp2_with fail
    go_ret2
    exact ⟨ad2, cap2, rfl, HR2.out, ball hw1 hw2⟩

set_option maxHeartbeats 800000 in
theorem iIsPoint_c (x y : Int) (w : World) :
    Calls Tryz.prog 10 #[.agg #[.int .i64 x, .int .i64 y]] w fun e w' => e = .returned (.bool (ptB ⟨x, y⟩)) ∧ Below w.heap.size w w' := by
  have c1 := fun w => isPoint_c ⟨x, y⟩ w
  unfold ptV at c1
  simp only at c1
  generalize ptB ⟨x, y⟩ = u at c1 ⊢
  have C1 := Lib.hid c1; clear c1
  go_enter Tryz.func10, Tryz.ntmps10
  go_wp2_with fail
  refine (C1.out _).mono ?_
  rintro e w1 ⟨rfl, hw1⟩
  go_wp2_with fail
  go_ret
  exact ⟨rfl, ball ((Below.refl _ _).alloc (Nat.le_refl _) _) hw1⟩

set_option maxHeartbeats 800000 in
theorem sIsPoint_c (x y : Int) (w : World) :
    Calls Tryz.prog 23 #[.agg #[.int .i64 x, .int .i64 y]] w fun e w' => e = .returned (.bool (ptB ⟨x, y⟩)) ∧ Below w.heap.size w w' := by
  have c1 := fun w => pyOne_c ⟨x, y⟩ w
  unfold ptV at c1
  simp only at c1
  generalize ptB ⟨x, y⟩ = u at c1 ⊢
  have C1 := Lib.hid c1; clear c1
  go_enter Tryz.func23, Tryz.ntmps23
  go_wp2_with fail
  refine (C1.out _).mono ?_
  rintro e w1 ⟨rfl, hw1⟩
  go_wp2_with fail
  go_ret
  exact ⟨rfl, ball ((Below.refl _ _).alloc (Nat.le_refl _) _) hw1⟩

set_option maxHeartbeats 800000 in
theorem iIsPol_c (ad : Option Addr) (cap : Nat) (l : List Pt) (w : World) (hr : RdP w ad l) (hl : l.length ≤ 1048576) :
    Calls Tryz.prog 8 #[.slice ad l.length cap] w fun e w' => e = .returned (.bool (polyB l)) ∧ Below w.heap.size w w' := by
  have c1 := Lib.hid (isPolygon_c ad cap l w hr hl)
  clear hr
  generalize polyB l = u at c1 ⊢
  go_enter Tryz.func8, Tryz.ntmps8
  go_wp2_with fail
  refine c1.out.mono ?_
  rintro e w1 ⟨rfl, hw1⟩
  go_wp2_with fail
  go_ret
  exact ⟨rfl, hw1⟩

set_option maxHeartbeats 800000 in
theorem sIsPol_c (ad : Option Addr) (cap : Nat) (l : List Pt) (w : World) (hr : RdP w ad l) (hl : l.length ≤ 1048576) :
    Calls Tryz.prog 22 #[.slice ad l.length cap] w fun e w' => e = .returned (.bool (polyB l)) ∧ Below w.heap.size w w' := by
  have c1 := Lib.hid (pyGood_c ad cap l w hr hl)
  clear hr
  generalize polyB l = u at c1 ⊢
  go_enter Tryz.func22, Tryz.ntmps22
  go_wp2_with fail
  refine c1.out.mono ?_
  rintro e w1 ⟨rfl, hw1⟩
  go_wp2_with fail
  go_ret
  exact ⟨rfl, hw1⟩

theorem polyB_ptsH {l : List Pt} (h : polyB l = true) : ptsB l = true := (Bool.and_eq_true_iff.1 h).1
theorem polyB_hullH {l : List Pt} (h : polyB l = true) : hullF (pySortF l) = l := of_decide_eq_true (Bool.and_eq_true_iff.1 h).2
/-- Neighbours of a polygon are not the same. -/
theorem next_ne {l : List Pt} (h : polyB l = true) (h1 : l.length ≠ 1) {i : Nat} (hi : i < l.length) : l.getD i default ≠ nextP l i := by
  have e := polyB_hullH h
  by_cases h2 : 2 ≤ (pySortF l).length
  · have hm : (l.getD i default, nextP l i) ∈ Geo.sidesF l := by
      rw [← sides_get l i hi]
      exact List.getElem_mem _
    have hs := (Geo.hull_sides (pySortF_strict l) h2).2 (l.getD i default) (nextP l i)
    rw [e] at hs
    exact (hs.1 hm).2.2.1
  · exfalso
    rw [Geo.hull_small h2] at e
    rw [e] at h2
    have := (ptsB_t (polyB_ptsH h)).1
    omega
theorem pyEd_poly {l : List Pt} (h : polyB l = true) (h1 : l.length ≠ 1) : ∀ n, n ≤ l.length → pyEd l n = tab n (edgeP l)
  | 0, _ => by simp [pyEd, tab]
  | n + 1, hn => by
    rw [pyEd, if_neg (next_ne h h1 (by omega)), pyEd_poly h h1 n (by omega), tab_succ]
/-- The edges that both sides tell. -/
def edgO (l : List Pt) : List Pt := if polyB l = true then (if l.length = 1 then [] else edgesP l) else []
theorem pyEd_one {l : List Pt} (h1 : l.length = 1) : pyEd l l.length = [] := by
  match l, h1 with
  | [p], _ => simp [pyEd, nextP]

set_option maxHeartbeats 800000 in
theorem edgesAll_c (ad : Option Addr) (cap : Nat) (l : List Pt) (w : World) (hr : RdP w ad l) (hl : l.length ≤ 50000) (hs : AllSh l) :
    Calls Tryz.prog 35 #[.slice ad l.length cap] w fun e w' => ∃ v, e = .returned v ∧ RowP w' w.heap.size v (if l.length = 1 then [] else edgesP l) ∧ Below w.heap.size w w' := by
  by_cases h1 : l.length = 1
  · rw [if_pos h1, h1]
    have e0 := rowP_empty w
    have HE := Lib.hid e0; clear e0
    go_enter Tryz.func35, Tryz.ntmps35
    go_wp2_with fail
    go_ret
    exact ⟨_, rfl, HE.out, (Below.refl _ _).alloc (Nat.le_refl _) _⟩
  · rw [if_neg h1]
    exact edges_c ad cap l w hr hl h1 hs
theorem pyEdgesP_c (ad : Option Addr) (cap : Nat) (l : List Pt) (w : World) (hp : polyB l = true) (hr : RdP w ad l) (hl : l.length ≤ 50000) (hs : AllSh l) :
    Calls Tryz.prog 37 #[.slice ad l.length cap] w fun e w' => ∃ v, e = .returned v ∧ RowP w' w.heap.size v (if l.length = 1 then [] else edgesP l) ∧ Below w.heap.size w w' := by
  refine (pyEdges_c ad cap l w hr hl hs).mono ?_
  rintro e w' ⟨v, h1, h2, h3⟩
  refine ⟨v, h1, ?_, h3⟩
  split
  · rename_i h4; rw [pyEd_one h4] at h2; exact h2
  · rename_i h4; rw [pyEd_poly hp h4 _ (Nat.le_refl _)] at h2; exact h2

set_option maxHeartbeats 800000 in
theorem iEdgesOf_c (ad : Option Addr) (cap : Nat) (l : List Pt) (w : World) (hr : RdP w ad l) (hl : l.length ≤ 1048576) :
    Calls Tryz.prog 11 #[.slice ad l.length cap] w (HulR w (edgO l) (polyB l)) := by
  have c1 := Lib.hid (isPolygon_c ad cap l w hr hl)
  have HR := Lib.hid hr; clear hr
  unfold edgO
  cases hu : polyB l
  case false =>
    rw [hu] at c1
    rw [if_neg (by simp)]
    clear hu
    go_enter Tryz.func11, Tryz.ntmps11
    go_wp2_with fail
    refine c1.out.mono ?_
    rintro e w1 ⟨rfl, hw1⟩
    go_wp2_with fail
    go_ret2
    exact ⟨none, 0, rfl, RdP.nil _ _, hw1⟩
  case true =>
    rw [hu] at c1
    rw [if_pos rfl]
    obtain ⟨h1, h2, hs⟩ := ptsB_t (polyB_ptsH hu)
    have ce := Lib.hid (fun w hr => edgesAll_c ad cap l w hr (by omega) hs)
    clear hu
    generalize (if l.length = 1 then [] else edgesP l) = Y at ce ⊢
    go_enter Tryz.func11, Tryz.ntmps11
    go_wp2_with fail
    refine c1.out.mono ?_
    rintro e w1 ⟨rfl, hw1⟩
    have HR1 := Lib.hid (HR.out.below hw1)
    go_wp2_with fail
    refine (ce.out _ HR1.out).mono ?_
    rintro e w2 ⟨v, rfl, hr2, hw2⟩
    obtain ⟨ad2, cap2, rfl, _, _⟩ := hr2.shape
    have HR2 := Lib.hid (RowP.rd hr2); clear hr2
    go_wp2_with fail
    go_ret2
    exact ⟨ad2, cap2, rfl, HR2.out, ball hw1 hw2⟩

set_option maxHeartbeats 800000 in
theorem sEdgesOf_c (ad : Option Addr) (cap : Nat) (l : List Pt) (w : World) (hr : RdP w ad l) (hl : l.length ≤ 1048576) :
    Calls Tryz.prog 12 #[.slice ad l.length cap] w (HulR w (edgO l) (polyB l)) := by
  have c1 := Lib.hid (pyGood_c ad cap l w hr hl)
  have HR := Lib.hid hr; clear hr
  unfold edgO
  cases hu : polyB l
  case false =>
    rw [hu] at c1
    rw [if_neg (by simp)]
    clear hu
    go_enter Tryz.func12, Tryz.ntmps12
    go_wp2_with fail
    refine c1.out.mono ?_
    rintro e w1 ⟨rfl, hw1⟩
    go_wp2_with fail
    go_ret2
    exact ⟨none, 0, rfl, RdP.nil _ _, hw1⟩
  case true =>
    rw [hu] at c1
    rw [if_pos rfl]
    obtain ⟨h1, h2, hs⟩ := ptsB_t (polyB_ptsH hu)
    have ce := Lib.hid (fun w hr => pyEdgesP_c ad cap l w hu hr (by omega) hs)
    clear hu
    generalize (if l.length = 1 then [] else edgesP l) = Y at ce ⊢
    go_enter Tryz.func12, Tryz.ntmps12
    go_wp2_with fail
    refine c1.out.mono ?_
    rintro e w1 ⟨rfl, hw1⟩
    have HR1 := Lib.hid (HR.out.below hw1)
    go_wp2_with fail
    refine (ce.out _ HR1.out).mono ?_
    rintro e w2 ⟨v, rfl, hr2, hw2⟩
    obtain ⟨ad2, cap2, rfl, _, _⟩ := hr2.shape
    have HR2 := Lib.hid (RowP.rd hr2); clear hr2
    go_wp2_with fail
    go_ret2
    exact ⟨ad2, cap2, rfl, HR2.out, ball hw1 hw2⟩
end Go.Proofs.YtnapcjfemlhkmaaGreatDoor
