/-
  Prices, proved assignments, costs of assignments: the program's. By an AI agent.
-/
import Derived.Test.YtjlkgioinogbkaaAsH
namespace Go.Proofs.Ytjlkgioinogbkaa
open Go.RowKit

def oneP (M : List (List Int)) (u : List Int) : Bool := decide (u.length = M.length) && u.all finB
def askP (M : List (List Int)) (u v : List Int) : Bool := sqB M && (oneP M u && oneP M v)
def prcB (M : List (List Int)) (u v : List Int) : Bool := askP M u v && prcQ M.length (entM M) u v
def pvX (M : List (List Int)) (a u v : List Int) : Bool := askP M u v && (asgB M.length a && finP (entM M) a)
def pvB (M : List (List Int)) (a u v : List Int) : Bool := pvX M a u v && (prcQ M.length (entM M) u v && decide (lsm u + lsm v = costP (entM M) a))
def cgB (M : List (List Int)) (a : List Int) : Bool := sqB M && (asgB M.length a && finP (entM M) a)
theorem oneP_t {M : List (List Int)} {u : List Int} (h : oneP M u = true) : u.length = M.length ∧ ∀ i, i < M.length → -1000000 ≤ u.getD i 0 ∧ u.getD i 0 ≤ 1000000 := by
  unfold oneP at h
  rw [Bool.and_eq_true, decide_eq_true_eq, List.all_eq_true] at h
  refine ⟨h.1, fun i hi => ?_⟩
  have := h.2 (u.getD i 0) (by rw [List.getD_eq_getElem?_getD, List.getElem?_eq_getElem (by omega)]; exact List.getElem_mem _)
  exact inB_t.1 this
theorem askP_t {M : List (List Int)} {u v : List Int} (h : askP M u v = true) : sqB M = true ∧ oneP M u = true ∧ oneP M v = true := by
  unfold askP at h
  simp only [Bool.and_eq_true] at h
  exact h
theorem fin_cost {M : List (List Int)} {a : List Int} (hs : sqB M = true) (h : asgB M.length a = true) : (costP (entM M) a == 1000000000) = !finP (entM M) a ∧ (finP (entM M) a = true → -6000000 ≤ costP (entM M) a ∧ costP (entM M) a ≤ 6000000) := by
  obtain ⟨hn, _, hnum⟩ := sq_facts hs
  obtain ⟨h1, h2⟩ := asg_ndp h
  rcases (prm_cost (m := entM M) hnum hn h2 h1).2 with ⟨g1, g2⟩ | ⟨g1, g2, _, g3⟩
  · exact ⟨by rw [g1, g2]; rfl, fun h => by rw [g1] at h; cases h⟩
  · exact ⟨by rw [g1]; exact beq_eq_false_iff_ne.2 (by omega), fun _ => g3⟩

set_option maxHeartbeats 1600000 in
set_option maxRecDepth 100000 in
theorem iArePrices_c (ad : Option Addr) (cap : Nat) (M : List (List Int)) (adu : Option Addr) (cu : Nat) (u : List Int) (adv : Option Addr) (cv : Nat) (v : List Int) (w : World) (hr : RdM w ad M) (hl : smM M) (hu : RdI w adu u) (hul : u.length ≤ 1048576) (hv : RdI w adv v) (hvl : v.length ≤ 1048576) :
    Calls Try.prog 13 #[.slice ad M.length cap, .slice adu u.length cu, .slice adv v.length cv] w fun e w' => e = .returned (.tuple #[.bool (prcB M u v), .bool (askP M u v)]) ∧ Below w.heap.size w w' := by
  have C1 := Lib.hid (isSquare_c ad cap M w hr (by have := hl.1; omega) (fun i hi => by have := hl.2 i hi; omega))
  have C2 := Lib.hid (fun x (hb : Below w.heap.size w x) => areOne_c ad cap M.length adu cu u x (hu.below hb) hul)
  have C3 := Lib.hid (fun x (hb : Below w.heap.size w x) => areOne_c ad cap M.length adv cv v x (hv.below hb) hvl)
  have C4 := Lib.hid (fun (h : askP M u v = true) x (hb : Below w.heap.size w x) => by
    obtain ⟨h1, h2, h3⟩ := askP_t h
    obtain ⟨hn, _, _⟩ := sq_facts h1
    have hr2 := hr.below hb
    rw [← sq_toM h1] at hr2
    obtain ⟨g1, g2⟩ := oneP_t h2
    obtain ⟨g3, g4⟩ := oneP_t h3
    have := arePrices_c M.length ad cap (entM M) adu cu u adv cv v x hr2 (hu.below hb) (hv.below hb) hn g1 g3 g2 g4
    exact (show Calls Try.prog 33 #[.slice ad M.length cap, .slice adu u.length cu, .slice adv v.length cv] x _ by rw [g1, g3]; exact this))
  have HA := Lib.hid (show askP M u v = (sqB M && (oneP M u && oneP M v)) from rfl)
  rw [show (decide (u.length = M.length) && u.all finB) = oneP M u from rfl] at C2
  rw [show (decide (v.length = M.length) && v.all finB) = oneP M v from rfl] at C3
  unfold prcB
  clear hr hl hu hul hv hvl
  generalize prcQ M.length (entM M) u v = Q at C4 ⊢
  generalize askP M u v = K at C4 HA ⊢
  generalize oneP M u = X at C2 HA
  generalize oneP M v = Y at C3 HA
  generalize sqB M = S at C1 HA
  generalize M.length = n at C1 C2 C3 C4 ⊢
  generalize u.length = nu at C2 C4 ⊢
  generalize v.length = nv at C3 C4 ⊢
  cases S
  · obtain rfl : K = false := HA.out
    clear C2 C3 C4
    rw [Bool.false_and]
    go_enter Try.func13, Try.ntmps13
    go_wp2_with fail
    refine C1.out.mono ?_
    rintro e w1 ⟨rfl, hb1⟩
    go_wp2_with fail
    go_ret2
    exact ⟨rfl, hb1⟩
  · cases X
    · obtain rfl : K = false := HA.out
      clear C3 C4
      rw [Bool.false_and]
      go_enter Try.func13, Try.ntmps13
      go_wp2_with fail
      refine C1.out.mono ?_
      rintro e w1 ⟨rfl, hb1⟩
      go_wp2_with fail
      refine (C2.out _ hb1).mono ?_
      rintro e w2 ⟨rfl, rfl⟩
      go_wp2_with fail
      go_ret2
      exact ⟨rfl, hb1⟩
    · cases Y
      · obtain rfl : K = false := HA.out
        clear C4
        rw [Bool.false_and]
        go_enter Try.func13, Try.ntmps13
        go_wp2_with fail
        refine C1.out.mono ?_
        rintro e w1 ⟨rfl, hb1⟩
        go_wp2_with fail
        refine (C2.out _ hb1).mono ?_
        rintro e w2 ⟨rfl, rfl⟩
        go_wp2_with fail
        refine (C3.out _ hb1).mono ?_
        rintro e w2 ⟨rfl, rfl⟩
        go_wp2_with fail
        go_ret2
        exact ⟨rfl, hb1⟩
      · obtain rfl : K = true := HA.out
        have D4 := Lib.hid (C4.out rfl)
        clear C4
        rw [Bool.true_and]
        go_enter Try.func13, Try.ntmps13
        go_wp2_with fail
        refine C1.out.mono ?_
        rintro e w1 ⟨rfl, hb1⟩
        go_wp2_with fail
        refine (C2.out _ hb1).mono ?_
        rintro e w2 ⟨rfl, rfl⟩
        go_wp2_with fail
        refine (C3.out _ hb1).mono ?_
        rintro e w2 ⟨rfl, rfl⟩
        go_wp2_with fail
        refine (D4.out _ hb1).mono ?_
        rintro e w3 ⟨rfl, hb3⟩
        go_wp2_with fail
        go_ret2
        exact ⟨rfl, ball hb1 hb3⟩

set_option maxHeartbeats 1600000 in
set_option maxRecDepth 100000 in
theorem iCostA_c (ad : Option Addr) (cap : Nat) (M : List (List Int)) (adA : Option Addr) (cA : Nat) (a : List Int) (w : World) (hr : RdM w ad M) (hl : smM M) (hA : RdI w adA a) :
    Calls Try.prog 18 #[.slice ad M.length cap, .slice adA a.length cA] w fun e w' => e = .returned (pairV (if cgB M a = true then toldZ (costP (entM M) a) else 0) (cgB M a && numB (costP (entM M) a))) ∧ Below w.heap.size w w' := by
  have C1 := Lib.hid (isSquare_c ad cap M w hr (by have := hl.1; omega) (fun i hi => by have := hl.2 i hi; omega))
  have C2 := Lib.hid (fun (h : sqB M = true) x (hb : Below w.heap.size w x) => isAssignment_c M.length ad cap adA cA a x (hA.below hb) (sq_facts h).1)
  have C3 := Lib.hid (fun (h : sqB M = true) (h2 : asgB M.length a = true) x (hb : Below w.heap.size w x) => by
    obtain ⟨hn, _, hnum⟩ := sq_facts h
    obtain ⟨g1, g2⟩ := asg_ndp h2
    have hr2 := hr.below hb
    rw [← sq_toM h] at hr2
    exact (show Calls Try.prog 35 #[.slice ad M.length cap, .slice adA a.length cA] x _ by rw [g1]; exact costOf_c M.length ad cap (entM M) adA cA a x hr2 (hA.below hb) hn g1 g2.vt hnum))
  have HF := Lib.hid (fun (h : sqB M = true) (h2 : asgB M.length a = true) => (fin_cost h h2).1)
  have C4 := Lib.hid (fun w => told_c (costP (entM M) a) w)
  unfold cgB pairV at *
  clear hr hl hA
  generalize costP (entM M) a = X at C3 C4 HF ⊢
  generalize toldZ X = T at C4 ⊢
  generalize numB X = N at C4 ⊢
  generalize finP (entM M) a = F at HF ⊢
  generalize asgB M.length a = G at C2 C3 HF ⊢
  generalize sqB M = S at C1 C2 C3 HF ⊢
  generalize M.length = n at C1 C2 C3 ⊢
  generalize a.length = na at C2 C3 ⊢
  cases S
  · clear C2 C3 HF
    go_enter Try.func18, Try.ntmps18
    go_wp2_with fail
    refine C1.out.mono ?_
    rintro e w1 ⟨rfl, hb1⟩
    go_wp2_with fail
    go_ret2
    exact ⟨rfl, hb1⟩
  · have D2 := Lib.hid (C2.out rfl)
    cases G
    · clear C3 HF
      go_enter Try.func18, Try.ntmps18
      go_wp2_with fail
      refine C1.out.mono ?_
      rintro e w1 ⟨rfl, hb1⟩
      go_wp2_with fail
      refine (D2.out _ hb1).mono ?_
      rintro e w2 ⟨rfl, hb2⟩
      have hb3 := ball hb1 hb2
      go_wp2_with fail
      go_ret2
      exact ⟨rfl, hb3⟩
    · have D3 := Lib.hid (C3.out rfl rfl)
      have hF := HF.out rfl rfl
      clear C2 C3 HF
      cases F
      · have g1 : (X == 1000000000) = true := hF
        go_enter Try.func18, Try.ntmps18
        go_wp2_with fail
        refine C1.out.mono ?_
        rintro e w1 ⟨rfl, hb1⟩
        go_wp2_with fail
        refine (D2.out _ hb1).mono ?_
        rintro e w2 ⟨rfl, hb2⟩
        have hb3 := ball hb1 hb2
        go_wp2_with fail
        refine (D3.out _ hb3).mono ?_
        rintro e w3 ⟨rfl, hb4⟩
        have hb5 := ball hb3 hb4
        go_wp2_with fail
        go_ret2
        exact ⟨rfl, hb5⟩
      · have g1 : (X == 1000000000) = false := hF
        go_enter Try.func18, Try.ntmps18
        go_wp2_with fail
        refine C1.out.mono ?_
        rintro e w1 ⟨rfl, hb1⟩
        go_wp2_with fail
        refine (D2.out _ hb1).mono ?_
        rintro e w2 ⟨rfl, hb2⟩
        have hb3 := ball hb1 hb2
        go_wp2_with fail
        refine (D3.out _ hb3).mono ?_
        rintro e w3 ⟨rfl, hb4⟩
        have hb5 := ball hb3 hb4
        go_wp2_with fail
        refine (D3.out _ hb5).mono ?_
        rintro e w4 ⟨rfl, hb6⟩
        have hb7 := ball hb5 hb6
        go_wp2_with fail
        refine (C4.out _).mono ?_
        rintro e w5 ⟨rfl, rfl⟩
        go_wp2_with fail
        go_ret2
        exact ⟨rfl, hb7⟩
end Go.Proofs.Ytjlkgioinogbkaa
