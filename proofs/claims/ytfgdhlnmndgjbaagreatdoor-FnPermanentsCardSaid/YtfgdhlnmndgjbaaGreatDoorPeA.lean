/-
  Some texts of this proof in one: PeA PeB. Each part tells what it proves. By an AI agent.
-/
import Derived.Test.YtfgdhlnmndgjbaaGreatDoorRkG
import Derived.Test.YtfgdhlnmndgjbaaGreatDoorRkP
import Derived.Test.YtfgdhlnmndgjbaaGreatDoorPeP
import Derived.Test.YtfgdhlnmndgjbaaGreatDoorAsD
import Derived.Test.YtfgdhlnmndgjbaaGreatDoorWyG
import Derived.Test.YtfgdhlnmndgjbaaGreatDoorRkD

/-
  Permanents and traces, both sides, and the turned matrix of the program. By an AI agent.
-/
namespace Go.Proofs.YtfgdhlnmndgjbaaGreatDoor
open Go.RowKit

def pmO (M : List (List Int)) : Bool := sqB M && numB (prmM M.length (entM M)).1
def pmV (M : List (List Int)) : Value := .tuple #[.int .i64 (if pmO M = true then (prmM M.length (entM M)).1 else 0), .int .i64 (if pmO M = true then ((prmM M.length (entM M)).2 : Int) else 0), .bool (pmO M)]

set_option maxHeartbeats 1600000 in
theorem iPermanentOf_c (ad : Option Addr) (cap : Nat) (M : List (List Int)) (w : World) (hr : RdM w ad M) (hl : smM M) :
    Calls Tryz.prog 5 #[.slice ad M.length cap] w fun e w' => e = .returned (pmV M) ∧ Below w.heap.size w w' := by
  have C1 := Lib.hid (isSquare_c ad cap M w hr (by have := hl.1; omega) (fun i hi => by have := hl.2 i hi; omega))
  have C2 := Lib.hid (fun (h : sqB M = true) u (hb : Below w.heap.size w u) => permanent_c M.length ad cap (entM M) u (by rw [sq_toM h]; exact hr.below hb) (sq_facts h).1 (sq_facts h).2.2)
  unfold pmV pmO
  clear hr hl
  generalize sqB M = B at C1 C2 ⊢
  generalize prmM M.length (entM M) = R at C2 ⊢
  generalize M.length = n at C1 C2 ⊢
  obtain ⟨Rc, Rn⟩ := R
  simp only at C2 ⊢
  have CN := Lib.hid (fun w => isNumber_c Rc w)
  generalize numB Rc = D at CN ⊢
  cases B
  case false =>
    clear C2
    simp only [Bool.false_and, Bool.false_eq_true, if_false]
    go_enter Tryz.func5, Tryz.ntmps5
    go_wp2_with fail
    refine C1.out.mono ?_
    rintro e w1 ⟨rfl, hb1⟩
    go_wp2_with fail
    exact bodyPost_ret (v := .tuple #[.int .i64 0, .int .i64 0, .bool false]) (by simp [results, Tryz.results5, go_sem]) rfl ⟨rfl, hb1⟩
  case true =>
    rw [Bool.true_and]
    cases D
    case false =>
      simp only [Bool.false_eq_true, if_false]
      go_enter Tryz.func5, Tryz.ntmps5
      go_wp2_with fail
      refine C1.out.mono ?_
      rintro e w1 ⟨rfl, hb1⟩
      go_wp2_with fail
      refine (C2.out (by first | rfl | trivial) _ hb1).mono ?_
      rintro e w2 ⟨rfl, hb2⟩
      go_wp2_with fail
      refine (CN.out _).mono ?_
      rintro e w3 ⟨rfl, rfl⟩
      go_wp2_with fail
      exact bodyPost_ret (v := .tuple #[.int .i64 0, .int .i64 0, .bool false]) (by simp [results, Tryz.results5, go_sem]) rfl ⟨rfl, ball hb1 hb2⟩
    case true =>
      simp only [if_true]
      go_enter Tryz.func5, Tryz.ntmps5
      go_wp2_with fail
      refine C1.out.mono ?_
      rintro e w1 ⟨rfl, hb1⟩
      go_wp2_with fail
      refine (C2.out (by first | rfl | trivial) _ hb1).mono ?_
      rintro e w2 ⟨rfl, hb2⟩
      go_wp2_with fail
      refine (CN.out _).mono ?_
      rintro e w3 ⟨rfl, rfl⟩
      go_wp2_with fail
      exact bodyPost_ret (v := .tuple #[.int .i64 Rc, .int .i64 (Rn : Int), .bool true]) (by simp [results, Tryz.results5, go_sem]) rfl ⟨rfl, ball hb1 hb2⟩

set_option maxHeartbeats 1600000 in
theorem sPermanentOf_c (ad : Option Addr) (cap : Nat) (M : List (List Int)) (w : World) (hr : RdM w ad M) (hl : smM M) :
    Calls Tryz.prog 6 #[.slice ad M.length cap] w fun e w' => e = .returned (pmV M) ∧ Below w.heap.size w w' := by
  have C1 := Lib.hid (mxSquare_c ad cap M w hr (by have := hl.1; omega) (fun i hi => by have := hl.2 i hi; omega))
  have C2 := Lib.hid (fun (h : sqB M = true) => (show Calls Tryz.prog 30 #[.slice ad M.length cap, .int .i64 0, .slice none 0 0, .int .i64 0] w fun e w' => e = .returned (.tuple #[.int .i64 (prmM M.length (entM M)).1, .int .i64 ((prmM M.length (entM M)).2 : Int)]) ∧ Below w.heap.size w w' by
    have C0 := mxBest_c M.length ad cap (entM M) w (by rw [sq_toM h]; exact hr) (sq_facts h).1 (sq_facts h).2.2 M.length [] none 0 w w.heap.size (sq_facts h).1.2 (Ndp.nil _) (by simp) ⟨none, 0, rfl, Nat.le_refl _, Or.inl ⟨rfl, rfl⟩⟩ (Below.refl _ _)
    rw [show pmT ((prm M.length M.length []).map (costP (entM M))) = prmM M.length (entM M) from rfl, show costP (entM M) [] = 0 from rfl] at C0
    exact C0))
  unfold pmV pmO
  clear hr hl
  generalize sqB M = B at C1 C2 ⊢
  generalize prmM M.length (entM M) = R at C2 ⊢
  generalize M.length = n at C1 C2 ⊢
  obtain ⟨Rc, Rn⟩ := R
  simp only at C2 ⊢
  have CN := Lib.hid (fun w => nuGood_c Rc w)
  generalize numB Rc = D at CN ⊢
  cases B
  case false =>
    clear C2
    simp only [Bool.false_and, Bool.false_eq_true, if_false]
    go_enter Tryz.func6, Tryz.ntmps6
    go_wp2_with fail
    refine C1.out.mono ?_
    rintro e w1 ⟨rfl, rfl⟩
    go_wp2_with fail
    exact bodyPost_ret (v := .tuple #[.int .i64 0, .int .i64 0, .bool false]) (by simp [results, Tryz.results6, go_sem]) rfl ⟨rfl, Below.refl _ _⟩
  case true =>
    rw [Bool.true_and]
    cases D
    case false =>
      simp only [Bool.false_eq_true, if_false]
      go_enter Tryz.func6, Tryz.ntmps6
      go_wp2_with fail
      refine C1.out.mono ?_
      rintro e w1 ⟨rfl, rfl⟩
      go_wp2_with fail
      refine (C2.out (by first | rfl | trivial)).mono ?_
      rintro e w2 ⟨rfl, hb2⟩
      go_wp2_with fail
      refine (CN.out _).mono ?_
      rintro e w3 ⟨rfl, rfl⟩
      go_wp2_with fail
      exact bodyPost_ret (v := .tuple #[.int .i64 0, .int .i64 0, .bool false]) (by simp [results, Tryz.results6, go_sem]) rfl ⟨rfl, hb2⟩
    case true =>
      simp only [if_true]
      go_enter Tryz.func6, Tryz.ntmps6
      go_wp2_with fail
      refine C1.out.mono ?_
      rintro e w1 ⟨rfl, rfl⟩
      go_wp2_with fail
      refine (C2.out (by first | rfl | trivial)).mono ?_
      rintro e w2 ⟨rfl, hb2⟩
      go_wp2_with fail
      refine (CN.out _).mono ?_
      rintro e w3 ⟨rfl, rfl⟩
      go_wp2_with fail
      exact bodyPost_ret (v := .tuple #[.int .i64 Rc, .int .i64 (Rn : Int), .bool true]) (by simp [results, Tryz.results6, go_sem]) rfl ⟨rfl, hb2⟩

/-! ### Traces -/
def trF (m : Nat → Nat → Int) : Nat → Int
  | 0 => 1000000000
  | k + 1 => min (trF m k) (m k k)
def trV (M : List (List Int)) : Value := pairV (if sqB M = true then trF (entM M) M.length else 0) (sqB M)
set_option maxHeartbeats 1600000 in
theorem iTraceOf_c (ad : Option Addr) (cap : Nat) (M : List (List Int)) (w : World) (hr : RdM w ad M) (hl : smM M) :
    Calls Tryz.prog 7 #[.slice ad M.length cap] w fun e w' => e = .returned (trV M) ∧ Below w.heap.size w w' := by
  have C1 := Lib.hid (isSquare_c ad cap M w hr (by have := hl.1; omega) (fun i hi => by have := hl.2 i hi; omega))
  unfold trV pairV
  obtain ⟨B, hB⟩ : ∃ B, sqB M = B := ⟨_, rfl⟩
  rw [hB] at C1 ⊢
  cases B
  case false =>
    clear hr hl hB
    simp only [Bool.false_eq_true, if_false]
    go_enter Tryz.func7, Tryz.ntmps7
    go_wp2_with fail
    refine C1.out.mono ?_
    rintro e w1 ⟨rfl, hb1⟩
    go_wp2_with fail
    exact bodyPost_ret (v := .tuple #[.int .i64 0, .bool false]) (by simp [results, Tryz.results7, go_sem]) rfl ⟨rfl, hb1⟩
  case true =>
    simp only [if_true]
    obtain ⟨h1, h2, h3⟩ := sq_facts hB
    have HR := Lib.hid hr
    have H2 := Lib.hid h2
    have HE := Lib.hid (show ∀ i, (M.getD i []).getD i 0 = entM M i i from fun i => rfl)
    clear hr hl hB h3 h2
    obtain ⟨n, hn⟩ : ∃ n, M.length = n := ⟨_, rfl⟩
    have HN := Lib.hid hn
    rw [hn] at C1 H2 h1 ⊢
    clear hn
    obtain ⟨T, hT⟩ : ∃ T, trF (entM M) n = T := ⟨_, rfl⟩
    have HT := Lib.hid hT
    rw [hT]
    clear hT
    go_enter Tryz.func7, Tryz.ntmps7
    go_wp2_with fail
    refine C1.out.mono ?_
    rintro e w1 ⟨rfl, hb1⟩
    go_wp2_with fail
    go_loopw [4, 12] (fun v i wr => ∃ k : Nat, k ≤ n ∧ i = .int .i64 k ∧ v = .int .i64 (trF (entM M) k) ∧ w1 = wr) (fun _ i _ => n - (intOf i).toNat)
    case atStart => exact ⟨0, Nat.zero_le _, rfl, rfl, rfl⟩
    case round =>
      obtain ⟨k, hk, rfl, rfl, rfl⟩ := hrel
      by_cases hlt : k < n
      case neg =>
        obtain rfl : k = n := by omega
        rw [HT.out]
        go_wp2_with fail
        exact bodyPost_ret (v := .tuple #[.int .i64 T, .bool true]) (by simp [results, Tryz.results7, go_sem]) rfl ⟨rfl, hb1⟩
      case pos =>
        obtain ⟨b, off, a, c, rfl, hb, k0, hrow⟩ := HR.out k (by rw [HN.out]; exact hlt)
        obtain ⟨b2, off2, rfl, hb2, k1⟩ := hrow k (by rw [H2.out k hlt]; exact hlt)
        rw [H2.out k hlt] at k0
        rw [HE.out] at k1
        have k0 := bcell hb1 hb k0
        have k1 := bcell hb1 hb2 k1
        have HST := Lib.hid (show trF (entM M) (k + 1) = min (trF (entM M) k) (entM M k k) from rfl)
        generalize trF (entM M) k = z at HST ⊢
        generalize entM M k k = y at k1 HST
        have x1 : (0 : Int) ≤ (k : Int) := by omega
        have x2 : (k : Int) < (n : Int) := by omega
        clear hrow
        rcases Int.le_total z y with hzy | hzy
        · have hmn : min z y = z := by omega
          rw [hmn] at HST
          go_wp2_with fail
          all_goals
            go_roundw
            case rel => exact ⟨k + 1, by omega, by go_num, by rw [HST.out]; try (first | rfl | (congr 1; omega)), trivial⟩
            case measure => simp [intOf]; omega
        · have hmn : min z y = y := by omega
          rw [hmn] at HST
          go_wp2_with fail
          all_goals
            go_roundw
            case rel => exact ⟨k + 1, by omega, by go_num, by rw [HST.out]; try (first | rfl | (congr 1; omega)), trivial⟩
            case measure => simp [intOf]; omega
set_option maxHeartbeats 1600000 in
theorem sTraceOf_c (ad : Option Addr) (cap : Nat) (M : List (List Int)) (w : World) (hr : RdM w ad M) (hl : smM M) :
    Calls Tryz.prog 8 #[.slice ad M.length cap] w fun e w' => e = .returned (trV M) ∧ Below w.heap.size w w' := by
  have C1 := Lib.hid (mxSquare_c ad cap M w hr (by have := hl.1; omega) (fun i hi => by have := hl.2 i hi; omega))
  unfold trV pairV
  obtain ⟨B, hB⟩ : ∃ B, sqB M = B := ⟨_, rfl⟩
  rw [hB] at C1 ⊢
  cases B
  case false =>
    clear hr hl hB
    simp only [Bool.false_eq_true, if_false]
    go_enter Tryz.func8, Tryz.ntmps8
    go_wp2_with fail
    refine C1.out.mono ?_
    rintro e w1 ⟨rfl, rfl⟩
    go_wp2_with fail
    exact bodyPost_ret (v := .tuple #[.int .i64 0, .bool false]) (by simp [results, Tryz.results8, go_sem]) rfl ⟨rfl, Below.refl _ _⟩
  case true =>
    simp only [if_true]
    obtain ⟨h1, h2, h3⟩ := sq_facts hB
    have HR := Lib.hid hr
    have H2 := Lib.hid h2
    have HE := Lib.hid (show ∀ i, (M.getD i []).getD i 0 = entM M i i from fun i => rfl)
    clear hr hl hB h3 h2
    obtain ⟨n, hn⟩ : ∃ n, M.length = n := ⟨_, rfl⟩
    have HN := Lib.hid hn
    rw [hn] at C1 H2 h1 ⊢
    clear hn
    obtain ⟨T, hT⟩ : ∃ T, trF (entM M) n = T := ⟨_, rfl⟩
    have HT := Lib.hid hT
    rw [hT]
    clear hT
    go_enter Tryz.func8, Tryz.ntmps8
    go_wp2_with fail
    refine C1.out.mono ?_
    rintro e w1 ⟨rfl, rfl⟩
    go_wp2_with fail
    go_loopw [4, 12] (fun v i wr => ∃ k : Nat, k ≤ n ∧ i = .int .i64 k ∧ v = .int .i64 (trF (entM M) k) ∧ Below w.heap.size w wr) (fun _ i _ => n - (intOf i).toNat)
    case atStart => exact ⟨0, Nat.zero_le _, rfl, rfl, Below.refl _ _⟩
    case round =>
      obtain ⟨wE, rfl⟩ : ∃ u : World, u = wr := ⟨_, rfl⟩
      obtain ⟨k, hk, rfl, rfl, hbel⟩ := hrel
      by_cases hlt : k < n
      case neg =>
        obtain rfl : k = n := by omega
        rw [HT.out]
        go_wp2_with fail
        exact bodyPost_ret (v := .tuple #[.int .i64 T, .bool true]) (by simp [results, Tryz.results8, go_sem]) rfl ⟨rfl, hbel⟩
      case pos =>
        obtain ⟨b, off, a, c, rfl, hb, k0, hrow⟩ := HR.out k (by rw [HN.out]; exact hlt)
        obtain ⟨b2, off2, rfl, hb2, k1⟩ := hrow k (by rw [H2.out k hlt]; exact hlt)
        rw [H2.out k hlt] at k0
        rw [HE.out] at k1
        have k0 := bcell hbel hb k0
        have k1 := bcell hbel hb2 k1
        have hst := (show trF (entM M) (k + 1) = min (trF (entM M) k) (entM M k k) from rfl)
        generalize trF (entM M) k = z at hst ⊢
        generalize entM M k k = y at k1 hst
        have cl := fun w => l1Least_n z y w
        rw [show leastZ z y = min z y by unfold leastZ; split <;> omega, ← hst] at cl
        have CL := Lib.hid cl
        have x1 : (0 : Int) ≤ (k : Int) := by omega
        have x2 : (k : Int) < (n : Int) := by omega
        clear hrow cl hst
        go_wp2_with fail
        refine (CL.out _).mono ?_
        rintro e w2 ⟨rfl, rfl⟩
        go_wp2_with fail
        go_roundw
        case rel => exact ⟨k + 1, by omega, by go_num, rfl, hbel⟩
        case measure => simp [intOf]; omega

/-! ### The turned matrix -/
def MtxR (w : World) (b : Bool) (M : List (List Int)) (e : Ending) (w' : World) : Prop := ∃ ad cap, e = .returned (.tuple #[.slice ad M.length cap, .bool b]) ∧ RdM w' ad M ∧ Below w.heap.size w w'
def trnM (M : List (List Int)) : List (List Int) := toG (colN M) M.length (fun a b => entM M b a)
end Go.Proofs.YtfgdhlnmndgjbaaGreatDoor

/-
  The turned matrix of the program: picked from XRkM. By an AI agent.
-/
namespace Go.Proofs.YtfgdhlnmndgjbaaGreatDoor
open Go.RowKit

theorem TrO.rdG {w : World} {B g C R : Nat} {F : Nat → Nat → Int} {vs : List Value} (h : TrO w B g C (fun i => tab R (F i)) vs) (h0 : 0 < R) : RdM w (some ⟨g, 0, none⟩) (toG C R F) := by
  intro i hi
  rw [toG_len] at hi
  have hrow := h.each i hi
  obtain ⟨gr, cr, e, _⟩ := hrow.shp (by rw [tab_length]; exact h0)
  have hc : w.cell? ⟨g, i, none⟩ = some (vs.getD i undef) := h.out.cell? (by simp [List.getD, h.len, hi])
  rw [e] at hc hrow
  obtain ⟨_, _, e2, hrd⟩ := hrow.shape
  injection e2 with e2 _ _
  subst e2
  exact ⟨g, 0, _, cr, rfl, h.out.lt, by rw [Nat.zero_add, toG_row F hi]; exact hc, by rw [toG_row F hi]; exact hrd⟩
set_option maxHeartbeats 3200000 in
set_option maxRecDepth 100000 in
theorem transposedG_c (R C : Nat) (ad : Option Addr) (cap : Nat) (F : Nat → Nat → Int) (w : World) (hr : RdM w ad (toG R C F)) (hR : 1 ≤ R ∧ R ≤ 6) (hC : 1 ≤ C ∧ C ≤ 6) :
    Calls Tryz.prog 37 #[.slice ad R cap] w fun e w' => ∃ g, e = .returned (.slice (some ⟨g, 0, none⟩) C C) ∧ (∃ vs, TrO w' w.heap.size g C (fun i => tab R fun j => F j i) vs) ∧ Below w.heap.size w w' := by
  obtain ⟨bM, oM, rfl, hbM, hrowM⟩ := hr.rowG (by omega) (by omega)
  obtain ⟨b0, o0, c0, e0, _, _⟩ := hrowM 0 (by omega)
  rw [Nat.add_zero] at e0
  have HRW := Lib.hid hrowM
  clear hr hrowM
  have hmk := run_makeN (P := Tryz.prog) 23 38 (.slice none 0 0) 1 24 Tryz.underlying23 Tryz.infoM C (by omega) (by omega)
  simp only [Value.cells, Nat.mul_one] at hmk
  have hst := TrO.start w C (madeCells #[.slice none 0 0] C) (toList_madeCells_one _ _)
  have hb0 : Below w.heap.size w (w.alloc (.cells (madeCells #[.slice none 0 0] C) 38)) := (Below.refl _ _).alloc (Nat.le_refl _) _
  have x0 : 0 < R := by omega
  go_enter Tryz.func37, Tryz.ntmps37
  go_wp2_with fail
  generalize w.alloc (.cells (madeCells #[.slice none 0 0] C) 38) = w1 at hst hb0 ⊢
  have HST := Lib.hid hst
  clear hst hmk e0
  go_loopw [15] (fun i wr => ∃ (a : Nat) (vs : List Value), a ≤ R ∧ i = .int .i64 a ∧ TrO wr w.heap.size w.heap.size C (trR F a 0) vs ∧ Below w.heap.size w wr) (fun i _ => R - (intOf i).toNat)
  case atStart => exact ⟨0, _, Nat.zero_le _, rfl, HST.out.congr (fun i _ => by unfold trR; rw [if_neg (by omega)]; rfl), hb0⟩
  case round =>
    obtain ⟨wI, rfl⟩ : ∃ x : World, x = wr := ⟨_, rfl⟩
    obtain ⟨a, vs, ha, rfl, htr, hbel⟩ := hrel
    have HT := Lib.hid htr; clear htr HST
    by_cases hla : a < R
    case neg =>
      obtain rfl : a = R := by omega
      have hfin := HT.out.congr (R' := fun i => tab a fun j => F j i) (fun i _ => by unfold trR; rw [if_neg (by omega)])
      have HF := Lib.hid hfin; clear hfin
      go_wp2_with fail
      go_ret
      exact ⟨_, rfl, ⟨_, HF.out⟩, hbel⟩
    case pos =>
      obtain ⟨b2, o2, c2, e2, hl2, hc2⟩ := HRW.out a hla
      have HC2 := Lib.hid hc2
      have e2 := bcell hbel hbM e2
      have x1 : (0 : Int) ≤ (a : Int) := by omega
      have x2 : (a : Int) < (R : Int) := by omega
      clear hc2
      go_wp2_with fail
      go_loopw [21] (fun i wr => ∃ (j : Nat) (vs : List Value), j ≤ C ∧ i = .int .i64 j ∧ TrO wr w.heap.size w.heap.size C (trR F a j) vs ∧ Below w.heap.size w wr) (fun i _ => C - (intOf i).toNat)
      case atStart => exact ⟨0, vs, Nat.zero_le _, rfl, HT.out, hbel⟩
      case round =>
        obtain ⟨wJ, rfl⟩ : ∃ x : World, x = wr := ⟨_, rfl⟩
        obtain ⟨j, us, hj, rfl, htr, hbel2⟩ := hrel
        clear e2
        by_cases hlj : j < C
        case neg =>
          obtain rfl : j = C := by omega
          have HT2 := Lib.hid (htr.congr (R' := trR F (a + 1) 0) (fun i hi => by unfold trR; rw [if_pos hi, if_neg (by omega)]))
          clear htr HT
          go_wp2_with fail
          go_roundw
          case rel => exact ⟨a + 1, us, by omega, by go_num, HT2.out, hbel2⟩
          case measure => simp [intOf]; omega
        case pos =>
          have k1 := bcell hbel2 hl2 (HC2.out j hlj)
          have k2 : wJ.cell? ⟨w.heap.size, j, none⟩ = some (us.getD j undef) := htr.out.cell? (by simp [List.getD, htr.len, hlj])
          have hsz := hbel2.size
          have htr2 := htr.below ((Below.refl _ _).alloc (Nat.le_refl _) (.cells #[.int .i64 (F a j)] 3))
          have HTR := Lib.hid htr2
          have HNX := Lib.hid (fun k => trR_next F a j k)
          have HO := Lib.hid (htr2.each j hlj)
          have hlen : (trR F a j j).length = a := by unfold trR; rw [tab_length, if_neg (by omega)]
          have HK := Lib.hid (show ∀ wm, (wJ.alloc (.cells #[.int .i64 (F a j)] 3)).grownBy wm (us.getD j undef).ownBlock → wm.cell? ⟨w.heap.size, j, none⟩ = some (us.getD j undef) ∧ wm.frozen? ⟨w.heap.size, j, none⟩ = false from fun wm hg => by
            have ho := htr2.out.grown hg (row_ne_ty (htr2.each j hlj) htr2.out (by decide))
            exact ⟨ho.cell? (by simp [List.getD, htr.len, hlj]), ho.frozen j⟩)
          have x3 : (0 : Int) ≤ (j : Int) := by omega
          have x4 : (j : Int) < (C : Int) := by omega
          have hgB : w.heap.size ≤ w.heap.size := Nat.le_refl _
          clear htr htr2 HT
          obtain ⟨X, hX⟩ : ∃ X, F a j = X := ⟨_, rfl⟩
          obtain ⟨u0, hu0⟩ : ∃ u0, us.getD j undef = u0 := ⟨_, rfl⟩
          rw [hX] at k1 HTR HNX HK HO
          rw [hu0] at k2 HK HO
          have HU0 := Lib.hid hu0
          clear hX hu0
          go_wp2_with (at_builtin; refine wpList_appT rfl _ _ rfl w.heap.size _ 0 1 (a + 1) _ (trR F a j j) [X] (by rw [hlen]; rfl) (by omega) rfl rfl HO.out (rdI_one _ _ _ rfl) (by rw [hlen]; omega) (by simp) (by simp; omega) ?_; intro g5 c5 wm hown hgr hbk hbm; obtain ⟨d1, d2⟩ := HK.out wm hgr)
          have hst := HTR.out.step hlj hown (by rw [HU0.out]; exact hgr) (by rw [HU0.out]; exact hbk)
          have hb5 := ((hbel2.alloc hsz (.cells #[.int .i64 X] 3)).trans hbm).setCell (p := ⟨w.heap.size, j, none⟩) hgB (.slice (some ⟨g5, 0, none⟩) (a + 1) c5)
          have HST := Lib.hid (hst.congr (R' := trR F a (j + 1)) (fun i _ => HNX.out i))
          clear hst hown hgr hbk hbm
          go_wp2_with fail
          go_roundw
          case rel => exact ⟨j + 1, _, by omega, by go_num, HST.out, hb5⟩
          case measure => simp [intOf]; omega

set_option maxHeartbeats 1600000 in
theorem iTransposeMatrix_c (ad : Option Addr) (cap : Nat) (M : List (List Int)) (w : World) (hr : RdM w ad M) (hl : smM M) (hm : matB M = true) :
    Calls Tryz.prog 12 #[.slice ad M.length cap] w (MtxR w true (trnM M)) := by
  have C1 := Lib.hid (isMatrix_c ad cap M w hr (by have := hl.1; omega) (fun i hi => by have := hl.2 i hi; omega))
  obtain ⟨h1, h2, h3, h4, h5⟩ := mat_facts hm
  have C2 := Lib.hid (fun u (hb : Below w.heap.size w u) => transposedG_c M.length (colN M) ad cap (entM M) u (by rw [h5]; exact hr.below hb) h1 h2)
  rw [hm] at C1
  unfold trnM
  have HL := Lib.hid (toG_len (colN M) M.length (fun a b => entM M b a))
  clear hr hl hm h3 h4 h5
  generalize M.length = n at C1 C2 h1 HL ⊢
  generalize colN M = k at C2 h2 HL ⊢
  generalize entM M = F at C2 HL ⊢
  obtain ⟨T, hT⟩ : ∃ T, toG k n (fun a b => F b a) = T := ⟨_, rfl⟩
  have HT := Lib.hid hT
  rw [hT] at HL ⊢
  clear hT
  go_enter Tryz.func12, Tryz.ntmps12
  go_wp2_with fail
  refine C1.out.mono ?_
  rintro e w1 ⟨rfl, hb1⟩
  go_wp2_with fail
  refine (C2.out _ hb1).mono ?_
  rintro e w2 ⟨g, rfl, ⟨vs, htr⟩, hb2⟩
  have HRD := Lib.hid (TrO.rdG (F := fun i j => F j i) htr (by omega))
  rw [HT.out] at HRD
  clear htr
  go_wp2_with fail
  go_ret2
  exact ⟨some ⟨g, 0, none⟩, k, by rw [HL.out]; rfl, HRD.out, ball hb1 hb2⟩

end Go.Proofs.YtfgdhlnmndgjbaaGreatDoor
