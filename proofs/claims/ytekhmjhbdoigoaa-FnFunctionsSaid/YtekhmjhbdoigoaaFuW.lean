/-
  Some texts of this proof in one: FuF FuG FuM FuH FuD FuY. Each part tells what it proves. By an AI agent.
-/
import Derived.Test.YtekhmjhbdoigoaaFuT
import Derived.Test.YtekhmjhbdoigoaaRtS
import Derived.StillTailTactics
import Derived.Test.YtekhmjhbdoigoaaRtR
import Derived.Test.YtekhmjhbdoigoaaRtD
import Derived.Test.YtekhmjhbdoigoaaRtV
import Derived.Test.YtekhmjhbdoigoaaAll
import Derived.Maps.AppendAt
import Derived.Laws.OwnMore
import Derived.Test.YtekhmjhbdoigoaaRtE
import Derived.Test.YtekhmjhbdoigoaaFuV
import Derived.Test.YtekhmjhbdoigoaaFuN
import Derived.Test.YtekhmjhbdoigoaaFuE
import Derived.Test.YtekhmjhbdoigoaaRtQ

/-
  A polynomial from its roots: the program's. By an AI agent.
-/
namespace Go.Proofs.Ytekhmjhbdoigoaa
open Go.RowKit

/-- The coefficients of a product by (r, 0) when the rounds before (i, k) are over. -/
def ppH (P : List Int) (r : Int) (i k n : Nat) : Int :=
  min (min (if n < i then P.getD n 0 + r else INF) (if 0 < n ∧ n - 1 < i then P.getD (n - 1) 0 else INF)) (min (if 1 ≤ k ∧ n = i then P.getD i 0 + r else INF) (if 2 ≤ k ∧ n = i + 1 then P.getD i 0 else INF))
theorem ppH_step {P : List Int} {r : Int} {i k : Nat} (hk : k < 2) (m : Nat) : (if m = i + k then min (ppH P r i k (i + k)) (P.getD i 0 + [r, 0].getD k 0) else ppH P r i k m) = ppH P r i (k + 1) m := by
  rcases (show k = 0 ∨ k = 1 by omega) with rfl | rfl
  · unfold ppH
    by_cases hm : m = i
    · subst hm
      simp
      omega
    · simp [hm]
  · unfold ppH
    by_cases hm : m = i + 1
    · subst hm
      simp
    · simp [hm]
theorem ppH_next (P : List Int) (r : Int) (i m : Nat) : ppH P r i 2 m = ppH P r (i + 1) 0 m := by
  unfold ppH
  rw [if_neg (show ¬ (1 ≤ 0 ∧ m = i + 1) by omega), if_neg (show ¬ (2 ≤ 0 ∧ m = i + 1 + 1) by omega)]
  by_cases h1 : m < i
  · rw [if_pos h1, if_pos (show m < i + 1 by omega), if_neg (show ¬ (1 ≤ 2 ∧ m = i) by omega), if_neg (show ¬ (2 ≤ 2 ∧ m = i + 1) by omega)]
    by_cases h2 : 0 < m
    · rw [if_pos (show 0 < m ∧ m - 1 < i by omega), if_pos (show 0 < m ∧ m - 1 < i + 1 by omega)]
    · rw [if_neg (show ¬ (0 < m ∧ m - 1 < i) by omega), if_neg (show ¬ (0 < m ∧ m - 1 < i + 1) by omega)]
  · rw [if_neg h1]
    by_cases h2 : m = i
    · subst h2
      rw [if_pos (show m < m + 1 by omega), if_pos (show 1 ≤ 2 ∧ m = m by omega), if_neg (show ¬ (2 ≤ 2 ∧ m = m + 1) by omega)]
      by_cases h3 : 0 < m
      · rw [if_pos (show 0 < m ∧ m - 1 < m by omega), if_pos (show 0 < m ∧ m - 1 < m + 1 by omega)]
        omega
      · rw [if_neg (show ¬ (0 < m ∧ m - 1 < m) by omega), if_neg (show ¬ (0 < m ∧ m - 1 < m + 1) by omega)]
        omega
    · rw [if_neg (show ¬ m < i + 1 by omega), if_neg (show ¬ (1 ≤ 2 ∧ m = i) by omega)]
      by_cases h3 : m = i + 1
      · subst h3
        rw [if_pos (show 2 ≤ 2 ∧ i + 1 = i + 1 by omega), if_neg (show ¬ (0 < i + 1 ∧ i + 1 - 1 < i) by omega), if_pos (show 0 < i + 1 ∧ i + 1 - 1 < i + 1 by omega), Nat.add_sub_cancel]
        omega
      · rw [if_neg (show ¬ (2 ≤ 2 ∧ m = i + 1) by omega), if_neg (show ¬ (0 < m ∧ m - 1 < i) by omega), if_neg (show ¬ (0 < m ∧ m - 1 < i + 1) by omega)]
theorem ppH_zero (P : List Int) (r : Int) (m : Nat) : ppH P r 0 0 m = INF := by
  unfold ppH
  rw [if_neg (show ¬ m < 0 by omega), if_neg (show ¬ (0 < m ∧ m - 1 < 0) by omega), if_neg (show ¬ (1 ≤ 0 ∧ m = 0) by omega), if_neg (show ¬ (2 ≤ 0 ∧ m = 0 + 1) by omega)]
  omega
/-- The product by a polynomial of one root. -/
def prodL (P : List Int) (r : Int) : List Int := tab (P.length + 1) fun n => if n = P.length then P.getD (P.length - 1) 0 else if n = 0 then P.getD 0 0 + r else min (P.getD n 0 + r) (P.getD (n - 1) 0)
theorem ppH_end {P : List Int} {r : Int} (hP : ∀ i, i < P.length → -20000000 ≤ P.getD i 0 ∧ P.getD i 0 ≤ 20000000) (hr : -1000000 ≤ r ∧ r ≤ 1000000) (h1 : 1 ≤ P.length) : tab (P.length + 1) (ppH P r P.length 0) = prodL P r := by
  unfold prodL
  refine tab_congr (fun n hn => ?_)
  unfold ppH
  rw [if_neg (show ¬ (1 ≤ 0 ∧ n = P.length) by omega), if_neg (show ¬ (2 ≤ 0 ∧ n = P.length + 1) by omega)]
  unfold INF
  by_cases h2 : n = P.length
  · subst h2
    have := hP (P.length - 1) (by omega)
    rw [if_pos rfl, if_neg (show ¬ P.length < P.length by omega), if_pos (show 0 < P.length ∧ P.length - 1 < P.length by omega)]
    omega
  · rw [if_neg h2, if_pos (show n < P.length by omega)]
    have h3 := hP n (by omega)
    by_cases h4 : n = 0
    · subst h4
      rw [if_pos rfl, if_neg (show ¬ (0 < 0 ∧ 0 - 1 < P.length) by omega)]
      omega
    · have := hP (n - 1) (by omega)
      rw [if_neg h4, if_pos (show 0 < n ∧ n - 1 < P.length by omega)]
      omega
theorem prodL_from (lead : Int) (l : List Int) (r : Int) : prodL (fromP lead l) r = fromP lead (l ++ [r]) := by
  rw [fromP_snoc]
  unfold prodL
  rw [fromP_len]
  refine tab_congr (fun n hn => ?_)
  rw [Nat.add_sub_cancel]
theorem own_int_set {w : World} {g : Nat} {xs : List Int} (h : Own w g 3 (ints xs)) (k : Nat) (x : Int) : Own (w.setCell ⟨g, k, none⟩ (.int .i64 x)) g 3 (ints (xs.set k x)) := by
  have := Own.set h k (.int .i64 x)
  rwa [ints_set] at this
theorem prodZ_small {a b : Int} (ha : a ≠ 1000000000) (hb : b ≠ 1000000000) : prodZ a b = a + b := by
  unfold prodZ
  simp [ha, hb]
set_option maxHeartbeats 6400000 in
set_option maxRecDepth 100000 in
theorem polyProduct_c (adp : Option Addr) (capp : Nat) (P : List Int) (adq : Option Addr) (capq : Nat) (r : Int) (w : World) (hp : RdI w adp P) (hq : RdI w adq [r, 0]) (h1 : 1 ≤ P.length) (h2 : P.length ≤ 100)
    (hP : ∀ i, i < P.length → -20000000 ≤ P.getD i 0 ∧ P.getD i 0 ≤ 20000000) (hr : -1000000 ≤ r ∧ r ≤ 1000000) :
    Calls Try.prog 44 #[.slice adp P.length capp, .slice adq 2 capq] w fun e w' => ∃ g, e = .returned (.slice (some ⟨g, 0, none⟩) (P.length + 1) (P.length + 1)) ∧ w.heap.size ≤ g ∧ Own w' g 3 (ints (prodL P r)) ∧ Below w.heap.size w w' := by
  have hend := Lib.hid (ppH_end hP hr h1)
  have HP := Lib.hid hp; have HQ := Lib.hid hq; have HB := Lib.hid hP
  clear hp hq hP
  obtain ⟨N, hN⟩ : ∃ N, P.length = N := ⟨_, rfl⟩
  rw [hN] at h1 h2 hend ⊢
  obtain ⟨M, hM⟩ : ∃ M, N + 1 = M := ⟨_, rfl⟩
  rw [hM] at hend ⊢
  obtain ⟨X, hX⟩ : ∃ X, (N : Int) + 2 = X := ⟨_, rfl⟩
  have f0 : IntKind.i64.wrap ((N : Int) + 2) = X := by rw [hX]; exact i64_small (by omega) (by omega)
  have f1 : IntKind.i64.wrap (X - 1) = (M : Int) := by rw [i64_small (by omega) (by omega)]; omega
  have HN := Lib.hid hN; have HMN := Lib.hid hM
  clear hN hX
  have hM2 : M ≤ 101 := by omega
  have hmk := run_makeN (P := Try.prog) 23 3 (.int .i64 0) 1 8 Try.underlying23 Try.infoI M (by omega) (by omega)
  simp only [Value.cells, Nat.mul_one] at hmk
  have ho0 : Own (w.alloc (.cells (madeCells #[.int .i64 0] M) 3)) w.heap.size 3 (ints (tab M fun i => if i < 0 then INF else 0)) := (Own.newA w _ 3 (madeInts _)).congr (by rw [tab_congr (fun i _ => (if_neg (show ¬ i < 0 by omega)).symm)])
  have hb0 : Below w.heap.size w (w.alloc (.cells (madeCells #[.int .i64 0] M) 3)) := (Below.refl _ _).alloc (Nat.le_refl _) _
  clear hM
  go_enter Try.func44, Try.ntmps44
  go_wp2_with fail
  obtain ⟨g, hg⟩ : ∃ g, w.heap.size = g := ⟨_, rfl⟩
  rw [hg] at ho0 ⊢
  have hgw : w.heap.size ≤ g := by omega
  clear hmk f0 f1 hg
  go_loopw [20] (fun i wr => ∃ k : Nat, k ≤ M ∧ i = .int .i64 k ∧ Own wr g 3 (ints (tab M fun i => if i < k then INF else 0)) ∧ Below w.heap.size w wr) (fun i _ => M - (intOf i).toNat)
  case atStart => exact ⟨0, Nat.zero_le _, rfl, ho0, hb0⟩
  case round =>
    obtain ⟨k, hk, rfl, ho, hbel⟩ := hrel
    clear ho0 hb0
    by_cases hlt : k < M
    case pos =>
      have c1 := ho.cell? (i := k) (ints_get (by rw [tab_length]; exact hlt))
      have z1 := ho.frozen k
      have st := own_int_set ho k 1000000000
      have x1 : (0 : Int) ≤ (k : Int) := by omega
      have x2 : (k : Int) < (M : Int) := by omega
      have hbs := hbel.setCell (p := ⟨g, k, none⟩) hgw (.int .i64 1000000000)
      clear ho
      go_wp2_with fail
      go_roundw
      case rel =>
        refine ⟨k + 1, by omega, by go_num, st.congr ?_, hbs⟩
        rw [tab_set]
        congr 1
        refine tab_congr (fun i _ => ?_)
        by_cases e : i = k
        · rw [if_pos e, if_pos (by omega)]; rfl
        · rw [if_neg e]
          by_cases e2 : i < k
          · rw [if_pos e2, if_pos (by omega)]
          · rw [if_neg e2, if_neg (by omega)]
      case measure => (simp [intOf]; omega)
    case neg =>
      obtain rfl : k = M := by omega
      have ho2 : Own wr g 3 (ints (tab k (ppH P r 0 0))) := ho.congr (by rw [tab_congr (fun i hi => (by rw [if_pos hi, ppH_zero] : (if i < k then INF else 0) = ppH P r 0 0 i))])
      clear ho
      go_wp2_with fail
      go_loopw [29] (fun i wr => ∃ j : Nat, j ≤ N ∧ i = .int .i64 j ∧ Own wr g 3 (ints (tab k (ppH P r j 0))) ∧ Below w.heap.size w wr) (fun i _ => N - (intOf i).toNat)
      case atStart => exact ⟨0, Nat.zero_le _, rfl, ho2, hbel⟩
      case round =>
        obtain ⟨j, hj, rfl, ho, hbel⟩ := hrel
        clear ho2
        by_cases hlj : j < N
        case neg =>
          obtain rfl : j = N := by omega
          rw [hend.out] at ho
          go_wp2_with fail
          go_ret
          exact ⟨g, rfl, hgw, ho, hbel⟩
        case pos =>
          have hjP : j < P.length := by have := HN.out; omega
          have hjb := HB.out j hjP
          obtain ⟨bp, op, rfl, hbp, c0⟩ := HP.out j hjP
          have d0 := bcell hbel hbp c0
          have x1 : (0 : Int) ≤ (j : Int) := by omega
          have x2 : (j : Int) < (N : Int) := by omega
          obtain ⟨V, hV⟩ : ∃ V, P.getD j 0 = V := ⟨_, rfl⟩
          rw [hV] at d0 hjb
          have HV := Lib.hid hV; clear hV c0
          have ho0 : Own wr g 3 (ints (tab k (ppH P r j 0))) := ho
          have hbel0 := hbel
          clear ho hbel
          go_wp2_with fail
          clear d0
          go_loopw [36] (fun i wr => ∃ q : Nat, q ≤ 2 ∧ i = .int .i64 q ∧ Own wr g 3 (ints (tab k (ppH P r j q))) ∧ Below w.heap.size w wr) (fun i _ => 2 - (intOf i).toNat)
          case atStart => exact ⟨0, Nat.zero_le _, rfl, ho0, hbel0⟩
          case round =>
            obtain ⟨wE, rfl⟩ : ∃ y : World, y = wr := ⟨_, rfl⟩
            obtain ⟨q, hq, rfl, ho, hbel⟩ := hrel
            clear ho0 hbel0
            by_cases hlq : q < 2
            case neg =>
              obtain rfl : q = 2 := by omega
              have ho2 : Own wE g 3 (ints (tab k (ppH P r (j + 1) 0))) := ho.congr (by rw [tab_congr (fun i _ => ppH_next P r j i)])
              clear ho
              have g1 : IntKind.i64.wrap ((j : Int) + 1) = ((j + 1 : Nat) : Int) := by rw [i64_small (by omega) (by omega)]; omega
              go_wp2_with fail
              go_roundw
              case rel => exact ⟨j + 1, by omega, by go_num, ho2, hbel⟩
              case measure => (simp [intOf]; omega)
            case pos =>
              obtain ⟨bq, oq, rfl, hbq, c0⟩ := HQ.out q (by simpa using hlq)
              have d0 := bcell hbel hbq c0
              have hqb : -1000000 ≤ [r, 0].getD q 0 ∧ [r, 0].getD q 0 ≤ 1000000 := by
                rcases (show q = 0 ∨ q = 1 by omega) with rfl | rfl
                · simpa using hr
                · simp
              obtain ⟨Q, hQ⟩ : ∃ V, [r, 0].getD q 0 = V := ⟨_, rfl⟩
              rw [hQ] at d0 hqb
              obtain ⟨n, hn⟩ : ∃ n, j + q = n := ⟨_, rfl⟩
              have hnk : n < k := by have := HMN.out; omega
              have c1 := ho.cell? (i := n) (ints_get (by rw [tab_length]; exact hnk))
              rw [tab_getD hnk] at c1
              have z1 := ho.frozen n
              obtain ⟨O, hO⟩ : ∃ V, ppH P r j q n = V := ⟨_, rfl⟩
              rw [hO] at c1
              have hst := fun m => ppH_step (P := P) (r := r) (i := j) hlq m
              simp only [hn, HV.out, hQ, hO] at hst
              have HST := Lib.hid hst
              have cp := fun w => product_c V Q w (by omega)
              rw [prodZ_small (by omega) (by omega)] at cp
              have CP := Lib.hid cp
              have g1 : IntKind.i64.wrap ((j : Int) + (q : Int)) = (n : Int) := by rw [i64_small (by omega) (by omega)]; omega
              have g2 : (0 : Int) ≤ (q : Int) := by omega
              have g3 : (q : Int) < 2 := by omega
              have g4 : (0 : Int) ≤ (n : Int) := by omega
              have g5 : (n : Int) < (k : Int) := by omega
              have g6 : IntKind.i64.wrap ((q : Int) + 1) = ((q + 1 : Nat) : Int) := by rw [i64_small (by omega) (by omega)]; omega
              clear hQ hO hst cp c0
              obtain ⟨S, hS⟩ : ∃ t, V + Q = t := ⟨_, rfl⟩
              go_wp2_with fail
              have nG := ho.lt
              have hbR := Below.refl wE.heap.size wE
              refine wp_region_still_tail 15 (by kernel_rfl) (by kernel_rfl) ?_
              simp only [List.take_succ_cons, List.take_zero, List.drop_succ_cons, List.drop_zero]
              repeat still_step
              still_call ((CP.out _).mono (fun e w' h => ⟨h.1, h.2.symm⟩))
              repeat still_step
              refine wpStill_nil ?_
              change wpList _ _ _ _ _ wE.drew
              have d1 : wE.drew.cell? ⟨g, n, none⟩ = some (.int .i64 O) := c1
              have d2 : wE.drew.frozen? ⟨g, n, none⟩ = false := z1
              have hod : Own wE.drew g 3 (ints (tab k (ppH P r j q))) := ho
              have hbd : Below w.heap.size w wE.drew := hbel.drew
              generalize wE.drew = wD at d1 d2 hod hbd ⊢
              have st := own_int_set hod n (min O S)
              have hbs := hbd.setCell (p := ⟨g, n, none⟩) hgw (.int .i64 (min O S))
              clear c1 z1 ho hbel
              go_wp2_with fail
              go_roundw
              case rel =>
                refine ⟨q + 1, by omega, by go_num, st.congr ?_, hbs⟩
                rw [tab_set]
                congr 1
                refine tab_congr (fun i _ => ?_)
                rw [← HST.out i, hS]
              case measure => (simp [intOf]; omega)

set_option maxHeartbeats 400000 in
theorem toldPoly_c (ad : Option Addr) (cap : Nat) (p : List Int) (w : World) (hr : RdI w ad p) (hl : p.length ≤ 1048576) :
    Calls Try.prog 45 #[.slice ad p.length cap] w fun e w' => ∃ ad' cap', e = .returned (.tuple #[.slice ad' (if polyB p = true then p else []).length cap', .bool (polyB p)]) ∧ RdI w' ad' (if polyB p = true then p else []) ∧ Below w.heap.size w w' := by
  have c1 := isPoly_c ad cap p w hr hl
  have HR := Lib.hid hr; clear hr
  generalize polyB p = u at c1 ⊢
  have C1 := Lib.hid c1; clear c1
  go_enter Try.func45, Try.ntmps45
  go_wp2_with fail
  refine C1.out.mono ?_
  rintro e w1 ⟨rfl, rfl⟩
  cases u
  case false =>
    go_wp2_with fail
    go_ret2
    first | exact ⟨none, 0, rfl, RdI.nil _ _, Below.refl _ _⟩ | exact ⟨none, ⟨0, rfl⟩, RdI.nil _ _, Below.refl _ _⟩
  case true =>
    go_wp2_with fail
    go_ret2
    first | exact ⟨ad, cap, rfl, HR.out, Below.refl _ _⟩ | exact ⟨ad, ⟨cap, rfl⟩, HR.out, Below.refl _ _⟩
def fromOk (lead : Int) (l : List Int) : Bool := ((finB' lead && decide (l.length ≤ 12)) && l.all finB') && polyB (fromP lead l)
theorem from_bd {lead : Int} {l : List Int} (h1 : finB' lead = true) (h2 : l.all finB' = true) (h3 : l.length ≤ 12) : ∀ i, i < (fromP lead l).length → -20000000 ≤ (fromP lead l).getD i 0 ∧ (fromP lead l).getD i 0 ≤ 20000000 := fun i hi => by
  rw [fromP_len] at hi
  rw [fromP_at hi]
  have hl := finB'_t.1 h1
  have hb := preS_bd (s := sortR l) (fun v hv => finB'_t.1 (List.all_eq_true.1 h2 v (sortR_mem hv))) (l.length - i)
  omega
theorem all_take {l : List Int} {q : Int → Bool} (h : l.all q = true) (k : Nat) : (l.take k).all q = true := List.all_eq_true.2 (fun x hx => List.all_eq_true.1 h x (List.mem_of_mem_take hx))
set_option maxHeartbeats 3200000 in
set_option maxRecDepth 100000 in
theorem iFromRoots_c (lead : Int) (ad : Option Addr) (cap : Nat) (l : List Int) (w : World) (hr : RdI w ad l) (hl : l.length ≤ 1048576) :
    Calls Try.prog 16 #[.int .i64 lead, .slice ad l.length cap] w fun e w' => ∃ ad' cap', e = .returned (.tuple #[.slice ad' (if fromOk lead l = true then fromP lead l else []).length cap', .bool (fromOk lead l)]) ∧ RdI w' ad' (if fromOk lead l = true then fromP lead l else []) ∧ Below w.heap.size w w' := by
  have c1 := fun w => isFinite_c lead w
  have c2 := fun w hr => areFinite_c ad cap l w hr hl
  have HR := Lib.hid hr; clear hr
  rw [show inB lead (-1000000) 1000000 = finB' lead from rfl] at c1
  have hff : l.all finB = l.all finB' := rfl
  rw [hff] at c2
  obtain ⟨u1, h1⟩ : ∃ u, finB' lead = u := ⟨_, rfl⟩
  obtain ⟨u2, h2⟩ : ∃ u, decide (l.length ≤ 12) = u := ⟨_, rfl⟩
  obtain ⟨u3, h3⟩ : ∃ u, l.all finB' = u := ⟨_, rfl⟩
  obtain ⟨u4, h4⟩ : ∃ u, fromOk lead l = u := ⟨_, rfl⟩
  have hok : (((u1 && u2) && u3) && polyB (fromP lead l)) = u4 := by rw [← h4, ← h1, ← h2, ← h3]; rfl
  simp only [h1] at c1
  simp only [h3] at c2
  rw [h4]
  have C1 := Lib.hid c1; have C2 := Lib.hid c2; have H1 := Lib.hid h1; have H2 := Lib.hid h2; have H3 := Lib.hid h3
  clear c1 c2 hff h4
  have hg : decide (12 < (l.length : Int)) = !u2 := by rw [← h2]; by_cases h : l.length ≤ 12 <;> simp [h] <;> omega
  clear h1 h2 h3
  cases u1
  case false =>
    obtain rfl : false = u4 := by rw [← hok]; rfl
    clear hok
    go_enter Try.func16, Try.ntmps16
    go_wp2_with fail
    refine (C1.out _).mono ?_
    rintro e w1 ⟨rfl, rfl⟩
    go_wp2_with fail
    go_ret2
    first | exact ⟨none, 0, rfl, RdI.nil _ _, Below.refl _ _⟩ | exact ⟨none, ⟨0, rfl⟩, RdI.nil _ _, Below.refl _ _⟩
  case true =>
    cases u2
    case false =>
      obtain rfl : false = u4 := by rw [← hok]; rfl
      clear hok
      rw [Bool.not_false] at hg
      go_enter Try.func16, Try.ntmps16
      go_wp2_with fail
      refine (C1.out _).mono ?_
      rintro e w1 ⟨rfl, rfl⟩
      go_wp2_with fail
      go_ret2
      first | exact ⟨none, 0, rfl, RdI.nil _ _, Below.refl _ _⟩ | exact ⟨none, ⟨0, rfl⟩, RdI.nil _ _, Below.refl _ _⟩
    case true =>
      rw [Bool.not_true] at hg
      cases u3
      case false =>
        obtain rfl : false = u4 := by rw [← hok]; rfl
        clear hok
        go_enter Try.func16, Try.ntmps16
        go_wp2_with fail
        refine (C1.out _).mono ?_
        rintro e w1 ⟨rfl, rfl⟩
        go_wp2_with fail
        refine (C2.out _ HR.out).mono ?_
        rintro e w1 ⟨rfl, rfl⟩
        go_wp2_with fail
        go_ret2
        first | exact ⟨none, 0, rfl, RdI.nil _ _, Below.refl _ _⟩ | exact ⟨none, ⟨0, rfl⟩, RdI.nil _ _, Below.refl _ _⟩
      case true =>
        have hl12 : l.length ≤ 12 := of_decide_eq_true H2.out
        have hok2 : polyB (fromP lead l) = u4 := by rw [← hok]; rfl
        have HOK := Lib.hid hok2
        have HBD := Lib.hid (fun k => from_bd H1.out (all_take H3.out k) (by rw [List.length_take]; omega))
        have HXB := Lib.hid (fun x hx => finB'_t.1 (List.all_eq_true.1 H3.out x hx))
        clear hok hok2 hl
        obtain ⟨N, hN⟩ : ∃ N, l.length = N := ⟨_, rfl⟩
        rw [hN] at hg hl12 ⊢
        have c2 := C2.out
        simp only [hN] at c2
        have C2 := Lib.hid c2
        have HN := Lib.hid hN
        clear hN c2
        have oM : Own (w.alloc (.cells #[.int .i64 lead] 3)) w.heap.size 3 (ints (fromP lead (l.take 0))) := by
          have := Own.newA w #[.int .i64 lead] 3 (cs := [.int .i64 lead]) rfl
          refine this.congr ?_
          simp [fromP, tab, preS, sortR, ints, isum]
        have hbA := (Below.refl w.heap.size w).alloc (Nat.le_refl _) (.cells #[.int .i64 lead] 3)
        have OM := Lib.hid oM; have HBA := Lib.hid hbA
        clear oM hbA
        go_enter Try.func16, Try.ntmps16
        go_wp2_with fail
        refine (C1.out _).mono ?_
        rintro e w1 ⟨rfl, rfl⟩
        go_wp2_with fail
        refine (C2.out _ HR.out).mono ?_
        rintro e w1 ⟨rfl, rfl⟩
        go_wp2_with fail
        go_loopw [6, 26] (fun v i wr => ∃ k : Nat, k ≤ N ∧ i = .int .i64 k ∧ (∃ g, v = .slice (some ⟨g, 0, none⟩) (k + 1) (k + 1) ∧ Own wr g 3 (ints (fromP lead (l.take k)))) ∧ Below w.heap.size w wr) (fun _ i _ => N - (intOf i).toNat)
        case atStart => exact ⟨0, Nat.zero_le _, rfl, ⟨_, rfl, OM.out⟩, HBA.out⟩
        case round =>
          obtain ⟨wE, rfl⟩ : ∃ y : World, y = wr := ⟨_, rfl⟩
          obtain ⟨k, hk, rfl, ⟨g, rfl, ho⟩, hbel⟩ := hrel
          clear OM HBA
          by_cases hlt : k < N
          case neg =>
            obtain rfl : k = N := by omega
            have htk : l.take k = l := by rw [← HN.out]; exact List.take_length
            rw [htk] at ho
            have hfl : (fromP lead l).length = k + 1 := by rw [fromP_len, HN.out]
            have ct := toldPoly_c (some ⟨g, 0, none⟩) (k + 1) (fromP lead l) wE ho.rd (by omega)
            simp only [HOK.out, hfl] at ct
            have CT := Lib.hid ct
            clear ct htk ho
            go_wp2_with fail
            refine CT.out.mono ?_
            rintro e w2 ⟨ad2, cap2, rfl, hrd, hw2⟩
            have hb2 := hbel.trans (hw2.mono hbel.size)
            cases u4
            case false =>
              rw [if_neg (by simp)] at hrd ⊢
              have HRD := Lib.hid hrd; clear hrd
              go_wp2_with fail
              go_ret2
              first | exact ⟨ad2, cap2, rfl, HRD.out, hb2⟩ | exact ⟨ad2, ⟨cap2, rfl⟩, HRD.out, hb2⟩
            case true =>
              rw [if_pos rfl] at hrd ⊢
              have HRD := Lib.hid hrd; clear hrd
              go_wp2_with fail
              go_ret2
              first | exact ⟨ad2, cap2, rfl, HRD.out, hb2⟩ | exact ⟨ad2, ⟨cap2, rfl⟩, HRD.out, hb2⟩
          case pos =>
            have hkl : k < l.length := by have := HN.out; omega
            obtain ⟨bp, op, rfl, hbp, c0⟩ := HR.out k hkl
            have d0 := bcell hbel hbp c0
            have hxm : l.getD k 0 ∈ l := by simp [List.getD, hkl]
            have hxb := HXB.out _ hxm
            have hsn : l.take (k + 1) = l.take k ++ [l.getD k 0] := by rw [List.take_succ_eq_append_getElem hkl, List.getD_eq_getElem?_getD, List.getElem?_eq_getElem hkl, Option.getD_some]
            obtain ⟨x, hx⟩ : ∃ x, l.getD k 0 = x := ⟨_, rfl⟩
            rw [hx] at d0 hxb hsn
            have hfl : (fromP lead (l.take k)).length = k + 1 := by rw [fromP_len, List.length_take]; omega
            have hpr := prodL_from lead (l.take k) x
            rw [← hsn] at hpr
            have x1 : (0 : Int) ≤ (k : Int) := by omega
            have x2 : (k : Int) < (N : Int) := by omega
            have hnb := (Below.refl wE.heap.size wE).alloc (Nat.le_refl _) (.cells #[.int .i64 x, .int .i64 0] 3)
            have hoq := Own.newA wE #[.int .i64 x, .int .i64 0] 3 (cs := ints [x, 0]) rfl
            have cp := polyProduct_c (some ⟨g, 0, none⟩) (k + 1) (fromP lead (l.take k)) (some ⟨wE.heap.size, 0, none⟩) 2 x (wE.alloc (.cells #[.int .i64 x, .int .i64 0] 3)) (ho.rd.below hnb) hoq.rd (by omega) (by omega) (HBD.out k) hxb
            rw [hfl, hpr] at cp
            have CP := Lib.hid cp
            have hbN := hbel.alloc hbel.size (.cells #[.int .i64 x, .int .i64 0] 3)
            clear cp hpr hsn hx hxm hxb hoq hnb ho c0
            go_wp2_with fail
            refine CP.out.mono ?_
            rintro e w2 ⟨g2, rfl, hg2, ho2, hw2⟩
            have hb2 := hbN.trans (hw2.mono hbN.size)
            clear hw2 hbN d0 CP
            go_wp2_with fail
            go_roundw
            case rel => exact ⟨k + 1, by omega, by go_num, ⟨g2, rfl, ho2⟩, hb2⟩
            case measure => (simp [intOf]; omega)

end Go.Proofs.Ytekhmjhbdoigoaa

/-
  The reference's least coefficients, needless terms, same function. Printed by gen_fuG.py.
-/
namespace Go.Proofs.Ytekhmjhbdoigoaa
open Go.RowKit
set_option maxHeartbeats 1600000 in
theorem l1Same_c (ad : Option Addr) (cap : Nat) (l : List Int) (ad2 : Option Addr) (cap2 : Nat) (m : List Int) (w : World) (hl : l.length ≤ 1048576) (h1 : RdI w ad l) (h2 : RdI w ad2 m) :
    Calls Try.prog 37 #[.slice ad l.length cap, .slice ad2 m.length cap2] w fun e w' => e = .returned (.bool (decide (l = m))) ∧ Below w.heap.size w w' := by
  have H1 := Lib.hid h1; clear h1
  have H2 := Lib.hid h2; clear h2
  by_cases hlm : l.length = m.length
  case neg =>
    have hd0 : ((l.length : Int) != (m.length : Int)) = true := bne_iff_ne.2 (by omega)
    have hlm2 : ((l.length : Int) == (m.length : Int)) = false := beq_eq_false_iff_ne.2 (by omega)
    have hres : decide (l = m) = false := decide_eq_false (fun e => hlm (by rw [e]))
    rw [hres]
    clear hlm hres
    go_enter Try.func37, Try.ntmps37
    go_wp2_with fail
    go_ret
    exact ⟨rfl, Below.refl _ _⟩
  case pos =>
    obtain ⟨N, hN⟩ : ∃ N, l.length = N := ⟨_, rfl⟩
    have hM : m.length = N := by omega
    rw [hN, hM]
    have HN := Lib.hid hN; have HM := Lib.hid hM
    have hN2 : N ≤ 1048576 := by omega
    clear hN hM hlm hl
    have hd0 : ((N : Int) != (N : Int)) = false := by simp
    go_enter Try.func37, Try.ntmps37
    go_wp2_with fail
    clear hd0
    go_loopw [13] (fun i wr => ∃ k : Nat, k ≤ N ∧ i = .int .i64 k ∧ (∀ j, j < k → l.getD j 0 = m.getD j 0) ∧ Below w.heap.size w wr) (fun i _ => N - (intOf i).toNat)
    case atStart => exact ⟨0, Nat.zero_le _, rfl, fun j hj => by omega, Below.refl _ _⟩
    case round =>
      obtain ⟨k, hk, rfl, hlow, hbel⟩ := hrel
      have HLow := Lib.hid hlow; clear hlow
      obtain ⟨wo, rfl⟩ : ∃ wo : World, wo = wr := ⟨_, rfl⟩
      by_cases hlt : k < N
      · obtain ⟨b1, o1, rfl, hb1, c1⟩ := H1.out k (by have := HN.out; omega)
        obtain ⟨b2, o2, rfl, hb2, c2⟩ := H2.out k (by have := HM.out; omega)
        have k1 := bcell hbel hb1 c1
        have k2 := bcell hbel hb2 c2
        have x1 : (0 : Int) ≤ (k : Int) := by omega
        have x2 : (k : Int) < (N : Int) := by omega
        clear c1 c2
        by_cases he : l.getD k 0 = m.getD k 0
        · have HE := Lib.hid he
          generalize l.getD k 0 = a at k1 he
          generalize m.getD k 0 = b at k2 he
          have hd1 : (a == b) = true := by simpa using he
          have hd2 : (a != b) = false := by simp [he]
          clear he
          go_wp2_with fail
          go_quiet (fail)
          go_wp2_with fail
          go_roundw
          case rel =>
            refine ⟨k + 1, by omega, by go_num, fun j hj => ?_, bdrewN hbel _⟩
            by_cases e : j = k
            · subst e; exact HE.out
            · exact HLow.out j (by omega)
          case measure => simp [intOf]; omega
        · have HE := Lib.hid he
          generalize l.getD k 0 = a at k1 he
          generalize m.getD k 0 = b at k2 he
          have hd1 : (a == b) = false := by simpa using he
          have hd2 : (a != b) = true := by simpa using he
          clear he
          go_wp2_with fail
          go_quiet (fail)
          go_wp2_with fail
          go_ret
          exact ⟨ret_bool (decide_eq_false (fun e => HE.out (by rw [e]))).symm, bdrewN hbel _⟩
      · have he : k = N := by omega
        subst he
        go_wp2_with fail
        go_ret
        refine ⟨ret_bool (decide_eq_true ?_).symm, hbel⟩
        apply List.ext_getElem (by rw [HN.out, HM.out])
        intro i hi hi2
        have := HLow.out i (by have := HN.out; omega)
        simpa [List.getD, hi, hi2] using this
def lstQ (p : List Int) (q e : Nat) : Int := if e < q then lstA (cof p) (stP p) e else INF
def lstK (p : List Int) (q k e : Nat) : Int := if e < q ∨ e = k then lstA (cof p) (stP p) e else INF
def posC (p : List Int) (n : Nat) : Nat := if n = 0 then 0 else (corP p).getD (n - 1) 0 + 1
theorem lstQ_first {p : List Int} (hp : polyB p = true) (e : Nat) : (if e = (corP p).getD 0 0 then cof p ((corP p).getD 0 0) else lstQ p 0 e) = lstQ p ((corP p).getD 0 0 + 1) e := by
  have hc := (cor_facts hp).1
  unfold lstQ
  by_cases h : e = (corP p).getD 0 0
  · subst h
    rw [if_pos rfl, if_pos (by omega), lst_cor (cor_mem (by omega))]
  · rw [if_neg h, if_neg (by omega)]
    by_cases h2 : e < (corP p).getD 0 0 + 1
    · rw [if_pos h2, lst_low hp (by omega)]
    · rw [if_neg h2]
theorem lstK_start {p : List Int} {m : Nat} (h : m + 1 < (corP p).length) (e : Nat) : (if e = (corP p).getD (m + 1) 0 then cof p ((corP p).getD (m + 1) 0) else lstQ p ((corP p).getD m 0 + 1) e) = lstK p ((corP p).getD m 0 + 1) ((corP p).getD (m + 1) 0) e := by
  unfold lstQ lstK
  by_cases h1 : e = (corP p).getD (m + 1) 0
  · subst h1
    rw [if_pos rfl, if_pos (Or.inr rfl), lst_cor (cor_mem h)]
  · rw [if_neg h1]
    by_cases h2 : e < (corP p).getD m 0 + 1
    · rw [if_pos h2, if_pos (Or.inl h2)]
    · rw [if_neg h2, if_neg (by omega)]
theorem lstK_step {p : List Int} {q k : Nat} (hq : q < k) (e : Nat) : (if e = q then lstA (cof p) (stP p) q else lstK p q k e) = lstK p (q + 1) k e := by
  unfold lstK
  by_cases h1 : e = q
  · subst h1
    rw [if_pos rfl, if_pos (by omega)]
  · rw [if_neg h1]
    by_cases h2 : e < q ∨ e = k
    · rw [if_pos h2, if_pos (by omega)]
    · rw [if_neg h2, if_neg (by omega)]
theorem lstK_end (p : List Int) (k e : Nat) : lstK p k k e = lstQ p (k + 1) e := by
  unfold lstQ lstK
  by_cases h : e < k + 1
  · rw [if_pos h, if_pos (by omega)]
  · rw [if_neg h, if_neg (by omega)]
theorem lstQ_end {p : List Int} : tab p.length (lstQ p p.length) = leastP p := by
  unfold leastP
  refine tab_congr (fun e he => ?_)
  unfold lstQ
  rw [if_pos he]
theorem seg_bd2 {ci ck A E : Int} (h1 : -1000000 ≤ ci ∧ ci ≤ 1000000) (h2 : -1000000 ≤ ck ∧ ck ≤ 1000000) (hA : 0 ≤ A ∧ A ≤ 13) (hE : 0 ≤ E ∧ E ≤ 13) : (-13000000 ≤ ci * A ∧ ci * A ≤ 13000000) ∧ (-13000000 ≤ ck * E ∧ ck * E ≤ 13000000) := by
  have a1 := Int.mul_le_mul_of_nonneg_right h1.1 hA.1
  have a2 := Int.mul_le_mul_of_nonneg_right h1.2 hA.1
  have b1 := Int.mul_le_mul_of_nonneg_right h2.1 hE.1
  have b2 := Int.mul_le_mul_of_nonneg_right h2.2 hE.1
  omega
set_option maxHeartbeats 6400000 in
set_option maxRecDepth 100000 in
theorem rtLeast_c (ad : Option Addr) (cap : Nat) (p : List Int) (w : World) (hr : RdI w ad p) (hp : polyB p = true) :
    Calls Try.prog 28 #[.slice ad p.length cap] w fun e w' => ∃ g, e = .returned (.slice (some ⟨g, 0, none⟩) p.length p.length) ∧ w.heap.size ≤ g ∧ Own w' g 3 (ints (leastP p)) ∧ Below w.heap.size w w' := by
  have hpl := (polyB_t hp).1
  have hcf := cor_facts hp
  have HCB := Lib.hid (fun j (h : j < (corP p).length) => st_mem hp _ (cor_mem h))
  have HCI := Lib.hid (fun n (h : n + 1 < (corP p).length) => cor_inc (p := p) h)
  have HSG := Lib.hid (fun n (h : n + 1 < (corP p).length) e => lst_seg (p := p) (n := n) h (e := e))
  have HFST := Lib.hid (fun e => lstQ_first hp e)
  have HKS := Lib.hid (fun m (h : m + 1 < (corP p).length) e => lstK_start (p := p) h e)
  have HLAST := Lib.hid (cor_lastlen hp)
  have CC := Lib.hid (fun w hr => rtCorners_c ad cap p w hr hp)
  have HR := Lib.hid hr
  have hM1 := hcf.1
  have hM13 := hcf.2.1
  clear hr hcf hp
  have hmk := run_makeN (P := Try.prog) 23 3 (.int .i64 0) 1 8 Try.underlying23 Try.infoI p.length (by omega) (by omega)
  simp only [Value.cells, Nat.mul_one] at hmk
  have ho0 : Own (w.alloc (.cells (madeCells #[.int .i64 0] p.length) 3)) w.heap.size 3 (ints (tab p.length fun i => if i < 0 then INF else 0)) := (Own.newA w _ 3 (madeInts _)).congr (by rw [tab_congr (fun i _ => (if_neg (show ¬ i < 0 by omega)).symm)])
  have hb0 : Below w.heap.size w (w.alloc (.cells (madeCells #[.int .i64 0] p.length) 3)) := (Below.refl _ _).alloc (Nat.le_refl _) _
  obtain ⟨N, hN⟩ : ∃ N, p.length = N := ⟨_, rfl⟩
  have hlq := lstQ_end (p := p)
  have hcc := CC.out
  simp only [hN] at hcc
  have CC := Lib.hid hcc
  rw [hN] at hmk ho0 hb0 hpl hlq ⊢
  have HN := Lib.hid hN
  have HLQ := Lib.hid hlq
  clear hN hcc hlq
  go_enter Try.func28, Try.ntmps28
  go_wp2_with fail
  obtain ⟨g, hg⟩ : ∃ g, w.heap.size = g := ⟨_, rfl⟩
  rw [hg] at ho0 ⊢
  have hgw : w.heap.size ≤ g := by omega
  have hwg : w.heap.size = g := hg
  have HWG := Lib.hid hwg
  clear hmk hg hwg
  go_loopw [15] (fun i wr => ∃ k : Nat, k ≤ N ∧ i = .int .i64 k ∧ Own wr g 3 (ints (tab N fun i => if i < k then INF else 0)) ∧ Below w.heap.size w wr) (fun i _ => N - (intOf i).toNat)
  case atStart => exact ⟨0, Nat.zero_le _, rfl, ho0, hb0⟩
  case round =>
    obtain ⟨k, hk, rfl, ho, hbel⟩ := hrel
    clear ho0 hb0
    by_cases hlt : k < N
    case pos =>
      have c1 := ho.cell? (i := k) (ints_get (by rw [tab_length]; exact hlt))
      have z1 := ho.frozen k
      have st := own_int_set ho k 1000000000
      have x1 : (0 : Int) ≤ (k : Int) := by omega
      have x2 : (k : Int) < (N : Int) := by omega
      have hbs := hbel.setCell (p := ⟨g, k, none⟩) hgw (.int .i64 1000000000)
      clear ho
      go_wp2_with fail
      go_roundw
      case rel =>
        refine ⟨k + 1, by omega, by go_num, st.congr ?_, hbs⟩
        rw [tab_set]
        congr 1
        refine tab_congr (fun i _ => ?_)
        by_cases e : i = k
        · rw [if_pos e, if_pos (by omega)]; rfl
        · rw [if_neg e]
          by_cases e2 : i < k
          · rw [if_pos e2, if_pos (by omega)]
          · rw [if_neg e2, if_neg (by omega)]
      case measure => (simp [intOf]; omega)
    case neg =>
      obtain ⟨wA, rfl⟩ : ∃ y : World, y = wr := ⟨_, rfl⟩
      obtain rfl : k = N := by omega
      have ho2 : Own wA g 3 (ints (tab k (lstQ p 0))) := ho.congr (by rw [tab_congr (fun i hi => (by rw [if_pos hi]; unfold lstQ; rw [if_neg (by omega)] : (if i < k then INF else 0) = lstQ p 0 i))])
      clear ho
      go_wp2_with fail
      refine (CC.out _ (HR.out.below hbel)).mono ?_
      rintro e w2 ⟨vC, rfl, hrow, hw2⟩
      obtain ⟨adC, capC, rfl, hrdC⟩ := RowI.shape hrow
      rw [natL_len]
      have ho3 := ho2.belowAll hw2
      have hb2 := hbel.trans (hw2.mono hbel.size)
      have hrC := RowI.shape hrow
      have hgl := ho2.lt
      have HROW := Lib.hid hrow
      obtain ⟨M, hM⟩ : ∃ M, (corP p).length = M := ⟨_, rfl⟩
      rw [hM] at hM1 hM13 ⊢
      have HM := Lib.hid hM
      clear hrow hrC hM ho2 hw2
      go_wp2_with fail
      go_loopw [26] (fun i wx => ∃ n : Nat, n ≤ M ∧ i = .int .i64 n ∧ Own wx g 3 (ints (tab k (lstQ p (posC p n)))) ∧ RowI wx wA.heap.size (.slice adC (natL (corP p)).length capC) (natL (corP p)) ∧ Below w.heap.size w wx) (fun i _ => M - (intOf i).toNat)
      case atStart => exact ⟨0, Nat.zero_le _, rfl, ho3, HROW.out, hb2⟩
      case round =>
        obtain ⟨wx, rfl⟩ : ∃ y : World, y = wr := ⟨_, rfl⟩
        obtain ⟨n, hn, rfl, ho, hrow, hbel⟩ := hrel
        clear ho3 HROW hb2 hrdC
        by_cases hnM : n < M
        case neg =>
          obtain rfl : n = M := by omega
          have hpos : posC p n = k := by
            unfold posC
            rw [if_neg (by omega)]
            have := HLAST.out
            rw [HM.out] at this
            have := HN.out
            omega
          rw [hpos, HLQ.out] at ho
          clear hpos hrow
          go_wp2_with fail
          go_ret
          exact ⟨g, rfl, hgw, ho, hbel⟩
        case pos =>
          have hnc : n < (corP p).length := by have := HM.out; omega
          have hK := HCB.out n hnc
          obtain ⟨bC, offC, rfl, hbC, k1⟩ := RowI.rdc hrow n (by rw [natL_len]; exact hnc)
          rw [natL_getD hnc] at k1
          obtain ⟨kC, hkC⟩ : ∃ i, (corP p).getD n 0 = i := ⟨_, rfl⟩
          rw [hkC] at k1 hK
          obtain ⟨bp, off, rfl, hbp, c1⟩ := (HR.out.below hbel) kC hK.1
          have hbpw := (HR.out kC hK.1)
          obtain ⟨bp', off', hbe, hbpg, c1w⟩ := hbpw
          cases hbe
          rw [show p.getD kC 0 = cof p kC from rfl] at c1 c1w
          have hkN : kC < k := by have := HN.out; omega
          obtain ⟨ck, hck⟩ : ∃ i, cof p kC = i := ⟨_, rfl⟩
          rw [hck] at c1 c1w hK
          have z1 := ho.frozen kC
          have z0 := ho.cell? (i := kC) (ints_get (by rw [tab_length]; exact hkN))
          have x1 : (0 : Int) ≤ (n : Int) := by omega
          have x2 : (n : Int) < (M : Int) := by omega
          have x3 : (0 : Int) ≤ (kC : Int) := by omega
          have x4 : (kC : Int) < (k : Int) := by omega
          have x5 : IntKind.i64.wrap ((n : Int) + 1) = ((n + 1 : Nat) : Int) := by rw [i64_small (by omega) (by omega)]; omega
          have st := own_int_set ho kC ck
          have hbs := hbel.setCell (p := ⟨g, kC, none⟩) hgw (.int .i64 ck)
          have hrs : RowI (wx.setCell ⟨g, kC, none⟩ (.int .i64 ck)) wA.heap.size (.slice (some ⟨bC, offC, none⟩) (natL (corP p)).length capC) (natL (corP p)) := row_chg hrow (Chg.set g kC wx (.int .i64 ck)) hgl
          have hcl : (natL (corP p)).length = M := by rw [natL_len, HM.out]
          have HKC := Lib.hid hkC; have HCK := Lib.hid hck
          clear hkC hck ho
          by_cases h0 : n = 0
          case pos =>
            subst h0
            rw [Nat.add_zero] at k1
            have hq : Own (wx.setCell ⟨g, kC, none⟩ (.int .i64 ck)) g 3 (ints (tab k (lstQ p (posC p 1)))) := st.congr (by
              rw [tab_set]
              congr 1
              refine tab_congr (fun i _ => ?_)
              have := HFST.out i
              rw [HKC.out, HCK.out] at this
              have hp1 : posC p 1 = kC + 1 := by unfold posC; rw [if_neg (by omega), Nat.sub_self, HKC.out]
              rw [hp1]
              exact this)
            clear st hrow
            go_wp2_with fail
            generalize wx.setCell ⟨g, kC, none⟩ (.int .i64 ck) = wF at hq hrs hbs ⊢
            clear z0 z1 c1 k1
            go_roundw
            case rel => exact ⟨1, by omega, by go_num, hq, hrs, hbs⟩
            case measure => (simp [intOf]; omega)
          case neg =>
            obtain ⟨m, rfl⟩ : ∃ m, n = m + 1 := ⟨n - 1, by omega⟩
            have hm := HCB.out m (by omega)
            have k0 := (RowI.rdc hrs).at (j := m) (by rw [natL_len]; omega)
            rw [natL_getD (by omega)] at k0
            have hinc := HCI.out m (by omega)
            have hks := HKS.out m (by omega)
            have hsg := HSG.out m (by omega)
            have hpos : posC p (m + 1) = (corP p).getD m 0 + 1 := by unfold posC; rw [if_neg (by omega), Nat.add_sub_cancel]
            rw [hpos] at st
            have hkC2 := HKC.out
            rw [hkC2] at hinc hks hsg
            obtain ⟨iC, hiC⟩ : ∃ i, (corP p).getD m 0 = i := ⟨_, rfl⟩
            rw [hiC] at k0 hm hinc hks hsg st
            have hgne : bp ≠ g := by have := HWG.out; omega
            have c0w := (HR.out).at (j := iC) hm.1
            rw [show p.getD iC 0 = cof p iC from rfl] at c0w
            obtain ⟨ci, hci⟩ : ∃ i, cof p iC = i := ⟨_, rfl⟩
            rw [hci] at c0w hm hsg
            have hck2 := HCK.out
            rw [hck2] at hks hsg
            have hq : Own (wx.setCell ⟨g, kC, none⟩ (.int .i64 ck)) g 3 (ints (tab k (lstK p (iC + 1) kC))) := st.congr (by
              rw [tab_set]
              congr 1
              exact tab_congr (fun i _ => hks i))
            have e0 : (((m + 1 : Nat) : Int) == 0) = false := beq_eq_false_iff_ne.2 (by omega)
            have e0' : ((m : Int) + 1 == 0) = false := beq_eq_false_iff_ne.2 (by omega)
            obtain ⟨n, hnm⟩ : ∃ n, m + 1 = n := ⟨_, rfl⟩
            have f1 : IntKind.i64.wrap ((n : Int) - 1) = (m : Int) := by rw [i64_small (by omega) (by omega)]; omega
            have f2 : (0 : Int) ≤ (m : Int) := by omega
            have f3 : (m : Int) < (M : Int) := by omega
            have f4 : IntKind.i64.wrap ((iC : Int) + 1) = ((iC + 1 : Nat) : Int) := by rw [i64_small (by omega) (by omega)]; omega
            rw [hnm] at k1 x1 x2 x5 e0 ⊢
            have HNM := Lib.hid hnm
            have HSG2 := Lib.hid hsg
            have d1 := bcell hbs hbpg c1w
            clear st hks hsg hiC hci hkC2 hck2 hpos hrow hnm
            go_wp2_with fail
            generalize wx.setCell ⟨g, kC, none⟩ (.int .i64 ck) = wF at hq hrs hbs k0 d1 ⊢
            clear z0 z1 c1 k1
            (try go_wp2_with fail)
            go_loopw [9] (fun i wy => ∃ q : Nat, iC < q ∧ q ≤ kC ∧ i = .int .i64 q ∧ Own wy g 3 (ints (tab k (lstK p q kC))) ∧ RowI wy wA.heap.size (.slice (some ⟨bC, offC, none⟩) (natL (corP p)).length capC) (natL (corP p)) ∧ Below w.heap.size w wy) (fun i _ => kC - (intOf i).toNat)
            case atStart => exact ⟨iC + 1, by omega, by omega, by simp, hq, hrs, hbs⟩
            case round =>
              obtain ⟨wE, rfl⟩ : ∃ y : World, y = wr := ⟨_, rfl⟩
              obtain ⟨q, hq1, hq2, rfl, ho, hrow, hbel⟩ := hrel
              clear hq hrs hbs k0 d1
              by_cases hqk : q < kC
              case neg =>
                obtain rfl : q = kC := by omega
                have hq : Own wE g 3 (ints (tab k (lstQ p (posC p (n + 1))))) := ho.congr (by
                  congr 1
                  refine tab_congr (fun i _ => ?_)
                  rw [lstK_end]
                  have hp1 : posC p (n + 1) = q + 1 := by unfold posC; rw [if_neg (by omega), Nat.add_sub_cancel, ← HNM.out, HKC.out]
                  rw [hp1])
                clear ho
                go_wp2_with fail
                go_roundw
                case rel => exact ⟨n + 1, by omega, by go_num, hq, hrow, hbel⟩
                case measure => (simp [intOf]; omega)
              case pos =>
                have hside := HSG2.out q hq1 (by omega)
                have hA : 0 ≤ (kC : Int) - q ∧ (kC : Int) - q ≤ 13 := by omega
                have hE : 0 ≤ (q : Int) - iC ∧ (q : Int) - iC ≤ 13 := by omega
                obtain ⟨b1, b2⟩ := seg_bd2 hm.2 hK.2 hA hE
                have hD : 1 ≤ (kC : Int) - iC ∧ (kC : Int) - iC ≤ 13 := by omega
                obtain ⟨A, hAe⟩ : ∃ A, (kC : Int) - q = A := ⟨_, rfl⟩
                obtain ⟨B, hBe⟩ : ∃ A, (q : Int) - iC = A := ⟨_, rfl⟩
                obtain ⟨D, hDe⟩ : ∃ A, (kC : Int) - iC = A := ⟨_, rfl⟩
                rw [hAe] at hA b1 hside
                rw [hBe] at hE b2 hside
                rw [hDe] at hD hside
                obtain ⟨B1, hB1⟩ : ∃ t, ci * A = t := ⟨_, rfl⟩
                obtain ⟨B2, hB2⟩ : ∃ t, ck * B = t := ⟨_, rfl⟩
                rw [hB1] at b1 hside
                rw [hB2] at b2 hside
                obtain ⟨T, hT⟩ : ∃ t, B1 + B2 = t := ⟨_, rfl⟩
                rw [hT] at hside
                obtain ⟨U, hU⟩ : ∃ t, -T = t := ⟨_, rfl⟩
                have cf := fun w => frFloor_c U D w (by omega) (by omega)
                have hfb := flo_abs (n := U) (d := D) (by omega) (by omega)
                have hcz : ceiZ T D = -(floZ U D) := by unfold ceiZ; rw [hU]
                rw [hcz] at hside
                obtain ⟨G, hG⟩ : ∃ t, floZ U D = t := ⟨_, rfl⟩
                rw [hG] at hside cf hfb
                obtain ⟨Z, hZ⟩ : ∃ t, -G = t := ⟨_, rfl⟩
                rw [hZ] at hside
                have e1 : IntKind.i64.wrap ((kC : Int) - (q : Int)) = A := by rw [hAe]; exact i64_small (by omega) (by omega)
                have e2 : IntKind.i64.wrap (ci * A) = B1 := by rw [hB1]; exact i64_small (by omega) (by omega)
                have e3 : IntKind.i64.wrap ((q : Int) - (iC : Int)) = B := by rw [hBe]; exact i64_small (by omega) (by omega)
                have e4 : IntKind.i64.wrap (ck * B) = B2 := by rw [hB2]; exact i64_small (by omega) (by omega)
                have e5 : IntKind.i64.wrap (B1 + B2) = T := by rw [hT]; exact i64_small (by omega) (by omega)
                have e6 : IntKind.i64.wrap (-T) = U := by rw [hU]; exact i64_small (by omega) (by omega)
                have e7 : IntKind.i64.wrap ((kC : Int) - (iC : Int)) = D := by rw [hDe]; exact i64_small (by omega) (by omega)
                have e8 : IntKind.i64.wrap (-G) = Z := by rw [hZ]; exact i64_small (by omega) (by omega)
                have e9 : IntKind.i64.wrap ((q : Int) + 1) = ((q + 1 : Nat) : Int) := by rw [i64_small (by omega) (by omega)]; omega
                have CF := Lib.hid cf
                have HSD := Lib.hid hside
                have d0 := bcell hbel hbpg c0w
                have d1 := bcell hbel hbpg c1w
                have hbE : bp < wE.heap.size := Nat.lt_of_lt_of_le hbpg hbel.size
                have hqN : q < k := by omega
                have hpi : (0 : Int) ≤ (iC : Int) := by omega
                have hpi2 : (iC : Int) < (k : Int) := by omega
                have hq0 : (0 : Int) ≤ (q : Int) := by omega
                have hq3 : (q : Int) < (k : Int) := by omega
                have hv0 : (ints (tab k (lstK p q kC)))[q]? = some (.int .i64 _) := ints_get (by rw [tab_length]; exact hqN)
                have HV0 := Lib.hid hv0
                have hbR := Below.refl wE.heap.size wE
                clear cf hside hcz hAe hBe hDe hB1 hB2 hT hU hG hZ b1 b2 hA hE hD hv0
                go_wp2_with fail
                go_region_held3 (fun w' => w'.cell? ⟨bp, off + iC, none⟩ = some (.int .i64 ci) ∧ w'.cell? ⟨bp, off + kC, none⟩ = some (.int .i64 ck)) (with_reducible repeat' (first | apply And.intro | assumption | (refine cell_set' hgne ?_) | apply cell_alloc' | apply cell_drew'))
                  (first
                    | (go_at_call 67; (with_reducible refine (CF.out _).mono ?_); rintro e W1 ⟨rfl, hwK1⟩; have hbK1 : Below wE.heap.size wE W1 := ball (by with_reducible repeat (first | exact hbR | apply Below.drew | apply bal_alloc)) hwK1; have n0 := bcell hbK1 hbE d0; have n1 := bcell hbK1 hbE d1; have hoK := ho.belowAll hbK1; have zK0 := hoK.cell? HV0.out; have zK1 := hoK.frozen q))
                all_goals
                  have st := own_int_set hoK q Z
                  have hbF := (hbel.trans (hbK1.mono hbel.size)).setCell (p := ⟨g, q, none⟩) hgw (.int .i64 Z)
                  have hrF := row_chg (RowI.below hrow hbK1) (Chg.set g q W1 (.int .i64 Z)) hgl
                  have hq : Own (W1.setCell ⟨g, q, none⟩ (.int .i64 Z)) g 3 (ints (tab k (lstK p (q + 1) kC))) := st.congr (by
                    rw [tab_set]
                    congr 1
                    refine tab_congr (fun i _ => ?_)
                    rw [← HSD.out]
                    exact lstK_step hqk i)
                  clear st
                  go_wp2_with fail
                  generalize W1.setCell ⟨g, q, none⟩ (.int .i64 Z) = wG at hq hrF hbF ⊢
                  go_roundw
                  case rel => exact ⟨q + 1, by omega, by omega, by go_num, hq, hrF, hbF⟩
                  case measure => (simp [intOf]; omega)
set_option maxHeartbeats 800000 in
theorem sLeast_c (ad : Option Addr) (cap : Nat) (p : List Int) (w : World) (hr : RdI w ad p) (hl : p.length ≤ 1048576) :
    Calls Try.prog 6 #[.slice ad p.length cap] w fun e w' => ∃ ad' cap', e = .returned (.tuple #[.slice ad' (if polyB p = true then leastP p else []).length cap', .bool (polyB p)]) ∧ RdI w' ad' (if polyB p = true then leastP p else []) ∧ Below w.heap.size w w' := by
  have c1 := fun w hr => poGood_c ad cap p w hr hl
  have HR := Lib.hid hr; clear hr
  obtain ⟨u, hu⟩ : ∃ u, polyB p = u := ⟨_, rfl⟩
  simp only [hu] at c1 ⊢
  have C1 := Lib.hid c1; clear c1
  cases u
  case false =>
    rw [if_neg (by simp)]
    have HU := Lib.hid hu; clear hu
    go_enter Try.func6, Try.ntmps6
    go_wp2_with fail
    refine (C1.out _ HR.out).mono ?_
    rintro e w1 ⟨rfl, rfl⟩
    go_wp2_with fail
    go_ret2
    exact ⟨none, 0, rfl, RdI.nil _ _, Below.refl _ _⟩
  case true =>
    rw [if_pos rfl]
    have C2 := Lib.hid (rtLeast_c ad cap p w HR.out hu)
    have hln := leastP_len p
    have HU := Lib.hid hu; clear hu
    rw [hln]
    have HLN := Lib.hid hln; clear hln
    go_enter Try.func6, Try.ntmps6
    go_wp2_with fail
    refine (C1.out _ HR.out).mono ?_
    rintro e w1 ⟨rfl, rfl⟩
    go_wp2_with fail
    refine C2.out.mono ?_
    rintro e w2 ⟨g, rfl, hg, ho, hw2⟩
    have HO := Lib.hid ho; clear ho
    go_wp2_with fail
    go_ret2
    exact ⟨some ⟨g, 0, none⟩, p.length, rfl, HO.out.rd, hw2⟩
set_option maxHeartbeats 1600000 in
theorem sSame_c (adp : Option Addr) (capp : Nat) (p : List Int) (adq : Option Addr) (capq : Nat) (q : List Int) (w : World) (h1 : RdI w adp p) (h2 : RdI w adq q) (hl1 : p.length ≤ 1048576) (hl2 : q.length ≤ 1048576) :
    Calls Try.prog 14 #[.slice adp p.length capp, .slice adq q.length capq] w fun e w' => e = .returned (.tuple #[.bool ((polyB p && polyB q) && decide (leastP p = leastP q)), .bool (polyB p && polyB q)]) ∧ Below w.heap.size w w' := by
  have c1 := fun w hr => poGood_c adp capp p w hr hl1
  have c2 := fun w hr => poGood_c adq capq q w hr hl2
  have HP := Lib.hid h1; have HQ := Lib.hid h2
  obtain ⟨u, hu⟩ : ∃ u, polyB p = u := ⟨_, rfl⟩
  obtain ⟨v, hv⟩ : ∃ v, polyB q = v := ⟨_, rfl⟩
  simp only [hu] at c1
  simp only [hv] at c2
  rw [hu, hv]
  have C1 := Lib.hid c1; have C2 := Lib.hid c2; clear c1 c2 h1 h2
  cases u
  case false =>
    rw [Bool.false_and, Bool.false_and]
    have HU := Lib.hid hu; have HV := Lib.hid hv; clear hu hv
    go_enter Try.func14, Try.ntmps14
    go_wp2_with fail
    refine (C1.out _ HP.out).mono ?_
    rintro e w1 ⟨rfl, rfl⟩
    go_wp2_with fail
    go_ret2
    exact ⟨rfl, Below.refl _ _⟩
  case true =>
    cases v
    case false =>
      rw [Bool.and_false, Bool.false_and]
      have HU := Lib.hid hu; have HV := Lib.hid hv; clear hu hv
      go_enter Try.func14, Try.ntmps14
      go_wp2_with fail
      refine (C1.out _ HP.out).mono ?_
      rintro e w1 ⟨rfl, rfl⟩
      go_wp2_with fail
      refine (C2.out _ HQ.out).mono ?_
      rintro e w1 ⟨rfl, rfl⟩
      go_wp2_with fail
      go_ret2
      exact ⟨rfl, Below.refl _ _⟩
    case true =>
      rw [Bool.and_self, Bool.true_and]
      have CA := Lib.hid (fun w hr => rtLeast_c adp capp p w hr hu)
      have CB := Lib.hid (fun w hr => rtLeast_c adq capq q w hr hv)
      have hlp := leastP_len p
      have hlq := leastP_len q
      have hp13 : p.length ≤ 1048576 := hl1
      clear hu hv
      have CL := Lib.hid (fun ad cap ad2 cap2 w h1 h2 => l1Same_c ad cap (leastP p) ad2 cap2 (leastP q) w (by rw [hlp]; exact hl1) h1 h2)
      have cl := CL.out
      simp only [hlp, hlq] at cl
      have CL2 := Lib.hid cl
      obtain ⟨B, hB⟩ : ∃ B, decide (leastP p = leastP q) = B := ⟨_, rfl⟩
      simp only [hB] at cl
      have CL3 := Lib.hid cl
      rw [hB]
      clear cl hlp hlq CL CL2 hB
      go_enter Try.func14, Try.ntmps14
      go_wp2_with fail
      refine (C1.out _ HP.out).mono ?_
      rintro e w1 ⟨rfl, rfl⟩
      go_wp2_with fail
      refine (C2.out _ HQ.out).mono ?_
      rintro e w1 ⟨rfl, rfl⟩
      go_wp2_with fail
      refine (CA.out _ HP.out).mono ?_
      rintro e w2 ⟨g1, rfl, hg1, ho1, hw2⟩
      have HO1 := Lib.hid ho1; clear ho1
      go_wp2_with fail
      refine (CB.out _ (HQ.out.below hw2)).mono ?_
      rintro e w3 ⟨g2, rfl, hg2, ho2, hw3⟩
      have HO2 := Lib.hid ho2; clear ho2
      have HO3 := Lib.hid (HO1.out.belowAll hw3)
      have hb3 := ball hw2 hw3
      go_wp2_with fail
      refine (CL3.out _ _ _ _ _ HO3.out.rd HO2.out.rd).mono ?_
      rintro e w4 ⟨rfl, hw4⟩
      have hb4 := ball hb3 hw4
      go_wp2_with fail
      go_ret2
      exact ⟨rfl, hb4⟩

end Go.Proofs.Ytekhmjhbdoigoaa

/-
  The reference's needless terms. Printed by gen_fuM.py.
-/
namespace Go.Proofs.Ytekhmjhbdoigoaa
open Go.RowKit

theorem need_end {p : List Int} (hp : polyB p = true) {n : Nat} (h : n < (corP p).length) : needK p ((corP p).getD n 0 + 1) = needK p ((corP p).getD n 0) := needK_miss (need_cor hp (cor_mem h))
theorem need_first {p : List Int} (hp : polyB p = true) : needK p ((corP p).getD 0 0 + 1) = [] := by
  have := (cor_facts hp).1
  rw [need_end hp (by omega), need_low hp _ (Nat.le_refl _)]
set_option maxHeartbeats 6400000 in
set_option maxRecDepth 100000 in
theorem sNeedless_c (ad : Option Addr) (cap : Nat) (p : List Int) (w : World) (hr : RdI w ad p) (hl : p.length ≤ 1048576) :
    Calls Try.prog 8 #[.slice ad p.length cap] w fun e w' => ∃ v, e = .returned (.tuple #[v, .bool (polyB p)]) ∧ RowI w' w.heap.size v (if polyB p = true then natL (needK p p.length) else []) ∧ Below w.heap.size w w' := by
  have c1 := fun w hr => poGood_c ad cap p w hr hl
  have HR := Lib.hid hr; clear hr
  obtain ⟨iI, hiI0, hiI1, hiI2, hiI3⟩ := info_parts Try.infoI
  obtain ⟨u, hu⟩ : ∃ u, polyB p = u := ⟨_, rfl⟩
  simp only [hu] at c1 ⊢
  have C1 := Lib.hid c1; clear c1
  cases u
  case false =>
    rw [if_neg (by simp)]
    have HU := Lib.hid hu; clear hu
    go_enter Try.func8, Try.ntmps8
    go_wp2_with fail
    refine (C1.out _ HR.out).mono ?_
    rintro e w1 ⟨rfl, rfl⟩
    go_wp2_with fail
    go_ret2
    exact ⟨_, rfl, RowI.nil _ _, Below.refl _ _⟩
  case true =>
    rw [if_pos rfl]
    have hp := hu
    have hpl := (polyB_t hp).1
    obtain ⟨hM1, hM13, -, -⟩ := cor_facts hp
    have HCB := Lib.hid (fun j (h : j < (corP p).length) => st_mem hp _ (cor_mem h))
    have HCI := Lib.hid (fun n (h : n + 1 < (corP p).length) => cor_inc (p := p) h)
    have HSG := Lib.hid (fun n (h : n + 1 < (corP p).length) e => need_seg (p := p) (n := n) h (e := e))
    have HNE := Lib.hid (fun n h => need_end hp (n := n) h)
    have HNF := Lib.hid (need_first hp)
    have HLAST := Lib.hid (cor_lastlen hp)
    have HBD := Lib.hid (fun e (he : e < p.length) => numB_t ((polyB_t hp).2.1 e he))
    have CC := Lib.hid (fun w hr => rtCorners_c ad cap p w hr hp)
    clear hu hp
    go_enter Try.func8, Try.ntmps8
    go_wp2_with fail
    refine (C1.out _ HR.out).mono ?_
    rintro e w1 ⟨rfl, rfl⟩
    go_wp2_with fail
    refine (CC.out _ HR.out).mono ?_
    rintro e w1 ⟨vC, rfl, hrow, hb1⟩
    obtain ⟨adC, capC, rfl, hrdC⟩ := RowI.shape hrow
    rw [natL_len]
    have HRC := Lib.hid hrdC
    have HR1 := Lib.hid (HR.out.below hb1)
    obtain ⟨N, hN⟩ : ∃ N, p.length = N := ⟨_, rfl⟩
    obtain ⟨M, hM⟩ : ∃ M, (corP p).length = M := ⟨_, rfl⟩
    rw [hM] at hM1 hM13 ⊢
    have hN13 : N ≤ 13 := by omega
    have HN := Lib.hid hN; have HM := Lib.hid hM
    clear hrow hrdC C1 CC HR hpl hN hM
    go_wp2_with fail
    go_loopw [4, 6] (fun v i wr => ∃ n : Nat, 1 ≤ n ∧ n ≤ M ∧ i = .int .i64 n ∧ RowI wr w1.heap.size v (natL (needK p ((corP p).getD (n - 1) 0 + 1))) ∧ Below w1.heap.size w1 wr) (fun _ i _ => M - (intOf i).toNat)
    case atStart => exact ⟨1, Nat.le_refl _, hM1, rfl, by rw [Nat.sub_self, HNF.out]; exact RowI.nil _ _, Below.refl _ _⟩
    case round =>
      obtain ⟨wX, rfl⟩ : ∃ y : World, y = wr := ⟨_, rfl⟩
      obtain ⟨n, hn1, hnM, rfl, hrow, hbel⟩ := hrel
      by_cases hlt : n < M
      case neg =>
        obtain rfl : n = M := by omega
        have hlen : (corP p).getD (n - 1) 0 + 1 = p.length := by have := HLAST.out; rw [HM.out] at this; exact this
        rw [hlen] at hrow
        have HO := Lib.hid hrow
        have hbw := hb1.trans (hbel.mono hb1.size)
        clear hrow hlen
        go_wp2_with fail
        go_ret2
        exact ⟨_, rfl, rowI_lower HO.out hb1.size, hbw⟩
      case pos =>
        obtain ⟨m, rfl⟩ : ∃ m, n = m + 1 := ⟨n - 1, by omega⟩
        rw [Nat.add_sub_cancel] at hrow
        have hmc : m + 1 < (corP p).length := by have := HM.out; omega
        have hinc := HCI.out m hmc
        have hsg := HSG.out m hmc
        have hne := HNE.out (m + 1) hmc
        have hI := HCB.out m (by omega)
        have hK := HCB.out (m + 1) hmc
        have k0 := HRC.out m (by rw [natL_len]; omega)
        obtain ⟨bC, offC, rfl, hbC, k0⟩ := k0
        have k1 := HRC.out.at (j := m + 1) (by rw [natL_len]; exact hmc)
        rw [natL_getD (by omega)] at k0 k1
        obtain ⟨iC, hiC⟩ : ∃ i, (corP p).getD m 0 = i := ⟨_, rfl⟩
        obtain ⟨kC, hkC⟩ : ∃ i, (corP p).getD (m + 1) 0 = i := ⟨_, rfl⟩
        rw [hiC] at k0 hI hinc hsg hrow
        rw [hkC] at k1 hK hinc hsg hne
        have e0 := bcell hbel hbC k0
        have e1 := bcell hbel hbC k1
        obtain ⟨bp, off, rfl, hbp, c0⟩ := HR1.out iC hI.1
        have c1 := HR1.out.at (j := kC) hK.1
        rw [show p.getD iC 0 = cof p iC from rfl] at c0
        rw [show p.getD kC 0 = cof p kC from rfl] at c1
        obtain ⟨ci, hcie⟩ : ∃ i, cof p iC = i := ⟨_, rfl⟩
        obtain ⟨ck, hcke⟩ : ∃ i, cof p kC = i := ⟨_, rfl⟩
        rw [hcie] at c0 hI hsg
        rw [hcke] at c1 hK hsg
        have HSG2 := Lib.hid hsg
        have HKC := Lib.hid hkC
        have HNE2 := Lib.hid hne
        have f1 : IntKind.i64.wrap (((m + 1 : Nat) : Int) - 1) = (m : Int) := by rw [i64_small (by omega) (by omega)]; omega
        have f2 : (0 : Int) ≤ (m : Int) := by omega
        have f3 : (m : Int) < (M : Int) := by omega
        have f4 : (0 : Int) ≤ ((m + 1 : Nat) : Int) := by omega
        have f5 : ((m + 1 : Nat) : Int) < (M : Int) := by omega
        have f6 : IntKind.i64.wrap ((iC : Int) + 1) = ((iC + 1 : Nat) : Int) := by rw [i64_small (by omega) (by omega)]; omega
        clear k0 k1 hsg hiC hkC hcie hcke hne
        obtain ⟨n, hM'⟩ : ∃ M, m + 1 = M := ⟨_, rfl⟩
        rw [hM'] at e1 f1 f4 f5 ⊢
        have HRW := Lib.hid hrow; clear hrow
        go_wp2_with fail
        go_quiet (fail)
        have HRW2 := Lib.hid (RowI.below HRW.out (bdrewN (Below.refl _ _) nq))
        have hbel2 := bdrewN hbel nq
        go_wp2_with fail
        generalize wX.drewN nq = wq at HRW2 hbel2 ⊢
        clear hbel e0 e1 HRW
        have g6 : IntKind.i64.wrap ((n : Int) + 1) = ((n + 1 : Nat) : Int) := by rw [i64_small (by omega) (by omega)]; omega
        go_loopw [4, 9] (fun v i wr => ∃ q : Nat, iC < q ∧ q ≤ kC ∧ i = .int .i64 q ∧ RowI wr w1.heap.size v (natL (needK p q)) ∧ Below w1.heap.size w1 wr) (fun _ i _ => kC - (intOf i).toNat)
        case atStart => exact ⟨iC + 1, by omega, by omega, by simp, HRW2.out, hbel2⟩
        case round =>
          obtain ⟨wH, rfl⟩ : ∃ y : World, y = wr := ⟨_, rfl⟩
          obtain ⟨q, hq1, hq2, rfl, hrow, hbel⟩ := hrel
          clear HRW2 hbel2
          have HO := Lib.hid hrow; clear hrow
          by_cases hqk : q < kC
          case neg =>
            obtain rfl : q = kC := by omega
            go_wp2_with fail
            go_roundw
            case rel => exact ⟨n + 1, by omega, by omega, by go_num, by rw [Nat.add_sub_cancel, ← hM', HKC.out, HNE2.out]; exact HO.out, hbel⟩
            case measure => (simp [intOf]; omega)
          case pos =>
            have hside := HSG2.out q hq1 (by omega)
            have hqp : q < p.length := by have := hK.1; omega
            have hcb := HBD.out q hqp
            rw [show p.getD q 0 = cof p q from rfl] at hcb
            have cq := HR1.out.at (j := q) hqp
            rw [show p.getD q 0 = cof p q from rfl] at cq
            obtain ⟨V, hV⟩ : ∃ V, cof p q = V := ⟨_, rfl⟩
            rw [hV] at hcb cq hside
            obtain ⟨nb, hnb⟩ : ∃ b, needB p q = b := ⟨_, rfl⟩
            rw [hnb] at hside
            have dq := bcell hbel hbp cq
            have y1 : (0 : Int) ≤ (q : Int) := by omega
            have y2 : (q : Int) < (N : Int) := by have := HN.out; omega
            have e9 : IntKind.i64.wrap ((q : Int) + 1) = ((q + 1 : Nat) : Int) := by rw [i64_small (by omega) (by omega)]; omega
            have HNB := Lib.hid hnb
            have HSD := Lib.hid hside
            clear hV hnb hside cq
            go_upto_region 12 with fail
            go_cut [69] from 37 to 69 (fun s wc => s = .bool nb ∧ Below wH.heap.size wH wc)
            case first =>
              by_cases hi : V = 1000000000
              case pos =>
                have g0 : (V == 1000000000) = true := beq_iff_eq.2 hi
                have h2 := HSD.out
                rw [decide_eq_true (show V = INF from hi), Bool.true_or] at h2
                subst h2
                clear hi HSD
                go_wp2_with fail
                go_quiet (fail)
                go_wp2_with fail
                go_meet
                exact ⟨rfl, bdrewN (Below.refl _ _) nq⟩
              case neg =>
                have g0 : (V == 1000000000) = false := beq_eq_false_iff_ne.2 hi
                have h2 := HSD.out
                rw [decide_eq_false (show ¬ V = INF from hi), Bool.false_or] at h2
                have hVb : -1000000 ≤ V ∧ V ≤ 1000000 := by omega
                have hk13 : kC < 13 := by have := hK.1; have := HN.out; omega
                have hA : 0 ≤ (kC : Int) - q ∧ (kC : Int) - q ≤ 13 := by omega
                have hE : 0 ≤ (q : Int) - iC ∧ (q : Int) - iC ≤ 13 := by omega
                obtain ⟨b1, b2⟩ := seg_bd2 hI.2 hK.2 hA hE
                have hD : 0 ≤ (kC : Int) - iC ∧ (kC : Int) - iC ≤ 13 := by omega
                have b3 := (seg_bd2 hVb hVb hD hD).1
                obtain ⟨A, hAe⟩ : ∃ A, (kC : Int) - q = A := ⟨_, rfl⟩
                obtain ⟨B, hBe⟩ : ∃ A, (q : Int) - iC = A := ⟨_, rfl⟩
                obtain ⟨D, hDe⟩ : ∃ A, (kC : Int) - iC = A := ⟨_, rfl⟩
                rw [hAe] at hA b1 h2
                rw [hBe] at hE b2 h2
                rw [hDe] at hD b3 h2
                obtain ⟨B1, hB1⟩ : ∃ t, ci * A = t := ⟨_, rfl⟩
                obtain ⟨B2, hB2⟩ : ∃ t, ck * B = t := ⟨_, rfl⟩
                obtain ⟨B3, hB3⟩ : ∃ t, V * D = t := ⟨_, rfl⟩
                rw [hB1] at b1 h2
                rw [hB2] at b2 h2
                rw [hB3] at b3 h2
                obtain ⟨T, hT⟩ : ∃ t, B1 + B2 = t := ⟨_, rfl⟩
                rw [hT] at h2
                have e1 : IntKind.i64.wrap ((kC : Int) - (q : Int)) = A := by rw [hAe]; exact i64_small (by omega) (by omega)
                have e2 : IntKind.i64.wrap (ci * A) = B1 := by rw [hB1]; exact i64_small (by omega) (by omega)
                have e3 : IntKind.i64.wrap ((q : Int) - (iC : Int)) = B := by rw [hBe]; exact i64_small (by omega) (by omega)
                have e4 : IntKind.i64.wrap (ck * B) = B2 := by rw [hB2]; exact i64_small (by omega) (by omega)
                have e5 : IntKind.i64.wrap (B1 + B2) = T := by rw [hT]; exact i64_small (by omega) (by omega)
                have e7 : IntKind.i64.wrap ((kC : Int) - (iC : Int)) = D := by rw [hDe]; exact i64_small (by omega) (by omega)
                have e8 : IntKind.i64.wrap (V * D) = B3 := by rw [hB3]; exact i64_small (by omega) (by omega)
                have d0 := bcell hbel hbp c0
                have d1 := bcell hbel hbp c1
                have hpi : (0 : Int) ≤ (iC : Int) := by omega
                have hpi2 : (iC : Int) < (N : Int) := by have := HN.out; omega
                have hpk : (0 : Int) ≤ (kC : Int) := by omega
                have hpk2 : (kC : Int) < (N : Int) := by have := HN.out; omega
                have H2 := Lib.hid h2
                clear h2 hi HSD hAe hBe hDe hB1 hB2 hB3 hT b1 b2 b3 hA hE hD
                by_cases hc : T < B3
                case pos =>
                  have g3 : decide (T < B3) = true := decide_eq_true hc
                  have h3 := H2.out
                  rw [g3] at h3
                  subst h3
                  clear hc H2
                  go_wp2_with fail
                  go_quiet (fail)
                  go_wp2_with fail
                  go_meet
                  exact ⟨rfl, bdrewN (Below.refl _ _) nq⟩
                case neg =>
                  have g3 : decide (T < B3) = false := decide_eq_false hc
                  have h3 := H2.out
                  rw [g3] at h3
                  subst h3
                  clear hc H2
                  go_wp2_with fail
                  go_quiet (fail)
                  go_wp2_with fail
                  go_meet
                  exact ⟨rfl, bdrewN (Below.refl _ _) nq⟩
            case rest =>
              obtain ⟨rfl, hbc⟩ := hcut
              obtain ⟨wH2, rfl⟩ : ∃ x : World, x = wc := ⟨_, rfl⟩
              have HOH := Lib.hid (RowI.below HO.out hbc)
              have hbH := ball hbel hbc
              clear hbel hbc HO HSD dq
              cases nb
              case false =>
                have hfk := Lib.hid (needK_miss HNB.out)
                go_wp2_with fail
                go_roundw
                case rel => exact ⟨q + 1, by omega, by omega, by go_num, by rw [hfk.out]; exact HOH.out, hbH⟩
                case measure => (simp [intOf]; omega)
              case true =>
                have hfk := Lib.hid (needK_hit HNB.out)
                have hfl := needK_len p q
                have hzE := hbH.size
                obtain ⟨o, ho⟩ : ∃ o, needK p q = o := ⟨_, rfl⟩
                rw [ho] at HOH hfk hfl
                clear ho
                obtain ⟨L, hL⟩ : ∃ N, o.length = N := ⟨_, rfl⟩
                obtain ⟨adv, capv, rfl, -⟩ := RowI.shape HOH.out
                have HL := Lib.hid hL
                rw [natL_len, hL] at HOH ⊢
                rw [hL] at hfl
                clear hL
                go_wp2_with (at_builtin; refine wpList_append_lies _ rfl _ _ 23 rfl w1.heap.size 3 iI _ 1 8 Try.underlying23 hiI0 hiI1 hiI2 hiI3 rfl (by omega) (.slice adv L capv) L (ints (natL o)) rfl ((rowN HOH.out HL.out).alloc _) ⟨wH2.heap.size, 0, none⟩ 1 1 [.int .i64 (q : Int)] rfl rfl (World.news_of_block (cs := #[.int .i64 (q : Int)]) (t := 3) (fr := (0, 0)) (heap_alloc_new _ _)) (by simp [Value.oneCell']) (by omega) (by unfold maxLen; omega) (by omega) (by simp; omega) (wH2.heap.size + 1) (by simp) ?_; intro g5 cap5 wm hown hgrow hat hlt5; clear hat)
                have hbm := app_below hbH hzE (rowN HOH.out HL.out) hgrow
                go_roundw
                case rel => exact ⟨q + 1, by omega, by omega, by go_num, by rw [hfk.out, natL_snoc]; exact row_congr hown (by simp [natL_len, HL.out]) (by simp [ints]), hbm⟩
                case measure => (simp [intOf]; omega)

end Go.Proofs.Ytekhmjhbdoigoaa

/-
  A polynomial from its roots: the reference's. Printed by gen_fuH.py.
-/
namespace Go.Proofs.Ytekhmjhbdoigoaa
open Go.RowKit

/-! ### append of numbers at a step of a region that draws its order -/
theorem rdNewsI {w : World} {a : Addr} {xs : List Int} (h : RdI w (some a) xs) : ∀ j u, (ints xs)[j]? = some u → w.cell? (a.add j) = some u := by
  intro j u hu
  have hj : j < xs.length := by
    have := List.getElem?_eq_some_iff.1 hu
    obtain ⟨h1, _⟩ := this
    rwa [ints_length] at h1
  obtain ⟨b, off, e, _, hc⟩ := h j hj
  cases e
  rw [ints_get hj] at hu
  have hadd : (⟨b, off, none⟩ : Addr).add j = ⟨b, off + j, none⟩ := by unfold Addr.add; split <;> simp_all
  rw [hadd, hc]
  exact hu
def ReadsN (w : World) (X : Value) (l : List Int) : Prop := ∃ b off c, X = .slice (some ⟨b, off, none⟩) l.length c ∧ RdI w (some ⟨b, off, none⟩) l
theorem ReadsN.below {w w' : World} {X : Value} {l : List Int} (h : ReadsN w X l) (hb : Below w.heap.size w w') : ReadsN w' X l := by
  obtain ⟨b, off, c, h1, h2⟩ := h
  exact ⟨b, off, c, h1, h2.below hb⟩
theorem step_appI {w : World} {ops : Array Oper} {o : Oper} {a : Act} {K : Act → World → Prop} {Q : Exit → Act → World → Prop} {E : Prop} (hgd : o.guard = none) (s x : Operand)
    (ho : o.op = .call { callee := .builtin .append, args := #[s, x], argTypes := #[23, 23] })
    (B : Nat) (v X : Value) (l m : List Int) (hs : a.eval s = v) (hx : a.eval x = X) (hown : RowI w B v l) (hX : ReadsN w X m) (hl : l.length ≤ 100000) (hm : m.length ≤ 100000) (hB : B ≤ w.heap.size)
    (h : ∀ v' w', RowI w' B v' (l ++ m) → Below B w w' → w.grownBy w' v.ownBlock → K (a.put o.dst v') w') :
    if Region.wanted o (yielded ops a.tmps) = true then Oper.wp Try.prog o a w K Q else E := by
  have hw : Region.wanted o (yielded ops a.tmps) = true := by simp [Region.wanted, hgd]
  rw [if_pos hw]
  obtain ⟨iP, hiP, hzP, hsP, hbP⟩ := info_parts Try.infoI
  obtain ⟨b, off, c, rfl, hrd⟩ := hX
  obtain ⟨v', w', hr, h2, h3, _, _⟩ := run_append_own_at (P := Try.prog) w B 23 o.type 3 iP _ 1 8 Try.underlying23 hiP hzP hsP hbP rfl (by omega) v l.length (ints l) hown ⟨b, off, none⟩ m.length c (ints m) (by rw [ints_length]; omega) (rdNewsI hrd) (ints_oneCell m) (by unfold maxLen; omega) (by omega) hB
  unfold Oper.wp execOp
  simp only [ho, resolve, invoke, builtin, Sem.run_bind, Sem.run_pure, Result.andThen_ok, List.map_toArray, List.map_cons, List.map_nil, hs, hx, hr]
  exact h v' w' (row_congr h2 (by simp) (by simp [ints])) ((Below.refl _ _).grown h3 hB (fun q e => (hown.lt q e).1)) h3
theorem rowI_new (u : World) (B H : Nat) (hB : B ≤ u.heap.size) (hH : u.heap.size = H) : RowI (u.alloc (.cells #[] 3)) B (.slice (some ⟨H, 0, none⟩) 0 0) [] := by
  subst hH
  exact World.ownsRow_made u #[] 0 hB (by decide) rfl
theorem readsN_one (u : World) (H : Nat) (x : Int) (hH : u.heap.size = H) : ReadsN (u.alloc (.cells #[.int .i64 x] 3)) (.slice (some ⟨H, 0, none⟩) 1 1) [x] := by
  subst hH
  refine ⟨_, _, 1, rfl, fun j hj => ?_⟩
  obtain rfl : j = 0 := by simpa using hj
  exact ⟨_, _, rfl, by simp, by simp [go_sem]⟩
theorem ReadsN.alloc' {w : World} {X : Value} {l : List Int} {o : Obj} (h : ReadsN w X l) : ReadsN (w.alloc o) X l := h.below ((Below.refl _ _).alloc (Nat.le_refl _) _)
theorem ReadsN.drew' {w : World} {X : Value} {l : List Int} (h : ReadsN w X l) : ReadsN w.drew X l := h.below (Below.refl _ _).drew
theorem RowI.alloc' {w : World} {B : Nat} {v : Value} {l : List Int} {o : Obj} (h : RowI w B v l) : RowI (w.alloc o) B v l := h.below ((Below.refl _ _).alloc (Nat.le_refl _) _)
theorem RowI.drew' {w : World} {B : Nat} {v : Value} {l : List Int} (h : RowI w B v l) : RowI w.drew B v l := h.below (Below.refl _ _).drew
theorem ReadsN.grown {w w' : World} {row : Option Nat} {H : Nat} {x : List Int} (h : ReadsN w (.slice (some ⟨H, 0, none⟩) 1 1) x) (hg : w.grownBy w' row) (hne : some H ≠ row) : ReadsN w' (.slice (some ⟨H, 0, none⟩) 1 1) x := by
  obtain ⟨b, off, c, h1, h2⟩ := h
  refine ⟨b, off, c, h1, fun j hj => ?_⟩
  injection h1 with h1 _ _
  injection h1 with h1
  injection h1 with h1 h1' _
  subst h1; subst h1'
  obtain ⟨b', off', e, hl, c0⟩ := h2 j hj
  cases e
  exact ⟨_, _, rfl, Nat.lt_of_lt_of_le hl hg.size, by rw [World.grownBy.cell_far hg _ hl hne]; exact c0⟩
theorem RdI.takeDrop {w : World} {b off : Nat} {l : List Int} (h : RdI w (some ⟨b, off, none⟩) l) (k : Nat) : RdI w (some ⟨b, off, none⟩) (l.take k) ∧ RdI w (some ⟨b, off + k, none⟩) (l.drop k) := by
  refine ⟨fun j hj => ?_, fun j hj => ?_⟩
  · have hj' : j < k ∧ j < l.length := by rw [List.length_take] at hj; omega
    obtain ⟨b', off', e, hl, c0⟩ := h j hj'.2
    have e' : (l.take k).getD j 0 = l.getD j 0 := by simp [List.getD_eq_getElem?_getD, hj'.1]
    exact ⟨b', off', e, hl, by rw [e']; exact c0⟩
  · have hj' : k + j < l.length := by rw [List.length_drop] at hj; omega
    obtain ⟨b', off', e, hl, c0⟩ := h (k + j) hj'
    have e' : (l.drop k).getD j 0 = l.getD (k + j) 0 := by simp [List.getD_eq_getElem?_getD]
    cases e
    exact ⟨b, off + k, rfl, hl, by rw [e', show off + k + j = off + (k + j) by omega]; exact c0⟩
/-! ### the plain law of the insertion and of the check -/
theorem insR_at {r : Int} : ∀ {s : List Int} {k : Nat}, k ≤ s.length → (∀ i, i < k → s.getD i 0 < r) → (k < s.length → ¬ s.getD k 0 < r) → insR r s = s.take k ++ r :: s.drop k
  | [], k, hk, _, _ => by obtain rfl : k = 0 := by simpa using hk
                          rfl
  | a :: t, 0, _, _, h2 => by
    have := h2 (by simp)
    rw [List.getD_cons_zero] at this
    rw [insR, if_neg this]
    rfl
  | a :: t, k + 1, hk, h1, h2 => by
    have h0 := h1 0 (by omega)
    rw [List.getD_cons_zero] at h0
    rw [insR, if_pos h0, insR_at (s := t) (k := k) (by simpa using hk) (fun i hi => by have := h1 (i + 1) (by omega); rwa [List.getD_cons_succ] at this) (fun hk2 => by have := h2 (by simpa using hk2); rwa [List.getD_cons_succ] at this)]
    rfl
theorem from_ok {lead : Int} {l : List Int} (h1 : finB' lead = true) (h2 : l.all finB' = true) (h3 : l.length ≤ 12) : polyB (fromP lead l) = (fromP lead l).all finB' := by
  have hbd := from_bd h1 h2 h3
  have hlen := fromP_len lead l
  cases h : (fromP lead l).all finB' with
  | true =>
    have hlast := hbd l.length (by omega)
    unfold polyB
    rw [inB_t.2 (by omega), Bool.true_and, Bool.and_eq_true_iff]
    refine ⟨List.all_eq_true.2 (fun x hx => ?_), decide_eq_true ?_⟩
    · have := List.all_eq_true.1 h x hx
      unfold numB
      unfold finB' at this
      rw [this, Bool.true_or]
    · rw [hlen, Nat.add_sub_cancel]
      omega
  | false =>
    cases hp : polyB (fromP lead l) with
    | false => rfl
    | true =>
      exfalso
      obtain ⟨x, hx, hne⟩ := List.all_eq_false.1 h
      obtain ⟨i, hi, rfl⟩ := List.getElem_of_mem hx
      have h5 := numB_t ((polyB_t hp).2.1 i hi)
      have h6 := hbd i hi
      rw [List.getD_eq_getElem?_getD, List.getElem?_eq_getElem hi, Option.getD_some] at h5 h6
      exact hne (finB'_t.2 (by omega))
theorem from_fails {lead : Int} {l : List Int} {j : Nat} (hj : j ≤ l.length) (h : finB' (lead + preS (sortR l) j) = false) : (fromP lead l).all finB' = false := by
  refine List.all_eq_false.2 ⟨(fromP lead l).getD (l.length - j) 0, ?_, ?_⟩
  · have : l.length - j < (fromP lead l).length := by rw [fromP_len]; omega
    rw [List.getD_eq_getElem?_getD, List.getElem?_eq_getElem this, Option.getD_some]
    exact List.getElem_mem _
  · rw [fromP_at (by omega), show l.length - (l.length - j) = j by omega, h]
    simp
theorem from_all {lead : Int} {l : List Int} (h : ∀ i, i ≤ l.length → finB' (lead + preS (sortR l) i) = true) : (fromP lead l).all finB' = true := by
  refine List.all_eq_true.2 (fun x hx => ?_)
  obtain ⟨i, hi, rfl⟩ := List.getElem_of_mem hx
  have := fromP_at (lead := lead) (l := l) (n := i) (by rwa [fromP_len] at hi)
  rw [List.getD_eq_getElem?_getD, List.getElem?_eq_getElem hi, Option.getD_some] at this
  rw [this]
  exact h _ (by omega)
def outJ (lead : Int) (l : List Int) (j m : Nat) : Int := if l.length < m + j then lead + preS (sortR l) (l.length - m) else 0
set_option maxHeartbeats 6400000 in
set_option maxRecDepth 100000 in
theorem sFromRoots_c (lead : Int) (ad : Option Addr) (cap : Nat) (l : List Int) (w : World) (hr : RdI w ad l) (hl : l.length ≤ 1048576) :
    Calls Try.prog 17 #[.int .i64 lead, .slice ad l.length cap] w fun e w' => ∃ ad' cap', e = .returned (.tuple #[.slice ad' (if fromOk lead l = true then fromP lead l else []).length cap', .bool (fromOk lead l)]) ∧ RdI w' ad' (if fromOk lead l = true then fromP lead l else []) ∧ Below w.heap.size w w' := by
  have c1 := fun w => poFin_c lead w
  have c2 := fun w hr => l1All_any ad cap l (-1000000) 1000000 w hl hr
  have HR := Lib.hid hr; clear hr
  have hff : allB l (-1000000) 1000000 = l.all finB' := rfl
  rw [hff] at c2
  obtain ⟨ub1x, h1⟩ : ∃ u, finB' lead = u := ⟨_, rfl⟩
  obtain ⟨ub2x, h2⟩ : ∃ u, decide (l.length ≤ 12) = u := ⟨_, rfl⟩
  obtain ⟨ub3x, h3⟩ : ∃ u, l.all finB' = u := ⟨_, rfl⟩
  obtain ⟨ub4x, h4⟩ : ∃ u, fromOk lead l = u := ⟨_, rfl⟩
  have hok : (((ub1x && ub2x) && ub3x) && polyB (fromP lead l)) = ub4x := by rw [← h4, ← h1, ← h2, ← h3]; rfl
  simp only [h1] at c1
  simp only [h3] at c2
  rw [h4]
  have C1 := Lib.hid c1; have C2 := Lib.hid c2; have H1 := Lib.hid h1; have H2 := Lib.hid h2; have H3 := Lib.hid h3
  clear c1 c2 hff h4
  have hg : decide (12 < (l.length : Int)) = !ub2x := by rw [← h2]; by_cases h : l.length ≤ 12 <;> simp [h] <;> omega
  clear h1 h2 h3
  cases ub1x
  case false =>
    obtain rfl : false = ub4x := by rw [← hok]; rfl
    clear hok
    go_enter Try.func17, Try.ntmps17
    go_wp2_with fail
    refine (C1.out _).mono ?_
    rintro e w1 ⟨rfl, rfl⟩
    go_wp2_with fail
    go_ret2
    first | exact ⟨none, 0, rfl, RdI.nil _ _, Below.refl _ _⟩ | exact ⟨none, ⟨0, rfl⟩, RdI.nil _ _, Below.refl _ _⟩
  case true =>
    cases ub3x
    case false =>
      obtain rfl : false = ub4x := by rw [← hok]; cases ub2x <;> rfl
      clear hok
      go_enter Try.func17, Try.ntmps17
      go_wp2_with fail
      refine (C1.out _).mono ?_
      rintro e w1 ⟨rfl, rfl⟩
      go_wp2_with fail
      refine (C2.out _ HR.out).mono ?_
      rintro e w1 ⟨rfl, rfl⟩
      go_wp2_with fail
      go_ret2
      first | exact ⟨none, 0, rfl, RdI.nil _ _, Below.refl _ _⟩ | exact ⟨none, ⟨0, rfl⟩, RdI.nil _ _, Below.refl _ _⟩
    case true =>
      cases ub2x
      case false =>
        obtain rfl : false = ub4x := by rw [← hok]; rfl
        clear hok
        rw [Bool.not_false] at hg
        go_enter Try.func17, Try.ntmps17
        go_wp2_with fail
        refine (C1.out _).mono ?_
        rintro e w1 ⟨rfl, rfl⟩
        go_wp2_with fail
        refine (C2.out _ HR.out).mono ?_
        rintro e w1 ⟨rfl, rfl⟩
        go_wp2_with fail
        go_ret2
        first | exact ⟨none, 0, rfl, RdI.nil _ _, Below.refl _ _⟩ | exact ⟨none, ⟨0, rfl⟩, RdI.nil _ _, Below.refl _ _⟩
      case true =>
        rw [Bool.not_true] at hg
        have hl12 : l.length ≤ 12 := of_decide_eq_true H2.out
        have hok2 : (fromP lead l).all finB' = ub4x := by rw [← from_ok H1.out H3.out hl12, ← hok]; rfl
        have HOK := Lib.hid hok2
        have HXB := Lib.hid (fun x hx => finB'_t.1 (List.all_eq_true.1 H3.out x hx))
        have HLB := Lib.hid (finB'_t.1 H1.out)
        clear hok hok2 hl
        obtain ⟨N, hN⟩ : ∃ N, l.length = N := ⟨_, rfl⟩
        rw [hN] at hg hl12
        have c2 := C2.out
        simp only [hN] at c2
        have C2 := Lib.hid c2
        obtain ⟨M, hM⟩ : ∃ M, N + 1 = M := ⟨_, rfl⟩
        have f0 : IntKind.i64.wrap ((N : Int) + 1) = (M : Int) := by rw [i64_small (by omega) (by omega)]; omega
        have hmk := run_makeN (P := Try.prog) 23 3 (.int .i64 0) 1 8 Try.underlying23 Try.infoI M (by omega) (by omega)
        simp only [Value.cells, Nat.mul_one] at hmk
        have ho0 : Own (w.alloc (.cells (madeCells #[.int .i64 0] M) 3)) w.heap.size 3 (ints (tab M (outJ lead l 0))) := (Own.newA w _ 3 (madeInts _)).congr (by
          congr 1
          refine tab_congr (fun i hi => ?_)
          unfold outJ
          rw [if_neg (by omega)])
        have hb0 : Below w.heap.size w (w.alloc (.cells (madeCells #[.int .i64 0] M) 3)) := (Below.refl _ _).alloc (Nat.le_refl _) _
        have hrow0 : RowI ((w.alloc (.cells (madeCells #[.int .i64 0] M) 3)).alloc (.cells #[] 3)) (w.heap.size + 1) (.slice (some ⟨w.heap.size + 1, 0, none⟩) 0 0) (sortR (l.take 0)) := rowI_new _ _ _ (by simp) (by simp)
        have hbA := hb0.alloc hb0.size (.cells #[] 3)
        have ho1 := ho0.alloc (.cells #[] 3)
        have HO0 := Lib.hid ho1; have HRW0 := Lib.hid hrow0; have HBA0 := Lib.hid hbA
        rw [hN]
        have HN := Lib.hid hN; have HM := Lib.hid hM
        clear hN hM c2 ho0 ho1 hb0 hrow0 hbA
        go_enter Try.func17, Try.ntmps17
        go_wp2_with fail
        refine (C1.out _).mono ?_
        rintro e w1 ⟨rfl, rfl⟩
        go_wp2_with fail
        refine (C2.out _ HR.out).mono ?_
        rintro e w1 ⟨rfl, rfl⟩
        go_wp2_with fail
        have hPs : w.heap.size + 1 ≤ ((w.alloc (.cells (madeCells #[.int .i64 0] M) 3)).alloc (.cells #[] 3)).heap.size := by simp
        generalize (w.alloc (.cells (madeCells #[.int .i64 0] M) 3)).alloc (.cells #[] 3) = wP at HO0 HRW0 HBA0 hPs ⊢
        obtain ⟨g, hgw⟩ : ∃ g, w.heap.size = g := ⟨_, rfl⟩
        obtain ⟨B0, hB0⟩ : ∃ B, w.heap.size + 1 = B := ⟨_, rfl⟩
        rw [hgw] at HO0 HRW0 hB0 ⊢
        rw [hB0] at HRW0 ⊢
        have hgB : g < B0 := by omega
        have hwg : w.heap.size ≤ g := by omega
        have hBP : B0 ≤ wP.heap.size := by omega
        clear hmk f0 hgw hB0 C1 C2
        have hmLt := HO0.out.lt
        go_loopw [7, 33] (fun v i wr => ∃ k : Nat, k ≤ N ∧ i = .int .i64 k ∧ (∃ gs cs, v = .slice (some ⟨gs, 0, none⟩) k cs ∧ k ≤ cs ∧ RowI wr B0 v (sortR (l.take k))) ∧ Own wr g 3 (ints (tab M (outJ lead l 0))) ∧ B0 ≤ wr.heap.size ∧ Below w.heap.size w wr) (fun _ i _ => N - (intOf i).toNat)
        case atStart => exact ⟨0, Nat.zero_le _, rfl, ⟨_, _, rfl, Nat.le_refl _, HRW0.out⟩, HO0.out, hBP, HBA0.out⟩
        case round =>
          obtain ⟨wE, rfl⟩ : ∃ y : World, y = wr := ⟨_, rfl⟩
          obtain ⟨k, hk, rfl, ⟨gs, capv, rfl, hkc, hrow⟩, hoo, hBz, hbel⟩ := hrel
          clear HO0 HRW0 HBA0 hmLt
          by_cases hlt : k < N
          case neg =>
            obtain rfl : k = N := by omega
            have htk : l.take k = l := by rw [← HN.out]; exact List.take_length
            rw [htk] at hrow
            have hSl := sortR_len l
            have hSb := preS_bd (s := sortR l) (fun v hv => HXB.out v (sortR_mem hv))
            have hlk := HN.out
            have hMk := HM.out
            have hss : k = (sortR l).length := by omega
            have hk12 : k ≤ 12 := hl12
            have HSB := Lib.hid hSb; have HSL := Lib.hid hSl
            have HOO := Lib.hid hoo; have HRW := Lib.hid hrow
            clear hSb hSl hss hoo hrow htk
            go_wp2_with fail
            go_loopw [11, 12] (fun s i wr => ∃ j : Nat, j ≤ k + 1 ∧ i = .int .i64 ((k : Int) - (j : Int)) ∧ s = .int .i64 (lead + preS (sortR l) (min j k)) ∧ (∀ i, i < j → finB' (lead + preS (sortR l) i) = true) ∧ Own wr g 3 (ints (tab M (outJ lead l j))) ∧ RowI wr B0 (.slice (some ⟨gs, 0, none⟩) k capv) (sortR l) ∧ Below w.heap.size w wr) (fun _ i _ => (intOf i + 1).toNat)
            case atStart => exact ⟨0, Nat.zero_le _, by simp, by rw [Nat.zero_min, preS_zero]; simp, fun i h => absurd h (by omega), HOO.out, HRW.out, hbel⟩
            case round =>
              obtain ⟨wG, rfl⟩ : ∃ y : World, y = wr := ⟨_, rfl⟩
              obtain ⟨j, hj, rfl, rfl, hfin, hoo, hrow, hbel⟩ := hrel
              clear HOO HRW
              have HFIN := Lib.hid hfin; have HRW := Lib.hid hrow; have HOO := Lib.hid hoo
              clear hfin hrow hoo
              by_cases hjk : j ≤ k
              case neg =>
                obtain rfl : j = k + 1 := by omega
                have htr : true = ub4x := by rw [← HOK.out, from_all (fun i hi => HFIN.out i (by omega))]
                subst htr
                have hfe : tab M (outJ lead l (k + 1)) = fromP lead l := by
                  unfold fromP
                  rw [hlk, hMk]
                  refine tab_congr (fun m hm => ?_)
                  unfold outJ
                  rw [if_pos (by omega), hlk]
                have hfl : (fromP lead l).length = M := by rw [fromP_len, hlk, hMk]
                have hof := HOO.out
                rw [hfe] at hof
                have HOF := Lib.hid hof
                have HFL := Lib.hid hfl
                obtain ⟨D, hD⟩ : ∃ D, (k : Int) - ((k + 1 : Nat) : Int) = D := ⟨_, rfl⟩
                rw [hD]
                have g1 : decide (0 ≤ D) = false := decide_eq_false (by omega)
                clear hof hfe hfl hD
                go_wp2_with fail
                go_ret2
                first | exact ⟨some ⟨g, 0, none⟩, M, by rw [if_pos rfl, HFL.out]; rfl, HOF.out.rd, hbel⟩ | exact ⟨some ⟨g, 0, none⟩, ⟨M, by rw [HFL.out]; rfl⟩, HOF.out.rd, hbel⟩ | exact ⟨some ⟨g, 0, none⟩, M, by rw [HFL.out]; rfl, HOF.out.rd, hbel⟩
              case pos =>
                obtain ⟨e, he⟩ : ∃ e, k - j = e := ⟨_, rfl⟩
                have hie : (k : Int) - (j : Int) = (e : Int) := by omega
                have hmn : min j k = j := by omega
                rw [hie, hmn]
                have hsb := HSB.out j
                have hLb := HLB.out
                obtain ⟨s, hs⟩ : ∃ s, lead + preS (sortR l) j = s := ⟨_, rfl⟩
                have hsbd : -20000000 ≤ s ∧ s ≤ 20000000 := by omega
                rw [hs]
                obtain ⟨Z, hZ⟩ : ∃ z, finB' s = z := ⟨_, rfl⟩
                have cp := fun w => poFin_c s w
                simp only [hZ] at cp
                have CP := Lib.hid cp
                have HS := Lib.hid hs; have HZ := Lib.hid hZ
                have y1 : (0 : Int) ≤ (e : Int) := by omega
                have g1 : decide (0 ≤ (e : Int)) = true := decide_eq_true (by omega)
                have y2 : (e : Int) < (M : Int) := by omega
                clear cp hZ hs hsb hie hmn
                cases Z
                case false =>
                  have hfa : false = ub4x := by rw [← HOK.out, from_fails (j := j) (by omega) (by rw [HS.out]; exact HZ.out)]
                  subst hfa
                  go_wp2_with fail
                  refine (CP.out _).mono ?_
                  rintro e5 w5 ⟨rfl, rfl⟩
                  go_wp2_with fail
                  go_ret2
                  first | exact ⟨none, 0, rfl, RdI.nil _ _, hbel⟩ | exact ⟨none, ⟨0, rfl⟩, RdI.nil _ _, hbel⟩
                case true =>
                  have c1 := HOO.out.cell? (i := e) (ints_get (by rw [tab_length]; omega))
                  have z1 := HOO.out.frozen e
                  have st := own_int_set HOO.out e s
                  have hq : Own (wG.setCell ⟨g, e, none⟩ (.int .i64 s)) g 3 (ints (tab M (outJ lead l (j + 1)))) := st.congr (by
                    rw [tab_set]
                    congr 1
                    refine tab_congr (fun m hm => ?_)
                    unfold outJ
                    rw [hlk]
                    by_cases h1 : m = e
                    · rw [if_pos h1, if_pos (by omega), h1, show k - e = j by omega, HS.out]
                    · rw [if_neg h1]
                      by_cases h2 : k < m + j
                      · rw [if_pos h2, if_pos (by omega)]
                      · rw [if_neg h2, if_neg (by omega)])
                  have hbs := hbel.setCell (p := ⟨g, e, none⟩) hwg (.int .i64 s)
                  have hrs := row_chg HRW.out (Chg.set g e wG (.int .i64 s)) hgB
                  have hfin2 : ∀ i, i < j + 1 → finB' (lead + preS (sortR l) i) = true := fun i hi => by
                    rcases Nat.lt_or_ge i j with h | h
                    · exact HFIN.out i h
                    · obtain rfl : i = j := by omega
                      rw [HS.out]; exact HZ.out
                  have HF2 := Lib.hid hfin2
                  have g3 : IntKind.i64.wrap ((e : Int) - 1) = (k : Int) - ((j + 1 : Nat) : Int) := by rw [i64_small (by omega) (by omega)]; omega
                  obtain ⟨D, hD⟩ : ∃ D, (k : Int) - ((j + 1 : Nat) : Int) = D := ⟨_, rfl⟩
                  rw [hD] at g3
                  have HD := Lib.hid hD
                  clear hfin2 st hD
                  by_cases hjl : j < k
                  case pos =>
                    have g2 : decide (0 < (e : Int)) = true := decide_eq_true (by omega)
                    have g4 : IntKind.i64.wrap ((k : Int) - (e : Int)) = (j : Int) := by rw [i64_small (by omega) (by omega)]; omega
                    have y3 : (0 : Int) ≤ (j : Int) := by omega
                    have y4 : (j : Int) < (k : Int) := by omega
                    have q0 := (RowI.rdc (n := k) (cap := capv) (by exact hrs)).at (j := j) (by have := HSL.out; omega)
                    rw [Nat.zero_add] at q0
                    have hps := preS_succ (sortR l) j (by have := HSL.out; omega)
                    have hxm : (sortR l).getD j 0 ∈ sortR l := by
                      have : j < (sortR l).length := by have := HSL.out; omega
                      rw [List.getD_eq_getElem?_getD, List.getElem?_eq_getElem this, Option.getD_some]; exact List.getElem_mem _
                    have hxb := HXB.out _ (sortR_mem hxm)
                    obtain ⟨y, hy⟩ : ∃ y, (sortR l).getD j 0 = y := ⟨_, rfl⟩
                    rw [hy] at q0 hps hxb
                    have g5 : IntKind.i64.wrap (s + y) = lead + preS (sortR l) (min (j + 1) k) := by
                      rw [i64_small (by omega) (by omega), show min (j + 1) k = j + 1 by omega, hps, ← HS.out]; omega
                    obtain ⟨s2, hs2⟩ : ∃ t, lead + preS (sortR l) (min (j + 1) k) = t := ⟨_, rfl⟩
                    rw [hs2] at g5
                    have HS2 := Lib.hid hs2
                    clear hps hxm hy hs2
                    go_wp2_with fail
                    refine (CP.out _).mono ?_
                    rintro e5 w5 ⟨rfl, rfl⟩
                    go_wp2_with fail
                    generalize wG.setCell ⟨g, e, none⟩ (.int .i64 s) = wF at hq hrs hbs q0 ⊢
                    clear c1 z1
                    (try go_wp2_with fail)
                    go_roundw
                    case rel => exact ⟨j + 1, by omega, by rw [HD.out], by rw [HS2.out], HF2.out, hq, hrs, hbs⟩
                    case measure => (have hDD := HD.out; simp [intOf]; omega)
                  case neg =>
                    have g2 : decide (0 < (e : Int)) = false := decide_eq_false (by omega)
                    have hs2 : s = lead + preS (sortR l) (min (j + 1) k) := by rw [show min (j + 1) k = j by omega]; exact HS.out.symm
                    have HS2 := Lib.hid hs2
                    clear hs2
                    go_wp2_with fail
                    refine (CP.out _).mono ?_
                    rintro e5 w5 ⟨rfl, rfl⟩
                    go_wp2_with fail
                    generalize wG.setCell ⟨g, e, none⟩ (.int .i64 s) = wF at hq hrs hbs ⊢
                    clear c1 z1
                    (try go_wp2_with fail)
                    go_roundw
                    case rel => exact ⟨j + 1, by omega, by rw [HD.out], by rw [← HS2.out], HF2.out, hq, hrs, hbs⟩
                    case measure => (have hDD := HD.out; simp [intOf]; omega)
          case pos =>
            have hkl : k < l.length := by have := HN.out; omega
            obtain ⟨bp, op, rfl, hbp, c0⟩ := HR.out k hkl
            have d0 := bcell hbel hbp c0
            have hsn : l.take (k + 1) = l.take k ++ [l.getD k 0] := by rw [List.take_succ_eq_append_getElem hkl, List.getD_eq_getElem?_getD, List.getElem?_eq_getElem hkl, Option.getD_some]
            have hnx := sortR_snoc (l.take k) (l.getD k 0)
            rw [← hsn] at hnx
            obtain ⟨x, hx⟩ : ∃ x, l.getD k 0 = x := ⟨_, rfl⟩
            rw [hx] at d0 hnx
            have hol := sortR_len (l.take k)
            rw [List.length_take] at hol
            obtain ⟨o, ho⟩ : ∃ o, sortR (l.take k) = o := ⟨_, rfl⟩
            rw [ho] at hnx hrow hol
            have hok : o.length = k := by omega
            have HOK2 := Lib.hid hok
            have HNX := Lib.hid hnx; have HRO := Lib.hid hrow; have HOO := Lib.hid hoo
            have x1 : (0 : Int) ≤ (k : Int) := by omega
            have x2 : (k : Int) < (N : Int) := by omega
            clear hx hsn ho hol hnx hok c0 hrow hoo
            go_wp2_with fail
            clear d0
            go_loopw [10] (fun i wr => ∃ k2 : Nat, k2 ≤ k ∧ i = .int .i64 k2 ∧ (∀ i, i < k2 → o.getD i 0 < x) ∧ Below wE.heap.size wE wr) (fun i _ => k - (intOf i).toNat)
            case atStart => exact ⟨0, Nat.zero_le _, rfl, fun i h => absurd h (by omega), Below.refl _ _⟩
            case round =>
              obtain ⟨wG, rfl⟩ : ∃ y : World, y = wr := ⟨_, rfl⟩
              obtain ⟨k2, hk2, rfl, hal, hbG⟩ := hrel
              have HAL := Lib.hid hal; clear hal
              have HRG := Lib.hid (RowI.below HRO.out hbG)
              by_cases hle : k2 < k
              case pos =>
                have q0 := (RowI.rdc HRG.out).at (j := k2) (by have := HOK2.out; omega)
                rw [Nat.zero_add] at q0
                have y1 : (0 : Int) ≤ (k2 : Int) := by omega
                have y2 : (k2 : Int) < (k : Int) := by omega
                obtain ⟨y, hy⟩ : ∃ y, o.getD k2 0 = y := ⟨_, rfl⟩
                rw [hy] at q0
                have HY := Lib.hid hy; clear hy
                by_cases hyx : y < x
                case pos =>
                  have g1 : decide (y < x) = true := decide_eq_true hyx
                  have g2 : IntKind.i64.wrap ((k2 : Int) + 1) = ((k2 + 1 : Nat) : Int) := by rw [i64_small (by omega) (by omega)]; omega
                  have HYX := Lib.hid hyx; clear hyx
                  go_wp2_with fail
                  go_roundw
                  case rel => exact ⟨k2 + 1, by omega, by go_num, fun i hi => by
                    rcases Nat.lt_or_ge i k2 with h | h
                    · exact HAL.out i h
                    · obtain rfl : i = k2 := by omega
                      rw [HY.out]; exact HYX.out, hbG⟩
                  case measure => (simp [intOf]; omega)
                case neg =>
                  have g1 : decide (y < x) = false := decide_eq_false hyx
                  have hins := insR_at (r := x) (s := o) (k := k2) (by have := HOK2.out; omega) HAL.out (fun _ => by rw [HY.out]; exact hyx)
                  rw [← HNX.out] at hins
                  have HINS := Lib.hid hins; clear hins
                  have HRD := Lib.hid (RowI.rdc HRG.out)
                  obtain ⟨hA, hBd⟩ := RdI.takeDrop HRD.out k2
                  have hko := HOK2.out
                  rw [Nat.zero_add] at hBd
                  have HX1 := Lib.hid (show ReadsN wG (.slice (some ⟨gs, 0, none⟩) k2 capv) (o.take k2) from ⟨_, _, capv, by rw [List.length_take, Nat.min_eq_left (by omega)], hA⟩)
                  have hBw := Nat.le_trans hBz hbG.size
                  have HOG := Lib.hid (HOO.out.belowAll hbG)
                  have hbI := hbel.trans (hbG.mono hbel.size)
                  have z1 : (0 : Int) ≤ (k2 : Int) := by omega
                  have z2 : (k2 : Int) ≤ (k : Int) := by omega
                  have z3 : (k2 : Int) ≤ (capv : Int) := by omega
                  have z4 : (k : Int) ≤ (capv : Int) := by omega
                  have hglt := HOG.out.lt
                  have hl1 : o.length ≤ 100 := by omega
                  by_cases hkc2 : k2 < capv
                  case pos =>
                    have HX3 := Lib.hid (show ReadsN wG (.slice (some ⟨gs, k2, none⟩) (k - k2) (capv - k2)) (o.drop k2) from ⟨_, _, _, by rw [List.length_drop, hko], hBd⟩)
                    clear hA hBd hko
                    have hbal : ∀ W' o1, Below wG.heap.size wG W' → Below wG.heap.size wG (W'.alloc o1) := fun W' o1 h => h.alloc h.size o1
                    have hbdr : ∀ W', Below wG.heap.size wG W' → Below wG.heap.size wG W'.drew := fun W' h => h.drew
                    have HBA := Lib.hid hbal; have HBD := Lib.hid hbdr; clear hbal hbdr
                    go_wp2_with fail
                    go_region_held3 (fun _ => True) (trivial)
                      (first
                        | (refine step_appI (by rfl) _ _ (by rfl) wG.heap.size (.slice (some ⟨_, 0, none⟩) 0 0) (.slice (some ⟨gs, 0, none⟩) k2 capv) [] (o.take k2) (by rfl) (by first | rfl | (simp [Act.eval, Array.getD]; omega)) (by (with_reducible repeat (first | exact rowI_new _ _ _ (by simp) (by simp) | apply RowI.alloc' | apply RowI.drew'))) (by (with_reducible repeat (first | exact (HX1.out.below (by (with_reducible repeat (first | exact Below.refl _ _ | exact HZ1.out | exact HZ2.out | apply HBD.out | apply HBA.out)))) | apply ReadsN.alloc' | apply ReadsN.drew'))) (by (try simp) <;> omega) (by first | (rw [List.length_take]; omega) | (rw [List.length_drop]; omega) | simp) (by first | exact hzz1 | exact hzz2 | ((try simp) <;> omega)) ?_; intro v1 w1 hown1 hb1 hg1; have hz1 : Below wG.heap.size wG w1 := Below.trans (by (with_reducible repeat (first | exact Below.refl _ _ | exact HZ1.out | exact HZ2.out | apply HBD.out | apply HBA.out))) hb1; have HO1 := Lib.hid hown1; have HG1 := Lib.hid hg1; have hzz1 := hz1.size; have HZ1 := Lib.hid hz1; clear hown1 hb1 hg1 hz1)
                        | (refine step_appI (by rfl) _ _ (by rfl) wG.heap.size v1 (.slice (some ⟨_, 0, none⟩) 1 1) _ [x] (by rfl) (by first | rfl | (simp [Act.eval, Array.getD]; omega)) (by (with_reducible repeat (first | exact HO1.out | apply RowI.alloc' | apply RowI.drew'))) (by (with_reducible repeat (first | exact readsN_one _ _ _ (by simp) | refine ReadsN.grown ?_ HG1.out (by simp [Value.ownBlock]) | apply ReadsN.alloc' | apply ReadsN.drew'))) (by (try simp) <;> omega) (by first | (rw [List.length_take]; omega) | (rw [List.length_drop]; omega) | simp) (by first | exact hzz1 | exact hzz2 | ((try simp) <;> omega)) ?_; intro v2 w2 hown2 hb2 hg2; have hz2 : Below wG.heap.size wG w2 := Below.trans (by (with_reducible repeat (first | exact Below.refl _ _ | exact HZ1.out | exact HZ2.out | apply HBD.out | apply HBA.out))) hb2; have HO2 := Lib.hid hown2; have HG2 := Lib.hid hg2; have hzz2 := hz2.size; have HZ2 := Lib.hid hz2; clear hown2 hb2 hg2 hz2)
                        | (refine step_appI (by rfl) _ _ (by rfl) wG.heap.size v2 (.slice (some ⟨gs, k2, none⟩) (k - k2) (capv - k2)) _ (o.drop k2) (by rfl) (by first | rfl | (simp [Act.eval, Array.getD]; omega)) (by (with_reducible repeat (first | exact HO2.out | apply RowI.alloc' | apply RowI.drew'))) (by (with_reducible repeat (first | exact (HX3.out.below (by (with_reducible repeat (first | exact Below.refl _ _ | exact HZ1.out | exact HZ2.out | apply HBD.out | apply HBA.out)))) | apply ReadsN.alloc' | apply ReadsN.drew'))) (by (try simp) <;> omega) (by first | (rw [List.length_take]; omega) | (rw [List.length_drop]; omega) | simp) (by first | exact hzz1 | exact hzz2 | ((try simp) <;> omega)) ?_; intro v3 w3 hown3 hb3 hg3; have hz3 : Below wG.heap.size wG w3 := Below.trans (by (with_reducible repeat (first | exact Below.refl _ _ | exact HZ1.out | exact HZ2.out | apply HBD.out | apply HBA.out))) hb3; have HO3 := Lib.hid hown3; have HG3 := Lib.hid hg3; have hzz3 := hz3.size; have HZ3 := Lib.hid hz3; clear hown3 hb3 hg3 hz3))
                    all_goals
                      have heq : [] ++ o.take k2 ++ [x] ++ o.drop k2 = sortR (l.take (k + 1)) := by rw [HINS.out]; simp
                      have hrow3 : RowI w3 wG.heap.size v3 (sortR (l.take (k + 1))) := by have h := HO3.out; rw [heq] at h; exact h
                      have hlen3 : (sortR (l.take (k + 1))).length = k + 1 := by rw [sortR_len, List.length_take]; have := HN.out; omega
                      obtain ⟨g3, c3, rfl, hg3⟩ := RowI.own hrow3 (by omega)
                      obtain ⟨ad9, c9, he9, hc9, -⟩ := RowI.shape2 hrow3
                      injection he9 with _ _ e9
                      subst e9
                      rw [hlen3] at hrow3 hc9 ⊢
                      have hoF := HOG.out.belowAll HZ3.out
                      have hbF := hbI.trans (HZ3.out.mono hbI.size)
                      have hrF := Lib.hid (rowI_lower hrow3 hBw)
                      have hBF := Nat.le_trans hBw HZ3.out.size
                      clear hrow3 hlen3 heq HO3
                      go_wp2_with fail
                      go_roundw
                      case rel => exact ⟨k + 1, by omega, by go_num, ⟨g3, c3, rfl, hc9, hrF.out⟩, hoF, hBF, hbF⟩
                      case measure => (simp [intOf]; omega)
                  case neg =>
                    obtain rfl : k2 = capv := by omega
                    have HX3 := Lib.hid (show ReadsN wG (.slice (some ⟨gs, 0, none⟩) (k - k2) (k2 - k2)) (o.drop k2) from ⟨_, _, _, by rw [List.length_drop, hko], by rw [List.drop_eq_nil_of_le (by omega)]; exact RdI.nil _ _⟩)
                    clear hA hBd hko
                    have hbal : ∀ W' o1, Below wG.heap.size wG W' → Below wG.heap.size wG (W'.alloc o1) := fun W' o1 h => h.alloc h.size o1
                    have hbdr : ∀ W', Below wG.heap.size wG W' → Below wG.heap.size wG W'.drew := fun W' h => h.drew
                    have HBA := Lib.hid hbal; have HBD := Lib.hid hbdr; clear hbal hbdr
                    go_wp2_with fail
                    go_region_held3 (fun _ => True) (trivial)
                      (first
                        | (refine step_appI (by rfl) _ _ (by rfl) wG.heap.size (.slice (some ⟨_, 0, none⟩) 0 0) (.slice (some ⟨gs, 0, none⟩) k2 k2) [] (o.take k2) (by rfl) (by first | rfl | (simp [Act.eval, Array.getD]; omega)) (by (with_reducible repeat (first | exact rowI_new _ _ _ (by simp) (by simp) | apply RowI.alloc' | apply RowI.drew'))) (by (with_reducible repeat (first | exact (HX1.out.below (by (with_reducible repeat (first | exact Below.refl _ _ | exact HZ1.out | exact HZ2.out | apply HBD.out | apply HBA.out)))) | apply ReadsN.alloc' | apply ReadsN.drew'))) (by (try simp) <;> omega) (by first | (rw [List.length_take]; omega) | (rw [List.length_drop]; omega) | simp) (by first | exact hzz1 | exact hzz2 | ((try simp) <;> omega)) ?_; intro v1 w1 hown1 hb1 hg1; have hz1 : Below wG.heap.size wG w1 := Below.trans (by (with_reducible repeat (first | exact Below.refl _ _ | exact HZ1.out | exact HZ2.out | apply HBD.out | apply HBA.out))) hb1; have HO1 := Lib.hid hown1; have HG1 := Lib.hid hg1; have hzz1 := hz1.size; have HZ1 := Lib.hid hz1; clear hown1 hb1 hg1 hz1)
                        | (refine step_appI (by rfl) _ _ (by rfl) wG.heap.size v1 (.slice (some ⟨_, 0, none⟩) 1 1) _ [x] (by rfl) (by first | rfl | (simp [Act.eval, Array.getD]; omega)) (by (with_reducible repeat (first | exact HO1.out | apply RowI.alloc' | apply RowI.drew'))) (by (with_reducible repeat (first | exact readsN_one _ _ _ (by simp) | refine ReadsN.grown ?_ HG1.out (by simp [Value.ownBlock]) | apply ReadsN.alloc' | apply ReadsN.drew'))) (by (try simp) <;> omega) (by first | (rw [List.length_take]; omega) | (rw [List.length_drop]; omega) | simp) (by first | exact hzz1 | exact hzz2 | ((try simp) <;> omega)) ?_; intro v2 w2 hown2 hb2 hg2; have hz2 : Below wG.heap.size wG w2 := Below.trans (by (with_reducible repeat (first | exact Below.refl _ _ | exact HZ1.out | exact HZ2.out | apply HBD.out | apply HBA.out))) hb2; have HO2 := Lib.hid hown2; have HG2 := Lib.hid hg2; have hzz2 := hz2.size; have HZ2 := Lib.hid hz2; clear hown2 hb2 hg2 hz2)
                        | (refine step_appI (by rfl) _ _ (by rfl) wG.heap.size v2 (.slice (some ⟨gs, 0, none⟩) (k - k2) (k2 - k2)) _ (o.drop k2) (by rfl) (by first | rfl | (simp [Act.eval, Array.getD]; omega)) (by (with_reducible repeat (first | exact HO2.out | apply RowI.alloc' | apply RowI.drew'))) (by (with_reducible repeat (first | exact (HX3.out.below (by (with_reducible repeat (first | exact Below.refl _ _ | exact HZ1.out | exact HZ2.out | apply HBD.out | apply HBA.out)))) | apply ReadsN.alloc' | apply ReadsN.drew'))) (by (try simp) <;> omega) (by first | (rw [List.length_take]; omega) | (rw [List.length_drop]; omega) | simp) (by first | exact hzz1 | exact hzz2 | ((try simp) <;> omega)) ?_; intro v3 w3 hown3 hb3 hg3; have hz3 : Below wG.heap.size wG w3 := Below.trans (by (with_reducible repeat (first | exact Below.refl _ _ | exact HZ1.out | exact HZ2.out | apply HBD.out | apply HBA.out))) hb3; have HO3 := Lib.hid hown3; have HG3 := Lib.hid hg3; have hzz3 := hz3.size; have HZ3 := Lib.hid hz3; clear hown3 hb3 hg3 hz3))
                    all_goals
                      have heq : [] ++ o.take k2 ++ [x] ++ o.drop k2 = sortR (l.take (k + 1)) := by rw [HINS.out]; simp
                      have hrow3 : RowI w3 wG.heap.size v3 (sortR (l.take (k + 1))) := by have h := HO3.out; rw [heq] at h; exact h
                      have hlen3 : (sortR (l.take (k + 1))).length = k + 1 := by rw [sortR_len, List.length_take]; have := HN.out; omega
                      obtain ⟨g3, c3, rfl, hg3⟩ := RowI.own hrow3 (by omega)
                      obtain ⟨ad9, c9, he9, hc9, -⟩ := RowI.shape2 hrow3
                      injection he9 with _ _ e9
                      subst e9
                      rw [hlen3] at hrow3 hc9 ⊢
                      have hoF := HOG.out.belowAll HZ3.out
                      have hbF := hbI.trans (HZ3.out.mono hbI.size)
                      have hrF := Lib.hid (rowI_lower hrow3 hBw)
                      have hBF := Nat.le_trans hBw HZ3.out.size
                      clear hrow3 hlen3 heq HO3
                      go_wp2_with fail
                      go_roundw
                      case rel => exact ⟨k + 1, by omega, by go_num, ⟨g3, c3, rfl, hc9, hrF.out⟩, hoF, hBF, hbF⟩
                      case measure => (simp [intOf]; omega)
              case neg =>
                have g0 : decide ((k2 : Int) < (k : Int)) = false := decide_eq_false (by omega)
                have hins := insR_at (r := x) (s := o) (k := k2) (by have := HOK2.out; omega) HAL.out (fun h => by have := HOK2.out; omega)
                rw [← HNX.out] at hins
                have HINS := Lib.hid hins; clear hins
                have HRD := Lib.hid (RowI.rdc HRG.out)
                obtain ⟨hA, hBd⟩ := RdI.takeDrop HRD.out k2
                have hko := HOK2.out
                rw [Nat.zero_add] at hBd
                have HX1 := Lib.hid (show ReadsN wG (.slice (some ⟨gs, 0, none⟩) k2 capv) (o.take k2) from ⟨_, _, capv, by rw [List.length_take, Nat.min_eq_left (by omega)], hA⟩)
                have hBw := Nat.le_trans hBz hbG.size
                have HOG := Lib.hid (HOO.out.belowAll hbG)
                have hbI := hbel.trans (hbG.mono hbel.size)
                have z1 : (0 : Int) ≤ (k2 : Int) := by omega
                have z2 : (k2 : Int) ≤ (k : Int) := by omega
                have z3 : (k2 : Int) ≤ (capv : Int) := by omega
                have z4 : (k : Int) ≤ (capv : Int) := by omega
                have hglt := HOG.out.lt
                have hl1 : o.length ≤ 100 := by omega
                by_cases hkc2 : k2 < capv
                case pos =>
                  have HX3 := Lib.hid (show ReadsN wG (.slice (some ⟨gs, k2, none⟩) (k - k2) (capv - k2)) (o.drop k2) from ⟨_, _, _, by rw [List.length_drop, hko], hBd⟩)
                  clear hA hBd hko
                  have hbal : ∀ W' o1, Below wG.heap.size wG W' → Below wG.heap.size wG (W'.alloc o1) := fun W' o1 h => h.alloc h.size o1
                  have hbdr : ∀ W', Below wG.heap.size wG W' → Below wG.heap.size wG W'.drew := fun W' h => h.drew
                  have HBA := Lib.hid hbal; have HBD := Lib.hid hbdr; clear hbal hbdr
                  go_wp2_with fail
                  go_region_held3 (fun _ => True) (trivial)
                    (first
                      | (refine step_appI (by rfl) _ _ (by rfl) wG.heap.size (.slice (some ⟨_, 0, none⟩) 0 0) (.slice (some ⟨gs, 0, none⟩) k2 capv) [] (o.take k2) (by rfl) (by first | rfl | (simp [Act.eval, Array.getD]; omega)) (by (with_reducible repeat (first | exact rowI_new _ _ _ (by simp) (by simp) | apply RowI.alloc' | apply RowI.drew'))) (by (with_reducible repeat (first | exact (HX1.out.below (by (with_reducible repeat (first | exact Below.refl _ _ | exact HZ1.out | exact HZ2.out | apply HBD.out | apply HBA.out)))) | apply ReadsN.alloc' | apply ReadsN.drew'))) (by (try simp) <;> omega) (by first | (rw [List.length_take]; omega) | (rw [List.length_drop]; omega) | simp) (by first | exact hzz1 | exact hzz2 | ((try simp) <;> omega)) ?_; intro v1 w1 hown1 hb1 hg1; have hz1 : Below wG.heap.size wG w1 := Below.trans (by (with_reducible repeat (first | exact Below.refl _ _ | exact HZ1.out | exact HZ2.out | apply HBD.out | apply HBA.out))) hb1; have HO1 := Lib.hid hown1; have HG1 := Lib.hid hg1; have hzz1 := hz1.size; have HZ1 := Lib.hid hz1; clear hown1 hb1 hg1 hz1)
                      | (refine step_appI (by rfl) _ _ (by rfl) wG.heap.size v1 (.slice (some ⟨_, 0, none⟩) 1 1) _ [x] (by rfl) (by first | rfl | (simp [Act.eval, Array.getD]; omega)) (by (with_reducible repeat (first | exact HO1.out | apply RowI.alloc' | apply RowI.drew'))) (by (with_reducible repeat (first | exact readsN_one _ _ _ (by simp) | refine ReadsN.grown ?_ HG1.out (by simp [Value.ownBlock]) | apply ReadsN.alloc' | apply ReadsN.drew'))) (by (try simp) <;> omega) (by first | (rw [List.length_take]; omega) | (rw [List.length_drop]; omega) | simp) (by first | exact hzz1 | exact hzz2 | ((try simp) <;> omega)) ?_; intro v2 w2 hown2 hb2 hg2; have hz2 : Below wG.heap.size wG w2 := Below.trans (by (with_reducible repeat (first | exact Below.refl _ _ | exact HZ1.out | exact HZ2.out | apply HBD.out | apply HBA.out))) hb2; have HO2 := Lib.hid hown2; have HG2 := Lib.hid hg2; have hzz2 := hz2.size; have HZ2 := Lib.hid hz2; clear hown2 hb2 hg2 hz2)
                      | (refine step_appI (by rfl) _ _ (by rfl) wG.heap.size v2 (.slice (some ⟨gs, k2, none⟩) (k - k2) (capv - k2)) _ (o.drop k2) (by rfl) (by first | rfl | (simp [Act.eval, Array.getD]; omega)) (by (with_reducible repeat (first | exact HO2.out | apply RowI.alloc' | apply RowI.drew'))) (by (with_reducible repeat (first | exact (HX3.out.below (by (with_reducible repeat (first | exact Below.refl _ _ | exact HZ1.out | exact HZ2.out | apply HBD.out | apply HBA.out)))) | apply ReadsN.alloc' | apply ReadsN.drew'))) (by (try simp) <;> omega) (by first | (rw [List.length_take]; omega) | (rw [List.length_drop]; omega) | simp) (by first | exact hzz1 | exact hzz2 | ((try simp) <;> omega)) ?_; intro v3 w3 hown3 hb3 hg3; have hz3 : Below wG.heap.size wG w3 := Below.trans (by (with_reducible repeat (first | exact Below.refl _ _ | exact HZ1.out | exact HZ2.out | apply HBD.out | apply HBA.out))) hb3; have HO3 := Lib.hid hown3; have HG3 := Lib.hid hg3; have hzz3 := hz3.size; have HZ3 := Lib.hid hz3; clear hown3 hb3 hg3 hz3))
                  all_goals
                    have heq : [] ++ o.take k2 ++ [x] ++ o.drop k2 = sortR (l.take (k + 1)) := by rw [HINS.out]; simp
                    have hrow3 : RowI w3 wG.heap.size v3 (sortR (l.take (k + 1))) := by have h := HO3.out; rw [heq] at h; exact h
                    have hlen3 : (sortR (l.take (k + 1))).length = k + 1 := by rw [sortR_len, List.length_take]; have := HN.out; omega
                    obtain ⟨g3, c3, rfl, hg3⟩ := RowI.own hrow3 (by omega)
                    obtain ⟨ad9, c9, he9, hc9, -⟩ := RowI.shape2 hrow3
                    injection he9 with _ _ e9
                    subst e9
                    rw [hlen3] at hrow3 hc9 ⊢
                    have hoF := HOG.out.belowAll HZ3.out
                    have hbF := hbI.trans (HZ3.out.mono hbI.size)
                    have hrF := Lib.hid (rowI_lower hrow3 hBw)
                    have hBF := Nat.le_trans hBw HZ3.out.size
                    clear hrow3 hlen3 heq HO3
                    go_wp2_with fail
                    go_roundw
                    case rel => exact ⟨k + 1, by omega, by go_num, ⟨g3, c3, rfl, hc9, hrF.out⟩, hoF, hBF, hbF⟩
                    case measure => (simp [intOf]; omega)
                case neg =>
                  obtain rfl : k2 = capv := by omega
                  have HX3 := Lib.hid (show ReadsN wG (.slice (some ⟨gs, 0, none⟩) (k - k2) (k2 - k2)) (o.drop k2) from ⟨_, _, _, by rw [List.length_drop, hko], by rw [List.drop_eq_nil_of_le (by omega)]; exact RdI.nil _ _⟩)
                  clear hA hBd hko
                  have hbal : ∀ W' o1, Below wG.heap.size wG W' → Below wG.heap.size wG (W'.alloc o1) := fun W' o1 h => h.alloc h.size o1
                  have hbdr : ∀ W', Below wG.heap.size wG W' → Below wG.heap.size wG W'.drew := fun W' h => h.drew
                  have HBA := Lib.hid hbal; have HBD := Lib.hid hbdr; clear hbal hbdr
                  go_wp2_with fail
                  go_region_held3 (fun _ => True) (trivial)
                    (first
                      | (refine step_appI (by rfl) _ _ (by rfl) wG.heap.size (.slice (some ⟨_, 0, none⟩) 0 0) (.slice (some ⟨gs, 0, none⟩) k2 k2) [] (o.take k2) (by rfl) (by first | rfl | (simp [Act.eval, Array.getD]; omega)) (by (with_reducible repeat (first | exact rowI_new _ _ _ (by simp) (by simp) | apply RowI.alloc' | apply RowI.drew'))) (by (with_reducible repeat (first | exact (HX1.out.below (by (with_reducible repeat (first | exact Below.refl _ _ | exact HZ1.out | exact HZ2.out | apply HBD.out | apply HBA.out)))) | apply ReadsN.alloc' | apply ReadsN.drew'))) (by (try simp) <;> omega) (by first | (rw [List.length_take]; omega) | (rw [List.length_drop]; omega) | simp) (by first | exact hzz1 | exact hzz2 | ((try simp) <;> omega)) ?_; intro v1 w1 hown1 hb1 hg1; have hz1 : Below wG.heap.size wG w1 := Below.trans (by (with_reducible repeat (first | exact Below.refl _ _ | exact HZ1.out | exact HZ2.out | apply HBD.out | apply HBA.out))) hb1; have HO1 := Lib.hid hown1; have HG1 := Lib.hid hg1; have hzz1 := hz1.size; have HZ1 := Lib.hid hz1; clear hown1 hb1 hg1 hz1)
                      | (refine step_appI (by rfl) _ _ (by rfl) wG.heap.size v1 (.slice (some ⟨_, 0, none⟩) 1 1) _ [x] (by rfl) (by first | rfl | (simp [Act.eval, Array.getD]; omega)) (by (with_reducible repeat (first | exact HO1.out | apply RowI.alloc' | apply RowI.drew'))) (by (with_reducible repeat (first | exact readsN_one _ _ _ (by simp) | refine ReadsN.grown ?_ HG1.out (by simp [Value.ownBlock]) | apply ReadsN.alloc' | apply ReadsN.drew'))) (by (try simp) <;> omega) (by first | (rw [List.length_take]; omega) | (rw [List.length_drop]; omega) | simp) (by first | exact hzz1 | exact hzz2 | ((try simp) <;> omega)) ?_; intro v2 w2 hown2 hb2 hg2; have hz2 : Below wG.heap.size wG w2 := Below.trans (by (with_reducible repeat (first | exact Below.refl _ _ | exact HZ1.out | exact HZ2.out | apply HBD.out | apply HBA.out))) hb2; have HO2 := Lib.hid hown2; have HG2 := Lib.hid hg2; have hzz2 := hz2.size; have HZ2 := Lib.hid hz2; clear hown2 hb2 hg2 hz2)
                      | (refine step_appI (by rfl) _ _ (by rfl) wG.heap.size v2 (.slice (some ⟨gs, 0, none⟩) (k - k2) (k2 - k2)) _ (o.drop k2) (by rfl) (by first | rfl | (simp [Act.eval, Array.getD]; omega)) (by (with_reducible repeat (first | exact HO2.out | apply RowI.alloc' | apply RowI.drew'))) (by (with_reducible repeat (first | exact (HX3.out.below (by (with_reducible repeat (first | exact Below.refl _ _ | exact HZ1.out | exact HZ2.out | apply HBD.out | apply HBA.out)))) | apply ReadsN.alloc' | apply ReadsN.drew'))) (by (try simp) <;> omega) (by first | (rw [List.length_take]; omega) | (rw [List.length_drop]; omega) | simp) (by first | exact hzz1 | exact hzz2 | ((try simp) <;> omega)) ?_; intro v3 w3 hown3 hb3 hg3; have hz3 : Below wG.heap.size wG w3 := Below.trans (by (with_reducible repeat (first | exact Below.refl _ _ | exact HZ1.out | exact HZ2.out | apply HBD.out | apply HBA.out))) hb3; have HO3 := Lib.hid hown3; have HG3 := Lib.hid hg3; have hzz3 := hz3.size; have HZ3 := Lib.hid hz3; clear hown3 hb3 hg3 hz3))
                  all_goals
                    have heq : [] ++ o.take k2 ++ [x] ++ o.drop k2 = sortR (l.take (k + 1)) := by rw [HINS.out]; simp
                    have hrow3 : RowI w3 wG.heap.size v3 (sortR (l.take (k + 1))) := by have h := HO3.out; rw [heq] at h; exact h
                    have hlen3 : (sortR (l.take (k + 1))).length = k + 1 := by rw [sortR_len, List.length_take]; have := HN.out; omega
                    obtain ⟨g3, c3, rfl, hg3⟩ := RowI.own hrow3 (by omega)
                    obtain ⟨ad9, c9, he9, hc9, -⟩ := RowI.shape2 hrow3
                    injection he9 with _ _ e9
                    subst e9
                    rw [hlen3] at hrow3 hc9 ⊢
                    have hoF := HOG.out.belowAll HZ3.out
                    have hbF := hbI.trans (HZ3.out.mono hbI.size)
                    have hrF := Lib.hid (rowI_lower hrow3 hBw)
                    have hBF := Nat.le_trans hBw HZ3.out.size
                    clear hrow3 hlen3 heq HO3
                    go_wp2_with fail
                    go_roundw
                    case rel => exact ⟨k + 1, by omega, by go_num, ⟨g3, c3, rfl, hc9, hrF.out⟩, hoF, hBF, hbF⟩
                    case measure => (simp [intOf]; omega)

end Go.Proofs.Ytekhmjhbdoigoaa

/-
  The draws of the law of the functions. Printed by gen_fuD.py.
-/
namespace Go.Proofs.Ytekhmjhbdoigoaa
open Go.RowKit

def ListID (M : Nat) (w : World) (e : Ending) (w' : World) : Prop := ∃ (x : Int) (v : Value) (xs : List Int), e = .returned (.tuple #[.int .i64 x, v]) ∧ xs.length ≤ M ∧ RowI w' w.heap.size v xs ∧ Below w.heap.size w w'
def ListLD (M : Nat) (w : World) (e : Ending) (w' : World) : Prop := ∃ (ad1 : Option Addr) (cap1 : Nat) (xs : List Int) (ad2 : Option Addr) (cap2 : Nat) (ys : List Int), e = .returned (.tuple #[.slice ad1 xs.length cap1, .slice ad2 ys.length cap2]) ∧ (xs.length ≤ M ∧ ys.length ≤ M) ∧ RdI w' ad1 xs ∧ RdI w' ad2 ys ∧ Below w.heap.size w w'


set_option maxHeartbeats 800000 in
theorem drawLeast_c (ad : Option Addr) (len cap : Nat) (w : World) (hl : len ≤ 9223372036854775807) (hr : RdB w ad len) :
    Calls Try.prog 4 #[.slice ad len cap] w (ListD 41 w) := by
  have C := Lib.hid (drawCorners_c ad len cap w hl hr)
  clear hr
  go_enter Try.func4, Try.ntmps4
  go_wp2_with fail
  refine C.out.mono ?_
  rintro e w1 ⟨v, xs, rfl, hxs, hrow, hb⟩
  have HO := Lib.hid hrow; clear hrow
  go_wp2_with fail
  go_ret
  exact ⟨_, xs, rfl, hxs, HO.out, hb⟩
set_option maxHeartbeats 800000 in
theorem drawAtFrac_c (ad : Option Addr) (len cap : Nat) (w : World) (hl : len ≤ 9223372036854775807) (hr : RdB w ad len) :
    Calls Try.prog 18 #[.slice ad len cap] w (ListFD 41 w) := by
  have hb0 : Below w.heap.size w (w.alloc (.cells #[.int .i64 0, .int .i64 0] 38)) := (Below.refl _ _).alloc (Nat.le_refl _) _
  have C := Lib.hid (drawTimesOfRoot_c ad len cap _ hl (hr.below hb0))
  clear hr
  go_enter Try.func18, Try.ntmps18
  go_wp2_with fail
  refine C.out.mono ?_
  rintro e w1 ⟨v, xs, f, rfl, hxs, hrow, hb⟩
  obtain ⟨x, y⟩ := f
  unfold frV
  simp only
  have o1 := (FrO.new w 0 0 rfl).below hb
  have hb1 := hb0.trans (hb.mono hb0.size)
  have hz := hb0.size
  have hrs := RowI.setOther (g := w.heap.size) (a := x) (b := y) hrow (by simp)
  have HO := Lib.hid hrs; clear hrow hrs
  obtain ⟨b0, b1⟩ := o1.at
  obtain ⟨c0, c1⟩ := o1.fr
  go_wp2_with fail
  obtain ⟨W, hW, ⟨q0, q1⟩, hB⟩ := fr2_end (u := w) (a := x) (b := y) o1 hb1 (Nat.le_refl _)
  rw [hW] at HO
  unfold fr2 at hW
  rw [hW]
  exact bodyPost_ret (v := .tuple #[v, .agg #[.int .i64 x, .int .i64 y]]) (by simp [results, Try.results18, go_sem, q0, q1]) rfl ⟨_, xs, ⟨x, y⟩, rfl, hxs, rowI_lower HO.out hz, hB⟩

set_option maxHeartbeats 3200000 in
set_option maxRecDepth 100000 in
theorem drawSame_c (ad : Option Addr) (len cap : Nat) (w : World) (hl : len ≤ 9223372036854775807) (hr : RdB w ad len) :
    Calls Try.prog 13 #[.slice ad len cap] w (ListLD 41 w) := by
  have HC := Lib.hid (cur_new (cap := cap) hr hl)
  clear hr
  go_enter Try.func13, Try.ntmps13
  go_wp2_with fail
  obtain ⟨wA, hwA⟩ : ∃ x, w.alloc (.cells #[.slice ad len cap, .int .i64 0, .int .u64 0] 56) = x := ⟨_, rfl⟩
  have hnew : ∀ w', Chg w.heap.size wA w' → Below w.heap.size w w' := fun w' h => by rw [← hwA] at h; exact chg_new h
  have hzA : wA.heap.size = w.heap.size + 1 := by rw [← hwA]; simp
  rw [hwA] at HC ⊢
  have HNEW := Lib.hid hnew; clear hnew hwA
  obtain ⟨g, hg⟩ : ∃ g, w.heap.size = g := ⟨_, rfl⟩
  rw [hg] at HC HNEW hzA ⊢
  have hcl := HC.out.lt
  have HG := Lib.hid hg; clear hg
  have HF1 := Lib.hid (Chg.refl g wA)
  refine (anyPoly_c g 0 wA HC.out (by omega)).mono ?_
  rintro e w2 ⟨v, xs3, rfl, hx4, hrow, hcu, hch⟩
  obtain ⟨ad1, cap1, rfl, -⟩ := RowI.shape hrow
  have HU5 := Lib.hid hcu; clear hcu
  have HF6 := Lib.hid (HF1.out.trans hch)
  clear hch
  have hz7 := HF6.out.size
  have HR8 := Lib.hid hrow; clear hrow
  have hrd := RowI.rdc (B := wA.heap.size) (n := xs3.length) (cap := cap1) (by exact HR8.out)
  have HRD := Lib.hid hrd; clear hrd
  have cg := fun w h => poGood_c ad1 cap1 xs3 w h (by omega)
  have cr := fun w h hp => rtLeast_c ad1 cap1 xs3 w h hp
  generalize polyB xs3 = u at cg cr
  have CG := Lib.hid cg; have CR := Lib.hid cr; clear cg cr
  go_wp2_with fail
  refine (CG.out _ HRD.out).mono ?_
  rintro e w' ⟨rfl, hww⟩
  subst hww
  cases u
  case false =>
    go_wp2_with fail
    refine (anyPoly_c g (0 + 300) w2 HU5.out (by omega)).mono ?_
    rintro e w9 ⟨v2, ys10, rfl, hy11, hrow, hcu, hch⟩
    obtain ⟨ad2, cap2, rfl, hrd2⟩ := RowI.shape hrow
    have HU12 := Lib.hid hcu; clear hcu
    have HF13 := Lib.hid (HF6.out.trans hch)
    have HR14 := Lib.hid (row_chg HR8.out hch (by omega))
    clear hch
    have hz15 := HF13.out.size
    have HRD2 := Lib.hid hrd2
    have HRD1 := Lib.hid (RowI.rdc (B := wA.heap.size) (n := xs3.length) (cap := cap1) (by exact HR14.out))
    clear hrow hrd2
    go_wp2_with fail
    go_ret2
    exact ⟨ad1, cap1, xs3, ad2, cap2, ys10, rfl, ⟨hx4, hy11⟩, HRD1.out, HRD2.out, by rw [HG.out]; exact HNEW.out _ HF13.out⟩
  case true =>
    go_wp2_with fail
    refine (one_c 2 g (0 + 300) w2 HU5.out (by omega)).mono ?_
    rintro e w17 ⟨b16, rfl, hcu, hch⟩
    have HU18 := Lib.hid hcu; clear hcu
    have HF19 := Lib.hid (HF6.out.trans hch)
    have HR20 := Lib.hid (row_chg HR8.out hch (by omega))
    clear hch
    have hz21 := HF19.out.size
    cases b16
    case false =>
      go_wp2_with fail
      refine (anyPoly_c g (0 + 302) w17 HU18.out (by omega)).mono ?_
      rintro e w22 ⟨v2, ys23, rfl, hy24, hrow, hcu, hch⟩
      obtain ⟨ad2, cap2, rfl, hrd2⟩ := RowI.shape hrow
      have HU25 := Lib.hid hcu; clear hcu
      have HF26 := Lib.hid (HF19.out.trans hch)
      have HR27 := Lib.hid (row_chg HR20.out hch (by omega))
      clear hch
      have hz28 := HF26.out.size
      have HRD2 := Lib.hid hrd2
      have HRD1 := Lib.hid (RowI.rdc (B := wA.heap.size) (n := xs3.length) (cap := cap1) (by exact HR27.out))
      clear hrow hrd2
      go_wp2_with fail
      go_ret2
      exact ⟨ad1, cap1, xs3, ad2, cap2, ys23, rfl, ⟨hx4, hy24⟩, HRD1.out, HRD2.out, by rw [HG.out]; exact HNEW.out _ HF26.out⟩
    case true =>
      have HRD3 := Lib.hid (RowI.rdc (B := wA.heap.size) (n := xs3.length) (cap := cap1) (by exact HR20.out))
      go_wp2_with fail
      refine (CR.out _ HRD3.out trivial).mono ?_
      rintro e wR ⟨gR, rfl, hgR, hoR, hbR⟩
      have HOR := Lib.hid hoR.rd
      have HRD4 := Lib.hid (HRD3.out.below hbR)
      have HCH := Lib.hid (HF19.out.trans (Chg.of_below hbR))
      have hln := leastP_len xs3
      have HLN := Lib.hid hln
      clear hoR hln hbR
      go_wp2_with fail
      go_ret2
      exact ⟨ad1, cap1, xs3, some ⟨gR, 0, none⟩, xs3.length, leastP xs3, by rw [HLN.out]; first | rfl | simp, ⟨hx4, by rw [HLN.out]; exact hx4⟩, HRD4.out, HOR.out, by rw [HG.out]; exact HNEW.out _ HCH.out⟩
set_option maxHeartbeats 3200000 in
set_option maxRecDepth 100000 in
theorem drawFromRoots_c (ad : Option Addr) (len cap : Nat) (w : World) (hl : len ≤ 9223372036854775807) (hr : RdB w ad len) :
    Calls Try.prog 15 #[.slice ad len cap] w (ListID 13 w) := by
  have HC := Lib.hid (cur_new (cap := cap) hr hl)
  clear hr
  go_enter Try.func15, Try.ntmps15
  go_wp2_with fail
  obtain ⟨wA, hwA⟩ : ∃ x, w.alloc (.cells #[.slice ad len cap, .int .i64 0, .int .u64 0] 56) = x := ⟨_, rfl⟩
  have hnew : ∀ w', Chg w.heap.size wA w' → Below w.heap.size w w' := fun w' h => by rw [← hwA] at h; exact chg_new h
  have hzA : wA.heap.size = w.heap.size + 1 := by rw [← hwA]; simp
  rw [hwA] at HC ⊢
  have HNEW := Lib.hid hnew; clear hnew hwA
  obtain ⟨g, hg⟩ : ∃ g, w.heap.size = g := ⟨_, rfl⟩
  rw [hg] at HC HNEW hzA ⊢
  have hcl := HC.out.lt
  have HG := Lib.hid hg; clear hg
  have HF1 := Lib.hid (Chg.refl g wA)
  obtain ⟨iI, hiI0, hiI1, hiI2, hiI3⟩ := info_parts Try.infoI
  go_wp2_with fail
  refine (pick_c 6 g 0 wA HC.out (by omega)).mono ?_
  rintro e w3 ⟨x2, rfl, hp4, hcu, hch⟩
  have HU5 := Lib.hid hcu; clear hcu
  have HF6 := Lib.hid (HF1.out.trans hch)
  clear hch
  have hz7 := HF6.out.size
  go_wp2_with fail
  refine (one_c 12 g (0 + 2) w3 HU5.out (by omega)).mono ?_
  rintro e w9 ⟨b8, rfl, hcu, hch⟩
  have HU10 := Lib.hid hcu; clear hcu
  have HF11 := Lib.hid (HF6.out.trans hch)
  clear hch
  have hz12 := HF11.out.size
  cases b8
  case false =>
    obtain ⟨N, hN⟩ : ∃ N : Nat, x2 = N := ⟨x2.toNat, by omega⟩
    subst hN
    have hN4 : N ≤ 13 := by omega
    clear hp4
    go_wp2_with fail
    go_loopw [5] (fun v wr => ∃ xs : List Int, xs.length ≤ N ∧ RowI wr wA.heap.size v xs ∧ Cur wr g ((0 + 4) + 2 * xs.length) ∧ Chg g wA wr) (fun v _ => N - slen v)
    case atStart => exact ⟨[], by simp, RowI.nil _ _, HU10.out.mono (by simp), HF11.out⟩
    case round =>
      obtain ⟨xs, hxs, hrow, hcu, hch⟩ := hrel
      have HR := Lib.hid hrow; clear hrow
      have HU := Lib.hid hcu; clear hcu
      have HF := Lib.hid hch; clear hch
      have hsz := HF.out.size
      obtain ⟨wo, rfl⟩ : ∃ wo : World, wo = wr := ⟨_, rfl⟩
      obtain ⟨ad1, cap1, rfl, -⟩ := HR.out.shape
      by_cases hlt : xs.length < N
      case pos =>
        have g1 : decide ((xs.length : Int) < (N : Int)) = true := decide_eq_true (by omega)
        go_wp2_with fail
        refine (small_c g ((0 + 4) + 2 * xs.length) wo HU.out (by omega)).mono ?_
        rintro e w14 ⟨x13, rfl, -, hcu, hch⟩
        have HU15 := Lib.hid hcu; clear hcu
        have HF16 := Lib.hid (HF.out.trans hch)
        have HR17 := Lib.hid (row_chg HR.out hch (by omega))
        clear hch
        have hz18 := HF16.out.size
        go_wp2_with (at_builtin; refine wpList_append_lies _ rfl _ _ 23 rfl wA.heap.size 3 iI _ 1 8 Try.underlying23 hiI0 hiI1 hiI2 hiI3 rfl (by omega) (.slice ad1 xs.length cap1) xs.length (ints xs) rfl (HR17.out.alloc _) ⟨w14.heap.size, 0, none⟩ 1 1 [.int .i64 x13] rfl rfl (World.news_of_block (cs := #[.int .i64 x13]) (t := 3) (fr := (0, 0)) (heap_alloc_new _ _)) (by simp [Value.oneCell']) (by omega) (by unfold maxLen; omega) (by omega) (by simp; omega) (w14.heap.size + 1) (by simp) ?_; intro g19 cap20 w21 hown hgrow hat hltx; clear hat)
        have hb22 := app_below (Below.refl wA.heap.size w14) (by omega) HR17.out hgrow
        have hz23 : w14.heap.size ≤ w21.heap.size := by have := hgrow.size; simp at this; omega
        have HR24 := Lib.hid (row_congr (ys := ints (xs ++ [x13])) hown (m := (xs ++ [x13]).length) (by simp) (by simp [ints])); clear hown
        clear hgrow
        have HU25 := Lib.hid (HU15.out.under hb22 (by omega))
        have HF26 := Lib.hid (HF16.out.under hb22 (by omega) hz23)
        clear hb22
        go_roundw
        case rel => exact ⟨xs ++ [x13], by simp; omega, HR24.out, HU25.out.mono (by simp; omega), HF26.out⟩
        case measure => (simp [slen]; omega)
      case neg =>
        have g1 : decide ((xs.length : Int) < (N : Int)) = false := decide_eq_false (by omega)
        have HXL : xs.length = N := by omega
        have HXB : xs.length ≤ 13 := by omega
        clear hlt hxs g1
        rw [HXL]
        have g1 : decide ((N : Int) < (N : Int)) = false := decide_eq_false (by omega)
        by_cases hN0 : 0 < N
        case neg =>
          have q0 : decide ((0 : Int) < (N : Int)) = false := decide_eq_false (by omega)
          go_wp2_with fail
          refine (small_c g ((0 + 4) + 2 * xs.length) wo HU.out (by omega)).mono ?_
          rintro e w28 ⟨x27, rfl, -, hcu, hch⟩
          have HU29 := Lib.hid hcu; clear hcu
          have HF30 := Lib.hid (HF.out.trans hch)
          have HR31 := Lib.hid (row_chg HR.out hch (by omega))
          clear hch
          have hz32 := HF30.out.size
          go_wp2_with fail
          refine (small_c g (((0 + 4) + 2 * xs.length) + 2) w28 HU29.out (by omega)).mono ?_
          rintro e w34 ⟨x33, rfl, -, hcu, hch⟩
          have HU35 := Lib.hid hcu; clear hcu
          have HF36 := Lib.hid (HF30.out.trans hch)
          have HR37 := Lib.hid (row_chg HR31.out hch (by omega))
          clear hch
          have hz38 := HF36.out.size
          go_wp2_with fail
          refine (small_c g (((0 + 4) + 2 * xs.length) + 4) w34 HU35.out (by omega)).mono ?_
          rintro e w40 ⟨x39, rfl, -, hcu, hch⟩
          have HU41 := Lib.hid hcu; clear hcu
          have HF42 := Lib.hid (HF36.out.trans hch)
          have HR43 := Lib.hid (row_chg HR37.out hch (by omega))
          clear hch
          have hz44 := HF42.out.size
          go_wp2_with fail
          refine (anyNum_c g (((0 + 4) + 2 * xs.length) + 6) w40 HU41.out (by omega)).mono ?_
          rintro e w46 ⟨x45, rfl, -, hcu, hch⟩
          have HU47 := Lib.hid hcu; clear hcu
          have HF48 := Lib.hid (HF42.out.trans hch)
          have HR49 := Lib.hid (row_chg HR43.out hch (by omega))
          clear hch
          have hz50 := HF48.out.size
          go_wp2_with fail
          have HU54 := Lib.hid (HU47.out.below ((Below.refl _ _).alloc (Nat.le_refl _) (.cells #[.int .i64 x27, .int .i64 x33, .int .i64 x39, .int .i64 x45] 3)))
          have hl55 := HU47.out.lt
          have HF56 := Lib.hid (HF48.out.trans (Chg.alloc g w46 (.cells #[.int .i64 x27, .int .i64 x33, .int .i64 x39, .int .i64 x45] 3)))
          have HR57 := Lib.hid (row_below HR49.out ((Below.refl _ _).alloc (Nat.le_refl _) (.cells #[.int .i64 x27, .int .i64 x33, .int .i64 x39, .int .i64 x45] 3)))
          refine (among_c w46.heap.size 4 [x27, x33, x39, x45] g (((0 + 4) + 2 * xs.length) + 12) (w46.alloc (.cells #[.int .i64 x27, .int .i64 x33, .int .i64 x39, .int .i64 x45] 3)) HU54.out (by omega) (by simp) (by simp) (by omega) (Own.newA w46 _ 3 rfl)).mono ?_
          rintro e w52 ⟨x51, rfl, hx, hcu, hch⟩
          clear hx
          have HU58 := Lib.hid hcu; clear hcu
          have HF59 := Lib.hid (HF56.out.trans hch)
          have HR60 := Lib.hid (row_chg HR57.out hch (by omega))
          clear hch
          have hz61 := HF59.out.size
          go_wp2_with fail
          go_ret2
          exact ⟨x51, _, xs, rfl, by omega, rowI_lower (B := wA.heap.size) (by (have h9 := HR60.out); (try unfold RowI at h9); unfold RowI; rw [HXL] at h9 ⊢; exact h9) (by have := HG.out; omega), by rw [HG.out]; exact HNEW.out _ HF59.out⟩
        case pos =>
          have q0 : decide ((0 : Int) < (N : Int)) = true := decide_eq_true (by omega)
          go_wp2_with fail
          refine (one_c 12 g ((0 + 4) + 2 * xs.length) wo HU.out (by omega)).mono ?_
          rintro e w63 ⟨b62, rfl, hcu, hch⟩
          have HU64 := Lib.hid hcu; clear hcu
          have HF65 := Lib.hid (HF.out.trans hch)
          have HR66 := Lib.hid (row_chg HR.out hch (by omega))
          clear hch
          have hz67 := HF65.out.size
          cases b62
          case false =>
            go_wp2_with fail
            refine (small_c g (((0 + 4) + 2 * xs.length) + 2) w63 HU64.out (by omega)).mono ?_
            rintro e w69 ⟨x68, rfl, -, hcu, hch⟩
            have HU70 := Lib.hid hcu; clear hcu
            have HF71 := Lib.hid (HF65.out.trans hch)
            have HR72 := Lib.hid (row_chg HR66.out hch (by omega))
            clear hch
            have hz73 := HF71.out.size
            go_wp2_with fail
            refine (small_c g (((0 + 4) + 2 * xs.length) + 4) w69 HU70.out (by omega)).mono ?_
            rintro e w75 ⟨x74, rfl, -, hcu, hch⟩
            have HU76 := Lib.hid hcu; clear hcu
            have HF77 := Lib.hid (HF71.out.trans hch)
            have HR78 := Lib.hid (row_chg HR72.out hch (by omega))
            clear hch
            have hz79 := HF77.out.size
            go_wp2_with fail
            refine (small_c g (((0 + 4) + 2 * xs.length) + 6) w75 HU76.out (by omega)).mono ?_
            rintro e w81 ⟨x80, rfl, -, hcu, hch⟩
            have HU82 := Lib.hid hcu; clear hcu
            have HF83 := Lib.hid (HF77.out.trans hch)
            have HR84 := Lib.hid (row_chg HR78.out hch (by omega))
            clear hch
            have hz85 := HF83.out.size
            go_wp2_with fail
            refine (anyNum_c g (((0 + 4) + 2 * xs.length) + 8) w81 HU82.out (by omega)).mono ?_
            rintro e w87 ⟨x86, rfl, -, hcu, hch⟩
            have HU88 := Lib.hid hcu; clear hcu
            have HF89 := Lib.hid (HF83.out.trans hch)
            have HR90 := Lib.hid (row_chg HR84.out hch (by omega))
            clear hch
            have hz91 := HF89.out.size
            go_wp2_with fail
            have HU95 := Lib.hid (HU88.out.below ((Below.refl _ _).alloc (Nat.le_refl _) (.cells #[.int .i64 x68, .int .i64 x74, .int .i64 x80, .int .i64 x86] 3)))
            have hl96 := HU88.out.lt
            have HF97 := Lib.hid (HF89.out.trans (Chg.alloc g w87 (.cells #[.int .i64 x68, .int .i64 x74, .int .i64 x80, .int .i64 x86] 3)))
            have HR98 := Lib.hid (row_below HR90.out ((Below.refl _ _).alloc (Nat.le_refl _) (.cells #[.int .i64 x68, .int .i64 x74, .int .i64 x80, .int .i64 x86] 3)))
            refine (among_c w87.heap.size 4 [x68, x74, x80, x86] g (((0 + 4) + 2 * xs.length) + 14) (w87.alloc (.cells #[.int .i64 x68, .int .i64 x74, .int .i64 x80, .int .i64 x86] 3)) HU95.out (by omega) (by simp) (by simp) (by omega) (Own.newA w87 _ 3 rfl)).mono ?_
            rintro e w93 ⟨x92, rfl, hx, hcu, hch⟩
            clear hx
            have HU99 := Lib.hid hcu; clear hcu
            have HF100 := Lib.hid (HF97.out.trans hch)
            have HR101 := Lib.hid (row_chg HR98.out hch (by omega))
            clear hch
            have hz102 := HF100.out.size
            go_wp2_with fail
            go_ret2
            exact ⟨x92, _, xs, rfl, by omega, rowI_lower (B := wA.heap.size) (by (have h9 := HR101.out); (try unfold RowI at h9); unfold RowI; rw [HXL] at h9 ⊢; exact h9) (by have := HG.out; omega), by rw [HG.out]; exact HNEW.out _ HF100.out⟩
          case true =>
            obtain ⟨g103, rfl, hg104⟩ : ∃ g, ad1 = some ⟨g, 0, none⟩ ∧ wA.heap.size ≤ g := by
              obtain ⟨g, cap, e, hg⟩ := RowI.own (by exact HR66.out) (by rw [HXL]; omega)
              injection e with e1 _ _
              exact ⟨g, e1, hg⟩
            go_wp2_with fail
            refine (pick_c (N : Int) g (((0 + 4) + 2 * xs.length) + 2) w63 HU64.out (by omega)).mono ?_
            rintro e w106 ⟨x105, rfl, hp107, hcu, hch⟩
            have HU108 := Lib.hid hcu; clear hcu
            have HF109 := Lib.hid (HF65.out.trans hch)
            have HR110 := Lib.hid (row_chg HR66.out hch (by omega))
            clear hch
            have hz111 := HF109.out.size
            obtain ⟨a112, rfl⟩ : ∃ a : Nat, x105 = a := ⟨x105.toNat, by omega⟩
            have a112l : a112 < N := by omega
            have a112x : (0 : Int) ≤ (a112 : Int) := by omega
            have a112y : (a112 : Int) < (N : Int) := by omega
            clear hp107
            go_wp2_with fail
            refine (anyNum_c g (((0 + 4) + 2 * xs.length) + 4) w106 HU108.out (by omega)).mono ?_
            rintro e w114 ⟨x113, rfl, -, hcu, hch⟩
            have HU115 := Lib.hid hcu; clear hcu
            have HF116 := Lib.hid (HF109.out.trans hch)
            have HR117 := Lib.hid (row_chg HR110.out hch (by omega))
            clear hch
            have hz118 := HF116.out.size
            have hrw119 := HR117.out
            have fza112 := World.ownsRow.frozenAt hrw119 a112
            have cza112 := World.ownsRow.cellAt hrw119 a112 (by have := a112l; rw [HXL]; omega)
            rw [ints_get (show a112 < xs.length by rw [HXL]; exact a112l)] at cza112
            go_wp2_with fail
            have hset120 : RowI (w114.setCell ⟨g103, a112, none⟩ (.int .i64 x113)) wA.heap.size (.slice (some ⟨g103, 0, none⟩) xs.length cap1) _ := RowI.set (cap := cap1) (by exact hrw119) a112 x113
            have hb121 : Below wA.heap.size w114 (w114.setCell ⟨g103, a112, none⟩ (.int .i64 x113)) := (Below.refl wA.heap.size w114).setCell (p := ⟨g103, a112, none⟩) hg104 (.int .i64 x113)
            have HU124 := Lib.hid (HU115.out.under hb121 (by omega))
            have HF125 := Lib.hid (HF116.out.under hb121 (Nat.le_refl _) (by simp [World.setCell]))
            have HYL : (xs.set a112 x113).length = N := by rw [List.length_set]; exact HXL
            rw [HXL, ← HYL] at hset120
            have HR126 := Lib.hid hset120; clear hset120
            generalize xs.set a112 x113 = ys123 at HR126 HYL
            generalize w114.setCell ⟨g103, a112, none⟩ (.int .i64 x113) = wS122 at HR126 HU124 HF125 ⊢
            clear HXL hrw119 hb121
            have HXL := HYL
            clear HYL
            have hz127 := HF125.out.size
            go_wp2_with fail
            refine (small_c g (((0 + 4) + 2 * xs.length) + 10) wS122 HU124.out (by omega)).mono ?_
            rintro e w129 ⟨x128, rfl, -, hcu, hch⟩
            have HU130 := Lib.hid hcu; clear hcu
            have HF131 := Lib.hid (HF125.out.trans hch)
            have HR132 := Lib.hid (row_chg HR126.out hch (by omega))
            clear hch
            have hz133 := HF131.out.size
            go_wp2_with fail
            refine (small_c g (((0 + 4) + 2 * xs.length) + 12) w129 HU130.out (by omega)).mono ?_
            rintro e w135 ⟨x134, rfl, -, hcu, hch⟩
            have HU136 := Lib.hid hcu; clear hcu
            have HF137 := Lib.hid (HF131.out.trans hch)
            have HR138 := Lib.hid (row_chg HR132.out hch (by omega))
            clear hch
            have hz139 := HF137.out.size
            go_wp2_with fail
            refine (small_c g (((0 + 4) + 2 * xs.length) + 14) w135 HU136.out (by omega)).mono ?_
            rintro e w141 ⟨x140, rfl, -, hcu, hch⟩
            have HU142 := Lib.hid hcu; clear hcu
            have HF143 := Lib.hid (HF137.out.trans hch)
            have HR144 := Lib.hid (row_chg HR138.out hch (by omega))
            clear hch
            have hz145 := HF143.out.size
            go_wp2_with fail
            refine (anyNum_c g (((0 + 4) + 2 * xs.length) + 16) w141 HU142.out (by omega)).mono ?_
            rintro e w147 ⟨x146, rfl, -, hcu, hch⟩
            have HU148 := Lib.hid hcu; clear hcu
            have HF149 := Lib.hid (HF143.out.trans hch)
            have HR150 := Lib.hid (row_chg HR144.out hch (by omega))
            clear hch
            have hz151 := HF149.out.size
            go_wp2_with fail
            have HU155 := Lib.hid (HU148.out.below ((Below.refl _ _).alloc (Nat.le_refl _) (.cells #[.int .i64 x128, .int .i64 x134, .int .i64 x140, .int .i64 x146] 3)))
            have hl156 := HU148.out.lt
            have HF157 := Lib.hid (HF149.out.trans (Chg.alloc g w147 (.cells #[.int .i64 x128, .int .i64 x134, .int .i64 x140, .int .i64 x146] 3)))
            have HR158 := Lib.hid (row_below HR150.out ((Below.refl _ _).alloc (Nat.le_refl _) (.cells #[.int .i64 x128, .int .i64 x134, .int .i64 x140, .int .i64 x146] 3)))
            refine (among_c w147.heap.size 4 [x128, x134, x140, x146] g (((0 + 4) + 2 * xs.length) + 22) (w147.alloc (.cells #[.int .i64 x128, .int .i64 x134, .int .i64 x140, .int .i64 x146] 3)) HU155.out (by omega) (by simp) (by simp) (by omega) (Own.newA w147 _ 3 rfl)).mono ?_
            rintro e w153 ⟨x152, rfl, hx, hcu, hch⟩
            clear hx
            have HU159 := Lib.hid hcu; clear hcu
            have HF160 := Lib.hid (HF157.out.trans hch)
            have HR161 := Lib.hid (row_chg HR158.out hch (by omega))
            clear hch
            have hz162 := HF160.out.size
            go_wp2_with fail
            go_ret2
            exact ⟨x152, _, ys123, rfl, by omega, rowI_lower (B := wA.heap.size) (by (have h9 := HR161.out); (try unfold RowI at h9); unfold RowI; rw [HXL] at h9 ⊢; exact h9) (by have := HG.out; omega), by rw [HG.out]; exact HNEW.out _ HF160.out⟩
  case true =>
    clear hp4
    go_wp2_with fail
    refine (pick_c 2 g (0 + 4) w9 HU10.out (by omega)).mono ?_
    rintro e w164 ⟨x163, rfl, hp165, hcu, hch⟩
    have HU166 := Lib.hid hcu; clear hcu
    have HF167 := Lib.hid (HF11.out.trans hch)
    clear hch
    have hz168 := HF167.out.size
    obtain ⟨N, hN⟩ : ∃ N : Nat, 12 + x163 = N := ⟨(12 + x163).toNat, by omega⟩
    have eN : IntKind.i64.wrap (12 + x163) = (N : Int) := by rw [hN]; exact i64_small (by omega) (by omega)
    have hN4 : N ≤ 13 := by omega
    clear hp165 hN
    go_wp2_with fail
    go_loopw [5] (fun v wr => ∃ xs : List Int, xs.length ≤ N ∧ RowI wr wA.heap.size v xs ∧ Cur wr g ((0 + 6) + 2 * xs.length) ∧ Chg g wA wr) (fun v _ => N - slen v)
    case atStart => exact ⟨[], by simp, RowI.nil _ _, HU166.out.mono (by simp), HF167.out⟩
    case round =>
      obtain ⟨xs, hxs, hrow, hcu, hch⟩ := hrel
      have HR := Lib.hid hrow; clear hrow
      have HU := Lib.hid hcu; clear hcu
      have HF := Lib.hid hch; clear hch
      have hsz := HF.out.size
      obtain ⟨wo, rfl⟩ : ∃ wo : World, wo = wr := ⟨_, rfl⟩
      obtain ⟨ad1, cap1, rfl, -⟩ := HR.out.shape
      by_cases hlt : xs.length < N
      case pos =>
        have g1 : decide ((xs.length : Int) < (N : Int)) = true := decide_eq_true (by omega)
        go_wp2_with fail
        refine (small_c g ((0 + 6) + 2 * xs.length) wo HU.out (by omega)).mono ?_
        rintro e w170 ⟨x169, rfl, -, hcu, hch⟩
        have HU171 := Lib.hid hcu; clear hcu
        have HF172 := Lib.hid (HF.out.trans hch)
        have HR173 := Lib.hid (row_chg HR.out hch (by omega))
        clear hch
        have hz174 := HF172.out.size
        go_wp2_with (at_builtin; refine wpList_append_lies _ rfl _ _ 23 rfl wA.heap.size 3 iI _ 1 8 Try.underlying23 hiI0 hiI1 hiI2 hiI3 rfl (by omega) (.slice ad1 xs.length cap1) xs.length (ints xs) rfl (HR173.out.alloc _) ⟨w170.heap.size, 0, none⟩ 1 1 [.int .i64 x169] rfl rfl (World.news_of_block (cs := #[.int .i64 x169]) (t := 3) (fr := (0, 0)) (heap_alloc_new _ _)) (by simp [Value.oneCell']) (by omega) (by unfold maxLen; omega) (by omega) (by simp; omega) (w170.heap.size + 1) (by simp) ?_; intro g175 cap176 w177 hown hgrow hat hltx; clear hat)
        have hb178 := app_below (Below.refl wA.heap.size w170) (by omega) HR173.out hgrow
        have hz179 : w170.heap.size ≤ w177.heap.size := by have := hgrow.size; simp at this; omega
        have HR180 := Lib.hid (row_congr (ys := ints (xs ++ [x169])) hown (m := (xs ++ [x169]).length) (by simp) (by simp [ints])); clear hown
        clear hgrow
        have HU181 := Lib.hid (HU171.out.under hb178 (by omega))
        have HF182 := Lib.hid (HF172.out.under hb178 (by omega) hz179)
        clear hb178
        go_roundw
        case rel => exact ⟨xs ++ [x169], by simp; omega, HR180.out, HU181.out.mono (by simp; omega), HF182.out⟩
        case measure => (simp [slen]; omega)
      case neg =>
        have g1 : decide ((xs.length : Int) < (N : Int)) = false := decide_eq_false (by omega)
        have HXL : xs.length = N := by omega
        have HXB : xs.length ≤ 13 := by omega
        clear hlt hxs g1
        rw [HXL]
        have g1 : decide ((N : Int) < (N : Int)) = false := decide_eq_false (by omega)
        by_cases hN0 : 0 < N
        case neg =>
          have q0 : decide ((0 : Int) < (N : Int)) = false := decide_eq_false (by omega)
          go_wp2_with fail
          refine (small_c g ((0 + 6) + 2 * xs.length) wo HU.out (by omega)).mono ?_
          rintro e w184 ⟨x183, rfl, -, hcu, hch⟩
          have HU185 := Lib.hid hcu; clear hcu
          have HF186 := Lib.hid (HF.out.trans hch)
          have HR187 := Lib.hid (row_chg HR.out hch (by omega))
          clear hch
          have hz188 := HF186.out.size
          go_wp2_with fail
          refine (small_c g (((0 + 6) + 2 * xs.length) + 2) w184 HU185.out (by omega)).mono ?_
          rintro e w190 ⟨x189, rfl, -, hcu, hch⟩
          have HU191 := Lib.hid hcu; clear hcu
          have HF192 := Lib.hid (HF186.out.trans hch)
          have HR193 := Lib.hid (row_chg HR187.out hch (by omega))
          clear hch
          have hz194 := HF192.out.size
          go_wp2_with fail
          refine (small_c g (((0 + 6) + 2 * xs.length) + 4) w190 HU191.out (by omega)).mono ?_
          rintro e w196 ⟨x195, rfl, -, hcu, hch⟩
          have HU197 := Lib.hid hcu; clear hcu
          have HF198 := Lib.hid (HF192.out.trans hch)
          have HR199 := Lib.hid (row_chg HR193.out hch (by omega))
          clear hch
          have hz200 := HF198.out.size
          go_wp2_with fail
          refine (anyNum_c g (((0 + 6) + 2 * xs.length) + 6) w196 HU197.out (by omega)).mono ?_
          rintro e w202 ⟨x201, rfl, -, hcu, hch⟩
          have HU203 := Lib.hid hcu; clear hcu
          have HF204 := Lib.hid (HF198.out.trans hch)
          have HR205 := Lib.hid (row_chg HR199.out hch (by omega))
          clear hch
          have hz206 := HF204.out.size
          go_wp2_with fail
          have HU210 := Lib.hid (HU203.out.below ((Below.refl _ _).alloc (Nat.le_refl _) (.cells #[.int .i64 x183, .int .i64 x189, .int .i64 x195, .int .i64 x201] 3)))
          have hl211 := HU203.out.lt
          have HF212 := Lib.hid (HF204.out.trans (Chg.alloc g w202 (.cells #[.int .i64 x183, .int .i64 x189, .int .i64 x195, .int .i64 x201] 3)))
          have HR213 := Lib.hid (row_below HR205.out ((Below.refl _ _).alloc (Nat.le_refl _) (.cells #[.int .i64 x183, .int .i64 x189, .int .i64 x195, .int .i64 x201] 3)))
          refine (among_c w202.heap.size 4 [x183, x189, x195, x201] g (((0 + 6) + 2 * xs.length) + 12) (w202.alloc (.cells #[.int .i64 x183, .int .i64 x189, .int .i64 x195, .int .i64 x201] 3)) HU210.out (by omega) (by simp) (by simp) (by omega) (Own.newA w202 _ 3 rfl)).mono ?_
          rintro e w208 ⟨x207, rfl, hx, hcu, hch⟩
          clear hx
          have HU214 := Lib.hid hcu; clear hcu
          have HF215 := Lib.hid (HF212.out.trans hch)
          have HR216 := Lib.hid (row_chg HR213.out hch (by omega))
          clear hch
          have hz217 := HF215.out.size
          go_wp2_with fail
          go_ret2
          exact ⟨x207, _, xs, rfl, by omega, rowI_lower (B := wA.heap.size) (by (have h9 := HR216.out); (try unfold RowI at h9); unfold RowI; rw [HXL] at h9 ⊢; exact h9) (by have := HG.out; omega), by rw [HG.out]; exact HNEW.out _ HF215.out⟩
        case pos =>
          have q0 : decide ((0 : Int) < (N : Int)) = true := decide_eq_true (by omega)
          go_wp2_with fail
          refine (one_c 12 g ((0 + 6) + 2 * xs.length) wo HU.out (by omega)).mono ?_
          rintro e w219 ⟨b218, rfl, hcu, hch⟩
          have HU220 := Lib.hid hcu; clear hcu
          have HF221 := Lib.hid (HF.out.trans hch)
          have HR222 := Lib.hid (row_chg HR.out hch (by omega))
          clear hch
          have hz223 := HF221.out.size
          cases b218
          case false =>
            go_wp2_with fail
            refine (small_c g (((0 + 6) + 2 * xs.length) + 2) w219 HU220.out (by omega)).mono ?_
            rintro e w225 ⟨x224, rfl, -, hcu, hch⟩
            have HU226 := Lib.hid hcu; clear hcu
            have HF227 := Lib.hid (HF221.out.trans hch)
            have HR228 := Lib.hid (row_chg HR222.out hch (by omega))
            clear hch
            have hz229 := HF227.out.size
            go_wp2_with fail
            refine (small_c g (((0 + 6) + 2 * xs.length) + 4) w225 HU226.out (by omega)).mono ?_
            rintro e w231 ⟨x230, rfl, -, hcu, hch⟩
            have HU232 := Lib.hid hcu; clear hcu
            have HF233 := Lib.hid (HF227.out.trans hch)
            have HR234 := Lib.hid (row_chg HR228.out hch (by omega))
            clear hch
            have hz235 := HF233.out.size
            go_wp2_with fail
            refine (small_c g (((0 + 6) + 2 * xs.length) + 6) w231 HU232.out (by omega)).mono ?_
            rintro e w237 ⟨x236, rfl, -, hcu, hch⟩
            have HU238 := Lib.hid hcu; clear hcu
            have HF239 := Lib.hid (HF233.out.trans hch)
            have HR240 := Lib.hid (row_chg HR234.out hch (by omega))
            clear hch
            have hz241 := HF239.out.size
            go_wp2_with fail
            refine (anyNum_c g (((0 + 6) + 2 * xs.length) + 8) w237 HU238.out (by omega)).mono ?_
            rintro e w243 ⟨x242, rfl, -, hcu, hch⟩
            have HU244 := Lib.hid hcu; clear hcu
            have HF245 := Lib.hid (HF239.out.trans hch)
            have HR246 := Lib.hid (row_chg HR240.out hch (by omega))
            clear hch
            have hz247 := HF245.out.size
            go_wp2_with fail
            have HU251 := Lib.hid (HU244.out.below ((Below.refl _ _).alloc (Nat.le_refl _) (.cells #[.int .i64 x224, .int .i64 x230, .int .i64 x236, .int .i64 x242] 3)))
            have hl252 := HU244.out.lt
            have HF253 := Lib.hid (HF245.out.trans (Chg.alloc g w243 (.cells #[.int .i64 x224, .int .i64 x230, .int .i64 x236, .int .i64 x242] 3)))
            have HR254 := Lib.hid (row_below HR246.out ((Below.refl _ _).alloc (Nat.le_refl _) (.cells #[.int .i64 x224, .int .i64 x230, .int .i64 x236, .int .i64 x242] 3)))
            refine (among_c w243.heap.size 4 [x224, x230, x236, x242] g (((0 + 6) + 2 * xs.length) + 14) (w243.alloc (.cells #[.int .i64 x224, .int .i64 x230, .int .i64 x236, .int .i64 x242] 3)) HU251.out (by omega) (by simp) (by simp) (by omega) (Own.newA w243 _ 3 rfl)).mono ?_
            rintro e w249 ⟨x248, rfl, hx, hcu, hch⟩
            clear hx
            have HU255 := Lib.hid hcu; clear hcu
            have HF256 := Lib.hid (HF253.out.trans hch)
            have HR257 := Lib.hid (row_chg HR254.out hch (by omega))
            clear hch
            have hz258 := HF256.out.size
            go_wp2_with fail
            go_ret2
            exact ⟨x248, _, xs, rfl, by omega, rowI_lower (B := wA.heap.size) (by (have h9 := HR257.out); (try unfold RowI at h9); unfold RowI; rw [HXL] at h9 ⊢; exact h9) (by have := HG.out; omega), by rw [HG.out]; exact HNEW.out _ HF256.out⟩
          case true =>
            obtain ⟨g259, rfl, hg260⟩ : ∃ g, ad1 = some ⟨g, 0, none⟩ ∧ wA.heap.size ≤ g := by
              obtain ⟨g, cap, e, hg⟩ := RowI.own (by exact HR222.out) (by rw [HXL]; omega)
              injection e with e1 _ _
              exact ⟨g, e1, hg⟩
            go_wp2_with fail
            refine (pick_c (N : Int) g (((0 + 6) + 2 * xs.length) + 2) w219 HU220.out (by omega)).mono ?_
            rintro e w262 ⟨x261, rfl, hp263, hcu, hch⟩
            have HU264 := Lib.hid hcu; clear hcu
            have HF265 := Lib.hid (HF221.out.trans hch)
            have HR266 := Lib.hid (row_chg HR222.out hch (by omega))
            clear hch
            have hz267 := HF265.out.size
            obtain ⟨a268, rfl⟩ : ∃ a : Nat, x261 = a := ⟨x261.toNat, by omega⟩
            have a268l : a268 < N := by omega
            have a268x : (0 : Int) ≤ (a268 : Int) := by omega
            have a268y : (a268 : Int) < (N : Int) := by omega
            clear hp263
            go_wp2_with fail
            refine (anyNum_c g (((0 + 6) + 2 * xs.length) + 4) w262 HU264.out (by omega)).mono ?_
            rintro e w270 ⟨x269, rfl, -, hcu, hch⟩
            have HU271 := Lib.hid hcu; clear hcu
            have HF272 := Lib.hid (HF265.out.trans hch)
            have HR273 := Lib.hid (row_chg HR266.out hch (by omega))
            clear hch
            have hz274 := HF272.out.size
            have hrw275 := HR273.out
            have fza268 := World.ownsRow.frozenAt hrw275 a268
            have cza268 := World.ownsRow.cellAt hrw275 a268 (by have := a268l; rw [HXL]; omega)
            rw [ints_get (show a268 < xs.length by rw [HXL]; exact a268l)] at cza268
            go_wp2_with fail
            have hset276 : RowI (w270.setCell ⟨g259, a268, none⟩ (.int .i64 x269)) wA.heap.size (.slice (some ⟨g259, 0, none⟩) xs.length cap1) _ := RowI.set (cap := cap1) (by exact hrw275) a268 x269
            have hb277 : Below wA.heap.size w270 (w270.setCell ⟨g259, a268, none⟩ (.int .i64 x269)) := (Below.refl wA.heap.size w270).setCell (p := ⟨g259, a268, none⟩) hg260 (.int .i64 x269)
            have HU280 := Lib.hid (HU271.out.under hb277 (by omega))
            have HF281 := Lib.hid (HF272.out.under hb277 (Nat.le_refl _) (by simp [World.setCell]))
            have HYL : (xs.set a268 x269).length = N := by rw [List.length_set]; exact HXL
            rw [HXL, ← HYL] at hset276
            have HR282 := Lib.hid hset276; clear hset276
            generalize xs.set a268 x269 = ys279 at HR282 HYL
            generalize w270.setCell ⟨g259, a268, none⟩ (.int .i64 x269) = wS278 at HR282 HU280 HF281 ⊢
            clear HXL hrw275 hb277
            have HXL := HYL
            clear HYL
            have hz283 := HF281.out.size
            go_wp2_with fail
            refine (small_c g (((0 + 6) + 2 * xs.length) + 10) wS278 HU280.out (by omega)).mono ?_
            rintro e w285 ⟨x284, rfl, -, hcu, hch⟩
            have HU286 := Lib.hid hcu; clear hcu
            have HF287 := Lib.hid (HF281.out.trans hch)
            have HR288 := Lib.hid (row_chg HR282.out hch (by omega))
            clear hch
            have hz289 := HF287.out.size
            go_wp2_with fail
            refine (small_c g (((0 + 6) + 2 * xs.length) + 12) w285 HU286.out (by omega)).mono ?_
            rintro e w291 ⟨x290, rfl, -, hcu, hch⟩
            have HU292 := Lib.hid hcu; clear hcu
            have HF293 := Lib.hid (HF287.out.trans hch)
            have HR294 := Lib.hid (row_chg HR288.out hch (by omega))
            clear hch
            have hz295 := HF293.out.size
            go_wp2_with fail
            refine (small_c g (((0 + 6) + 2 * xs.length) + 14) w291 HU292.out (by omega)).mono ?_
            rintro e w297 ⟨x296, rfl, -, hcu, hch⟩
            have HU298 := Lib.hid hcu; clear hcu
            have HF299 := Lib.hid (HF293.out.trans hch)
            have HR300 := Lib.hid (row_chg HR294.out hch (by omega))
            clear hch
            have hz301 := HF299.out.size
            go_wp2_with fail
            refine (anyNum_c g (((0 + 6) + 2 * xs.length) + 16) w297 HU298.out (by omega)).mono ?_
            rintro e w303 ⟨x302, rfl, -, hcu, hch⟩
            have HU304 := Lib.hid hcu; clear hcu
            have HF305 := Lib.hid (HF299.out.trans hch)
            have HR306 := Lib.hid (row_chg HR300.out hch (by omega))
            clear hch
            have hz307 := HF305.out.size
            go_wp2_with fail
            have HU311 := Lib.hid (HU304.out.below ((Below.refl _ _).alloc (Nat.le_refl _) (.cells #[.int .i64 x284, .int .i64 x290, .int .i64 x296, .int .i64 x302] 3)))
            have hl312 := HU304.out.lt
            have HF313 := Lib.hid (HF305.out.trans (Chg.alloc g w303 (.cells #[.int .i64 x284, .int .i64 x290, .int .i64 x296, .int .i64 x302] 3)))
            have HR314 := Lib.hid (row_below HR306.out ((Below.refl _ _).alloc (Nat.le_refl _) (.cells #[.int .i64 x284, .int .i64 x290, .int .i64 x296, .int .i64 x302] 3)))
            refine (among_c w303.heap.size 4 [x284, x290, x296, x302] g (((0 + 6) + 2 * xs.length) + 22) (w303.alloc (.cells #[.int .i64 x284, .int .i64 x290, .int .i64 x296, .int .i64 x302] 3)) HU311.out (by omega) (by simp) (by simp) (by omega) (Own.newA w303 _ 3 rfl)).mono ?_
            rintro e w309 ⟨x308, rfl, hx, hcu, hch⟩
            clear hx
            have HU315 := Lib.hid hcu; clear hcu
            have HF316 := Lib.hid (HF313.out.trans hch)
            have HR317 := Lib.hid (row_chg HR314.out hch (by omega))
            clear hch
            have hz318 := HF316.out.size
            go_wp2_with fail
            go_ret2
            exact ⟨x308, _, ys279, rfl, by omega, rowI_lower (B := wA.heap.size) (by (have h9 := HR317.out); (try unfold RowI at h9); unfold RowI; rw [HXL] at h9 ⊢; exact h9) (by have := HG.out; omega), by rw [HG.out]; exact HNEW.out _ HF316.out⟩

end Go.Proofs.Ytekhmjhbdoigoaa

/-
  What the law of the functions asks of its lists. By an AI agent.
-/
namespace Go.Proofs.Ytekhmjhbdoigoaa
open Go.RowKit

set_option maxHeartbeats 800000 in
theorem qHasN_c (ad : Option Addr) (cap : Nat) (xs : List Int) (y : Int) (w : World) (hl : xs.length ≤ 1048576) (h : RdI w ad xs) :
    Calls Try.prog 12 #[.slice ad xs.length cap, .int .i64 y] w fun e w' => e = .returned (.bool (decide (y ∈ xs))) ∧ w = w' := by
  have HR := Lib.hid h; clear h
  go_enter Try.func12, Try.ntmps12
  go_wp2_with fail
  go_loop [9] (fun i => ∃ k : Nat, k ≤ xs.length ∧ i = .int .i64 k ∧ ∀ j, j < k → xs.getD j 0 ≠ y) (fun i => xs.length - (intOf i).toNat)
  case atStart => exact ⟨0, Nat.zero_le _, rfl, fun j hj => by omega⟩
  case round =>
    obtain ⟨k, hk, rfl, hj⟩ := hrel
    have HJ := Lib.hid hj; clear hj
    by_cases hlt : k < xs.length
    · obtain ⟨b, off, rfl, hb, c⟩ := HR.out k hlt
      have hmem : xs.getD k 0 ∈ xs := by rw [List.getD_eq_getElem?_getD, List.getElem?_eq_getElem hlt]; exact List.getElem_mem hlt
      generalize hx : xs.getD k 0 = x at c hmem
      have HX := Lib.hid hx; clear hx
      have HM := Lib.hid hmem; clear hmem
      by_cases e : x = y
      · have e1 : (x == y) = true := by simpa using e
        have HE := Lib.hid e; clear e
        go_wp2_with fail
        go_ret
        exact ⟨ret_bool (by have := HM.out; rw [HE.out] at this; simp [this]), rfl⟩
      · have e1 : (x == y) = false := by simpa using e
        have HE := Lib.hid e; clear e
        go_wp2_with fail
        go_round
        case rel =>
          refine ⟨k + 1, by omega, by go_num, fun j hj => ?_⟩
          by_cases q : j = k
          · rw [q, HX.out]; exact HE.out
          · exact HJ.out j (by omega)
        case measure => simp [intOf]; omega
    · have he : k = xs.length := by omega
      subst he
      go_wp2_with fail
      go_ret
      refine ⟨ret_bool ?_, rfl⟩
      symm
      rw [decide_eq_false_iff_not]
      intro hm
      obtain ⟨j, hj, e⟩ := List.getElem_of_mem hm
      exact HJ.out j hj (by simpa [List.getD, hj] using e)

theorem need_mem {p : List Int} {k i : Nat} : (i : Int) ∈ natL (needK p k) ↔ i < k ∧ needB p i = true := by
  unfold natL needK
  rw [List.mem_map]
  constructor
  · rintro ⟨a, ha, e⟩
    have : a = i := by omega
    subst this
    rw [List.mem_filter, List.mem_range] at ha
    exact ha
  · rintro ⟨h1, h2⟩
    exact ⟨i, by rw [List.mem_filter, List.mem_range]; exact ⟨h1, h2⟩, rfl⟩
/-- What the law asks of each coefficient. -/
theorem least_law {p : List Int} (hp : polyB p = true) {i : Nat} (hi : i < p.length) : (leastP p).getD i 0 ≤ p.getD i 0 ∧ (((i : Int) ∈ natL (needK p p.length)) → (leastP p).getD i 0 = p.getD i 0 → p.getD i 0 ≠ 1000000000) := by
  have e1 : (leastP p).getD i 0 = lstA (cof p) (stP p) i := leastP_at hi
  have e2 : p.getD i 0 = cof p i := rfl
  rw [e1, e2]
  refine ⟨least_le hp hi, fun hm he hinf => ?_⟩
  have hn := (need_mem.1 hm).2
  unfold needB at hn
  cases h : hgt (cof p) (stP p) i with
  | none => rw [h] at hn; cases hn
  | some f =>
    have hb := least_fin hp h
    unfold lstA at he
    rw [h] at he
    simp only at he
    omega
theorem count_take_succ {l : List Int} {x : Int} {k : Nat} (h : k < l.length) : (l.take (k + 1)).count x = (l.take k).count x + (if x = l.getD k 0 then 1 else 0) := by
  rw [List.take_succ_eq_append_getElem h, List.count_append, List.count_singleton, List.getD_eq_getElem?_getD, List.getElem?_eq_getElem h, Option.getD_some]
  congr 1
  by_cases hx : x = l[k]
  · simp [hx]
  · simp [hx, Ne.symm (Ne.intro hx)]

end Go.Proofs.Ytekhmjhbdoigoaa
