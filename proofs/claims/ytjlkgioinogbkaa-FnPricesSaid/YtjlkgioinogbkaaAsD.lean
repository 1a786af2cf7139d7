/-
  The best assignment and the prices of rows and columns: the program's. By an AI agent.
-/
import Derived.Test.YtjlkgioinogbkaaAsC
import Derived.Test.YtjlkgioinogbkaaAsQ
import Derived.Test.YtjlkgioinogbkaaWyG
import Derived.Test.YtjlkgioinogbkaaMxC
namespace Go.Proofs.Ytjlkgioinogbkaa
open Go.RowKit

theorem bst_of {M : List (List Int)} (h : bsB M = true) : BstA M.length (entM M) (bstA M.length (entM M)).2 ∧ (bstA M.length (entM M)).1 = costP (entM M) (bstA M.length (entM M)).2 := by
  unfold bsB at h
  simp only [Bool.and_eq_true, Bool.not_eq_true', decide_eq_false_iff_not] at h
  obtain ⟨hn, _, hnum⟩ := sq_facts h.1
  rcases best_spec (m := entM M) hnum hn with ⟨h3, _⟩ | ⟨h3, h4, h5, h6, h7⟩
  · rw [h3] at h; exact absurd rfl h.2
  · exact ⟨⟨hnum, hn, h3, h4, h5, fun c g1 g2 g3 => by rw [← h6]; exact h7 c g1 g2 g3⟩, h6⟩

set_option maxHeartbeats 6400000 in
set_option maxRecDepth 100000 in
theorem rowPrices_c (n : Nat) (ad : Option Addr) (cap : Nat) (m : Nat → Nat → Int) (adA : Option Addr) (capA : Nat) (A : List Int) (w : World) (hr : RdM w ad (toM n m)) (hA : RdI w adA A) (hB : BstA n m A) :
    Calls Try.prog 24 #[.slice ad n cap, .slice adA n capA] w fun e w' => ∃ g cap', e = .returned (.slice (some ⟨g, 0, none⟩) n cap') ∧ w.heap.size ≤ g ∧ Own w' g 3 (ints (tab n (prU n m A))) ∧ Below w.heap.size w w' := by
  have hn := hB.n6
  have HR := Lib.hid hr; have HA := Lib.hid hA; have HB := Lib.hid hB
  have HLA := Lib.hid hB.len
  have hmk := fun (w : World) => run_makeN (P := Try.prog) 26 3 (.int .i64 0) 1 8 Try.underlying26 Try.infoI n (by omega) (by omega) w
  have HO0 := Lib.hid (show Own (w.alloc (.cells (madeCells #[.int .i64 0] (n * 1)) 3)) w.heap.size 3 (ints (tab n (rxR n (stA m A) 0))) from Own.newA w _ 3 (by rw [Nat.mul_one]; exact madeInts n))
  have hb0 := bal_alloc (o := .cells (madeCells #[.int .i64 0] (n * 1)) 3) (Below.refl w.heap.size w)
  have HE := Lib.hid (show tab n (rxR n (stA m A) n) = tab n (prU n m A) from tab_congr fun j hj => uI_uR hB.bd hB.n6.2 hB.cyc hj)
  have HSN := Lib.hid (fun (r i j : Nat) (_ : r ≤ n) (hi : i < n) (hj : j ≤ n) => rxJ_snd (F := stA m A) hi (rxI_snd (rxR_snd (n := n) (F := stA m A) r) (Nat.le_of_lt hi)) hj)
  clear hr hA hB
  simp only [Nat.mul_one] at hb0 HO0
  go_enter Try.func24, Try.ntmps24
  go_wp2_with fail
  go_loopw [14] (fun v wr => ∃ r : Nat, r ≤ n ∧ v = .int .i64 r ∧ Own wr w.heap.size 3 (ints (tab n (rxR n (stA m A) r))) ∧ Below w.heap.size w wr) (fun v _ => n - (intOf v).toNat)
  case atStart => exact ⟨0, Nat.zero_le _, rfl, HO0.out, hb0⟩
  case round =>
    obtain ⟨wE, rfl⟩ : ∃ x : World, x = wr := ⟨_, rfl⟩
    obtain ⟨r, hrn, rfl, ho, hbel⟩ := hrel
    have HO1 := Lib.hid ho; clear ho HO0
    by_cases hlr : r < n
    case neg =>
      obtain rfl : r = n := by omega
      rw [HE.out] at HO1
      go_wp2_with fail
      go_ret
      exact ⟨_, r, rfl, Nat.le_refl _, HO1.out, hbel⟩
    case pos =>
      go_wp2_with fail
      go_loopw [18] (fun v wr => ∃ i : Nat, i ≤ n ∧ v = .int .i64 i ∧ Own wr w.heap.size 3 (ints (tab n (rxI n (stA m A) (rxR n (stA m A) r) i))) ∧ Below w.heap.size w wr) (fun v _ => n - (intOf v).toNat)
      case atStart => exact ⟨0, Nat.zero_le _, rfl, HO1.out, hbel⟩
      case round =>
        obtain ⟨wF, rfl⟩ : ∃ x : World, x = wr := ⟨_, rfl⟩
        obtain ⟨i, hin, rfl, ho, hbF⟩ := hrel
        have HO2 := Lib.hid ho; clear ho HO1
        by_cases hli : i < n
        case neg =>
          obtain rfl : i = n := by omega
          go_wp2_with fail
          go_roundw
          case rel => exact ⟨r + 1, by omega, by go_num, HO2.out, hbF⟩
          case measure => simp [intOf]; omega
        case pos =>
          obtain ⟨hc1, hc2, hc3, hc4⟩ := HB.out.at hli
          obtain ⟨ba, oa, rfl, hba, ka⟩ := HA.out i (by rw [HLA.out]; exact hli)
          rw [(vt_at HB.out.nd.vt (t := i) (by rw [HLA.out]; exact hli)).1] at ka
          have ka := bcell hbF hba ka
          obtain ⟨c, hc⟩ : ∃ c, vx A i = c := ⟨_, rfl⟩
          rw [hc] at hc1 hc2 hc3 hc4 ka
          have HC := Lib.hid hc; clear hc
          have x1 : (0 : Int) ≤ (i : Int) := by omega
          have x2 : (i : Int) < (n : Int) := by omega
          have x3 : (0 : Int) ≤ (c : Int) := by omega
          have x4 : (c : Int) < (n : Int) := by omega
          go_wp2_with fail
          go_loopw [25] (fun v wr => ∃ j : Nat, j ≤ n ∧ v = .int .i64 j ∧ Own wr w.heap.size 3 (ints (tab n (rxJ (stA m A) i (rxI n (stA m A) (rxR n (stA m A) r) i) j))) ∧ Below w.heap.size w wr) (fun v _ => n - (intOf v).toNat)
          case atStart => exact ⟨0, Nat.zero_le _, rfl, HO2.out, hbF⟩
          case round =>
            obtain ⟨wI, rfl⟩ : ∃ x : World, x = wr := ⟨_, rfl⟩
            obtain ⟨j, hjn, rfl, ho, hbI⟩ := hrel
            clear ka HO2
            by_cases hlj : j < n
            case neg =>
              obtain rfl : j = n := by omega
              have HO3 := Lib.hid ho; clear ho
              go_wp2_with fail
              go_roundw
              case rel => exact ⟨i + 1, by omega, by go_num, HO3.out, hbI⟩
              case measure => simp [intOf]; omega
            case pos =>
              have hsnd := HSN.out r i j hrn hli hjn
              have hbi := snd_bd HB.out.bd hn.2 HB.out.cyc hsnd hli
              have hbj := snd_bd HB.out.bd hn.2 HB.out.cyc hsnd hlj
              have hnx : rxJ (stA m A) i (rxI n (stA m A) (rxR n (stA m A) r) i) (j + 1) = relx (stA m A) (rxJ (stA m A) i (rxI n (stA m A) (rxR n (stA m A) r) i) j) i j := rfl
              have HNX := Lib.hid hnx; clear hnx hsnd
              generalize rxJ (stA m A) i (rxI n (stA m A) (rxR n (stA m A) r) i) j = G at ho hbi hbj HNX
              have kj := ho.cell? (ints_get (by rw [tab_length]; exact hlj))
              have ki := ho.cell? (ints_get (by rw [tab_length]; exact hli))
              have fj := ho.frozen j
              rw [tab_getD hlj] at kj
              rw [tab_getD hli] at ki
              obtain ⟨bM, oM, rfl, hbM, hrow⟩ := HR.out.rowF (by omega)
              obtain ⟨b4, o4, c4, e4, hl4, hc4'⟩ := hrow j hlj
              obtain ⟨b5, o5, c5, e5, hl5, hc5'⟩ := hrow i hli
              have e4 := bcell hbI hbM e4
              have e5 := bcell hbI hbM e5
              have k4 := bcell hbI hl4 (hc4' c hc1)
              have k5 := bcell hbI hl5 (hc5' c hc1)
              have hmj := numB_t (HB.out.num j c hlj hc1)
              have y1 : (0 : Int) ≤ (j : Int) := by omega
              have y2 : (j : Int) < (n : Int) := by omega
              have HF := Lib.hid (show stA m A i j = prodZ (m j c) (-(m i c)) by unfold stA; rw [HC.out])
              clear hrow hc4' hc5'
              generalize m j c = D at k4 hmj HF
              generalize m i c = E at k5 hc2 hc3 hc4 HF
              by_cases hD : D = 1000000000
              · have HS := Lib.hid (show tab n (relx (stA m A) G i j) = tab n G from tab_congr fun b hb => by
                  unfold relx
                  by_cases e : b = j
                  · subst e
                    rw [if_pos rfl, HF.out, hD, prodZ_inf (Or.inl rfl), prodZ_inf (Or.inr rfl)]
                    unfold leastZ
                    rw [if_pos (by omega)]
                  · rw [if_neg e])
                have HO3 := Lib.hid ho; clear ho
                subst hD
                clear hmj hbi hbj
                go_wp2_with fail
                go_roundw
                case rel => exact ⟨j + 1, by omega, by go_num, by rw [HNX.out, HS.out]; exact HO3.out, hbI⟩
                case measure => simp [intOf]; omega
              · have g1 : (D != 1000000000) = true := bne_iff_ne.2 hD
                have ho2 := ho.set j (.int .i64 (if G i + D - E < G j then G i + D - E else G j))
                rw [ints_set, tab_set] at ho2
                have HS := Lib.hid (show tab n (fun b => if b = j then (if G i + D - E < G j then G i + D - E else G j) else G b) = tab n (relx (stA m A) G i j) from tab_congr fun b hb => by
                  unfold relx
                  by_cases e : b = j
                  · subst e
                    rw [if_pos rfl, if_pos rfl, leastZ_if, HF.out, prodZ_fin hD (by omega), prodZ_fin (by omega) (by omega)]
                    congr 1
                    omega
                  · rw [if_neg e, if_neg e])
                rw [HS.out] at ho2
                have HO3 := Lib.hid ho2
                have w1 : IntKind.i64.wrap (G i + D) = G i + D := i64_small (by omega) (by omega)
                have w2 : IntKind.i64.wrap (G i + D - E) = G i + D - E := i64_small (by omega) (by omega)
                have hb3 := hbI.setCell (p := ⟨w.heap.size, j, none⟩) (Nat.le_refl _) (.int .i64 (if G i + D - E < G j then G i + D - E else G j))
                clear ho ho2 hmj hbi hbj hc3 hc4 hD
                go_wp2_with fail
                go_still_tail 28, (by kernel_rfl)
                change wpList _ _ _ _ _ wI.drew
                have d1 : wI.drew.cell? ⟨w.heap.size, j, none⟩ = some (.int .i64 (G j)) := kj
                have d2 : wI.drew.frozen? ⟨w.heap.size, j, none⟩ = false := fj
                go_wp2_with fail
                go_roundw
                case rel => exact ⟨j + 1, by omega, by go_num, by rw [HNX.out]; exact HO3.out.below (Below.refl _ _).drew (by have := HO3.out.lt; exact this), hb3.drew⟩
                case measure => simp [intOf]; omega
end Go.Proofs.Ytjlkgioinogbkaa
