/-
  slices.Compact over points, walked. By an AI agent.
-/
import Derived.Test.YtpnnmdkhkjenmaaCompP
import Derived.Deep.DeepCutAuto
namespace Go.Proofs.Ytpnnmdkhkjenmaa
open Go.RowKit

theorem take_set_snoc (l : List Pt) (k : Nat) (v : Pt) (h : k < l.length) : (l.set k v).take (k + 1) = l.take k ++ [v] := by
  rw [take_snoc' (l.set k v) k (by simpa using h), List.take_set, List.set_eq_of_length_le (by simp; omega)]
  simp [List.getD_eq_getElem?_getD, h]
/-- What Compact does to a row. -/
def CompTo (w : World) (blk off cap : Nat) (l : List Pt) (e : Ending) (w' : World) : Prop := e = .returned (.slice (some ⟨blk, off, none⟩) l.length cap) ∧ PH w' blk off l.toArray ∧ Chg blk w w'

set_option maxHeartbeats 3200000 in
set_option maxRecDepth 100000 in
theorem compact_c (blk off cap : Nat) (d : Array Pt) (w : World) (hH : PH w blk off d) (hsz : d.size ≤ 100000) (hcap : d.size ≤ cap) :
    Calls Try.prog 45 #[.slice (some ⟨blk, off, none⟩) d.size cap] w (CompTo w blk off cap (compactF d.toList)) := by
  obtain ⟨R, hR⟩ : ∃ R, compactF d.toList = R := ⟨_, rfl⟩
  rw [hR]
  have HR := Lib.hid hR; clear hR
  have HP := Lib.hid hH; clear hH
  have same := Lib.hid (show R = d.toList → ∀ w' : World, PH w' blk off d → Chg blk w w' → CompTo w blk off cap R (.returned (.slice (some ⟨blk, off, none⟩) d.size cap)) w' from fun e w' h hc => ⟨by rw [e, Array.length_toList], by rw [e]; simpa using h, hc⟩)
  by_cases h2 : d.size < 2
  case pos =>
    have hv : R = d.toList := by rw [← HR.out]; exact compactF_short (by simpa using h2)
    have HV := Lib.hid hv; clear hv
    go_enter Try.func45, Try.ntmps45
    go_wp2_with fail
    go_ret
    exact same.out HV.out _ HP.out (Chg.refl _ _)
  case neg =>
    have h2z : ¬ ((d.size : Int) < 2) := by omega
    go_enter Try.func45, Try.ntmps45
    go_wp2_with fail
    go_loopw [3] (fun v wr => ∃ k : Nat, v = .int .i64 k ∧ 1 ≤ k ∧ k ≤ d.size ∧ cpre d.toList k = d.toList.take k ∧ Below w.heap.size w wr) (fun v _ => d.size - (intOf v).toNat)
    case atStart => exact ⟨1, rfl, Nat.le_refl _, by omega, cpre_one _ (by simp; omega), Below.refl _ _⟩
    case round =>
      obtain ⟨wE, rfl⟩ : ∃ x : World, x = wr := ⟨_, rfl⟩
      obtain ⟨K, rfl, hK1, hKn, hpre, hbel⟩ := hrel
      have HPRE := Lib.hid hpre; clear hpre
      have HPE := Lib.hid (HP.out.below hbel)
      by_cases hlt : K < d.size
      case neg =>
        obtain rfl : K = d.size := by omega
        have hv : R = d.toList := by
          have h := HPRE.out
          rw [← Array.length_toList, cpre_all, List.take_length, HR.out] at h
          exact h
        have HV := Lib.hid hv; clear hv
        go_wp2_with fail
        go_ret
        exact same.out HV.out _ HPE.out (Chg.of_below hbel)
      case pos =>
        obtain ⟨m, hm⟩ : ∃ m, K = m + 1 := ⟨K - 1, by omega⟩
        have em : (K : Int) - 1 = (m : Int) := by omega
        have wm : IntKind.i64.wrap (m : Int) = (m : Int) := i64_small (by omega) (by omega)
        have hmK : m < K ∧ K ≤ m + 1 := by omega
        have hstep : cpre d.toList (K + 1) = if d[m]! = d[K]! then cpre d.toList K else cpre d.toList K ++ [d[K]!] := by
          have := cpre_succ (l := d.toList) (m := m) (by simp; omega)
          rw [← hm, getD_toList, getD_toList, show m + 2 = K + 1 by omega] at this
          exact this
        have HST := Lib.hid hstep; have HM := Lib.hid hm; clear hstep hm
        obtain ⟨c, hc⟩ : ∃ c, decide (d[m]! = d[K]!) = c := ⟨_, rfl⟩
        have HCC := Lib.hid hc; clear hc
        go_upto_region 6 with fail
        go_cut [25] from 16 to 25 (fun s wc => s = .bool c ∧ Below wE.heap.size wE wc)
        case first =>
          have x1 : (0 : Int) ≤ (K : Int) := by omega
          have x2 : (K : Int) < (d.size : Int) := by omega
          have x3 : (0 : Int) ≤ (m : Int) := by omega
          have x4 : (m : Int) < (d.size : Int) := by omega
          obtain ⟨p1, p2, _, _, _⟩ := HPE.out K hlt
          obtain ⟨q1, q2, _, _, _⟩ := HPE.out m (by omega)
          obtain ⟨pp, hpp⟩ : ∃ p, d[K]! = p := ⟨_, rfl⟩
          obtain ⟨qq, hqq⟩ : ∃ p, d[m]! = p := ⟨_, rfl⟩
          rw [hpp] at p1 p2
          rw [hqq] at q1 q2
          have hcc := HCC.out
          rw [hpp, hqq] at hcc
          have HC3 := Lib.hid hcc; clear hcc hpp hqq
          obtain ⟨px, py⟩ := pp
          obtain ⟨qx, qy⟩ := qq
          simp only at p1 p2 q1 q2
          by_cases hx : px = qx
          case pos =>
            subst hx
            by_cases hy : py = qy
            case pos =>
              subst hy
              go_wp2_with fail
              go_quiet (fail)
              go_wp2_with fail
              go_meet
              exact ⟨by rw [← HC3.out]; simp, bdrewN (Below.refl _ _) nq⟩
            case neg =>
              go_wp2_with fail
              go_quiet (fail)
              go_wp2_with fail
              go_meet
              exact ⟨by rw [← HC3.out, decide_eq_false (fun h => hy (by injection h with _ h1; exact h1.symm))]; try rfl, bdrewN (Below.refl _ _) nq⟩
          case neg =>
            go_wp2_with fail
            go_quiet (fail)
            go_wp2_with fail
            go_meet
            exact ⟨by rw [← HC3.out, decide_eq_false (fun h => hx (by injection h with h1 _; exact h1.symm))]; try rfl, bdrewN (Below.refl _ _) nq⟩
        case rest =>
          obtain ⟨rfl, hbc⟩ := hcut
          obtain ⟨wF, rfl⟩ : ∃ x : World, x = wc := ⟨_, rfl⟩
          have hbF := ball hbel hbc
          have HPF := Lib.hid (HPE.out.below hbc)
          clear hbc
          cases c
          case false =>
            have hn := of_decide_eq_false HCC.out
            have HT := Lib.hid (show cpre d.toList (K + 1) = d.toList.take (K + 1) by rw [HST.out, if_neg hn, HPRE.out, take_snoc' _ _ (by simpa using hlt), getD_toList])
            clear hn HCC
            go_wp2_with fail
            go_roundw
            case rel => exact ⟨K + 1, by go_num, by omega, by omega, HT.out, hbF⟩
            case measure => simp [intOf]; omega
          case true =>
            have hy := of_decide_eq_true HCC.out
            have HT := Lib.hid (show cpre d.toList (K + 1) = d.toList.take K by rw [HST.out, if_pos hy, HPRE.out])
            clear hy HCC
            obtain ⟨S, hS⟩ : ∃ S, d.size - K = S := ⟨_, rfl⟩
            have eS : (d.size : Int) - (K : Int) = (S : Int) := by omega
            have hKS : K + S ≤ d.size ∧ d.size ≤ K + S := by omega
            have HS := Lib.hid hS; clear hS
            have x1 : (0 : Int) ≤ (K : Int) := by omega
            have x2 : (K : Int) ≤ (d.size : Int) := by omega
            have x3 : K ≤ cap := by omega
            go_wp2_with fail
            rw [HS.out]
            obtain ⟨CP, hCP⟩ : ∃ x, cap - K = x := ⟨_, rfl⟩
            rw [hCP]
            clear hCP
            go_loopw [3, 5] (fun vk vj wr => ∃ (k j : Nat) (dk : Array Pt), vk = .int .i64 k ∧ vj = .int .i64 j ∧ 1 ≤ j ∧ j ≤ S ∧ K ≤ k ∧ k < K + j ∧ dk.size = d.size ∧ PH wr blk off dk ∧ Chg blk w wr ∧ cpre d.toList (K + j) = dk.toList.take k ∧ (∀ t, K + j ≤ t + 1 → t < d.size → dk[t]! = d[t]!)) (fun _ vj _ => S + 1 - (intOf vj).toNat)
            case atStart => exact ⟨K, 1, d, rfl, rfl, Nat.le_refl _, by omega, Nat.le_refl _, by omega, rfl, HPF.out, Chg.of_below hbF, HT.out, fun t _ _ => rfl⟩
            case round =>
              obtain ⟨wH, rfl⟩ : ∃ x : World, x = wr := ⟨_, rfl⟩
              obtain ⟨k, j, dk, rfl, rfl, hj1, hjS, hKk, hkj, hsk, hph, hchg, hcp, hsm⟩ := hrel
              have HCP := Lib.hid hcp; have HPH := Lib.hid hph; have HSK := Lib.hid hsk; have HSM := Lib.hid hsm; clear hcp hph hsk hsm
              by_cases hjl : j < S
              case neg =>
                obtain rfl : j = S := by omega
                have hRk : R = dk.toList.take k := by rw [← HR.out, ← cpre_all, ← HCP.out, show d.toList.length = K + j by simp; omega]
                have HRK := Lib.hid hRk; clear hRk
                have hclr := fun ty => run_clearP wH ty blk (off + k * 2) (d.size - k) (cap - k) (by omega) (fun t ht => by
                  obtain ⟨h1, h2, _⟩ := HPH.out (k + t / 2) (by have := HSK.out; omega)
                  rcases (show t % 2 = 0 ∨ t % 2 = 1 by omega) with e | e
                  · rw [show off + k * 2 + t = off + (k + t / 2) * 2 by omega, h1]; rfl
                  · rw [show off + k * 2 + t = off + (k + t / 2) * 2 + 1 by omega, h2]; rfl) (fun t ht => by
                  obtain ⟨_, _, h1, h2, _⟩ := HPH.out (k + t / 2) (by have := HSK.out; omega)
                  rcases (show t % 2 = 0 ∨ t % 2 = 1 by omega) with e | e
                  · rw [show off + k * 2 + t = off + (k + t / 2) * 2 by omega, h1]
                  · rw [show off + k * 2 + t = off + (k + t / 2) * 2 + 1 by omega, h2])
                have y1 : k ≤ d.size := by omega
                have y2 : k ≤ cap := by omega
                generalize (Builtin.zeroCells #[.int .i64 0, .int .i64 0] (d.size - k)).toList = vs at hclr
                have hw := HPH.out.wiped (k := k) (by have := HSK.out; omega) vs
                have HW := Lib.hid hw; clear hw
                have hlen : (dk.toList.take k).length = k := by rw [List.length_take, Array.length_toList, HSK.out]; omega
                have HLEN := Lib.hid hlen; clear hlen
                go_wp2_with fail
                go_ret
                exact ⟨by rw [HRK.out, HLEN.out]; rfl, by rw [HRK.out]; exact HW.out, hchg.trans (Chg.setCells _ _ _ _)⟩
              case pos =>
                obtain ⟨I, hI⟩ : ∃ I, K + j = I := ⟨_, rfl⟩
                obtain ⟨jm, hjm⟩ : ∃ jm, j = jm + 1 := ⟨j - 1, by omega⟩
                have ej : (j : Int) - 1 = (jm : Int) := by omega
                have wj : IntKind.i64.wrap (jm : Int) = (jm : Int) := i64_small (by omega) (by omega)
                obtain ⟨M2, hM2⟩ : ∃ M2, K + jm = M2 := ⟨_, rfl⟩
                have hb1 : I < d.size ∧ M2 < I ∧ I ≤ M2 + 1 ∧ k < I ∧ jm < S := by omega
                have hst2 : cpre d.toList (I + 1) = if d[M2]! = d[I]! then cpre d.toList I else cpre d.toList I ++ [d[I]!] := by
                  have := cpre_succ (l := d.toList) (m := M2) (by simp; omega)
                  rw [getD_toList, getD_toList, show M2 + 2 = I + 1 by omega, show M2 + 1 = I by omega] at this
                  exact this
                have HST2 := Lib.hid hst2; clear hst2
                obtain ⟨p1, p2, _, _, p5⟩ := HPH.out I (by have := HSK.out; omega)
                obtain ⟨q1, q2, _, _, _⟩ := HPH.out M2 (by have := HSK.out; omega)
                rw [HSM.out I (by omega) (by omega)] at p1 p2 p5
                rw [HSM.out M2 (by omega) (by omega)] at q1 q2
                rw [show off + I * 2 = off + K * 2 + j * 2 by omega] at p1 p2
                rw [show off + M2 * 2 = off + K * 2 + jm * 2 by omega] at q1 q2
                have HI := Lib.hid hI; have HJM := Lib.hid hjm; have HM2 := Lib.hid hM2; clear hI hjm hM2
                obtain ⟨c, hc⟩ : ∃ c, decide (d[M2]! = d[I]!) = c := ⟨_, rfl⟩
                have HCC := Lib.hid hc; clear hc
                obtain ⟨pp, hpp⟩ : ∃ p, d[I]! = p := ⟨_, rfl⟩
                obtain ⟨qq, hqq⟩ : ∃ p, d[M2]! = p := ⟨_, rfl⟩
                rw [hpp] at p1 p2 p5
                rw [hqq] at q1 q2
                have hcc := HCC.out
                rw [hpp, hqq] at hcc
                have HC3 := Lib.hid hcc; have HPP := Lib.hid hpp; clear hcc hpp hqq
                obtain ⟨px, py⟩ := pp
                obtain ⟨qx, qy⟩ := qq
                simp only at p1 p2 q1 q2
                have hblk := HPH.out.lt (by have := HSK.out; omega)
                go_upto_region 11 with fail
                go_cut [44] from 35 to 44 (fun s wc => s = .bool (!c) ∧ Below wH.heap.size wH wc)
                case first =>
                  have x5 : (0 : Int) ≤ (j : Int) := by omega
                  have x6 : (j : Int) < (S : Int) := by omega
                  have x7 : (0 : Int) ≤ (jm : Int) := by omega
                  have x8 : (jm : Int) < (S : Int) := by omega
                  by_cases hx : px = qx
                  case pos =>
                    subst hx
                    by_cases hy : py = qy
                    case pos =>
                      subst hy
                      go_wp2_with fail
                      go_quiet (fail)
                      go_wp2_with fail
                      go_meet
                      exact ⟨by rw [← HC3.out]; simp, bdrewN (Below.refl _ _) nq⟩
                    case neg =>
                      go_wp2_with fail
                      go_quiet (fail)
                      go_wp2_with fail
                      go_meet
                      exact ⟨by rw [← HC3.out, decide_eq_false (fun h => hy (by injection h with _ h1; exact h1.symm))]; try rfl, bdrewN (Below.refl _ _) nq⟩
                  case neg =>
                    go_wp2_with fail
                    go_quiet (fail)
                    go_wp2_with fail
                    go_meet
                    exact ⟨by rw [← HC3.out, decide_eq_false (fun h => hx (by injection h with h1 _; exact h1.symm))]; try rfl, bdrewN (Below.refl _ _) nq⟩
                case rest =>
                  obtain ⟨rfl, hbc⟩ := hcut
                  obtain ⟨wG, rfl⟩ : ∃ x : World, x = wc := ⟨_, rfl⟩
                  have HPG := Lib.hid (HPH.out.below hbc)
                  have hcG := hchg.trans (Chg.of_below hbc)
                  have m1 := bcell hbc hblk p1
                  have m2 := bcell hbc hblk p2
                  clear hbc p1 p2 q1 q2
                  cases c
                  case true =>
                    have hy := of_decide_eq_true HCC.out
                    have HT2 := Lib.hid (show cpre d.toList (K + (j + 1)) = dk.toList.take k by rw [show K + (j + 1) = I + 1 by have := HI.out; omega, HST2.out, if_pos hy, ← HI.out]; exact HCP.out)
                    have HSM2 := Lib.hid (show ∀ t, K + (j + 1) ≤ t + 1 → t < d.size → dk[t]! = d[t]! from fun t h1 h2 => HSM.out t (by omega) h2)
                    clear hy HCC HC3
                    go_wp2_with fail
                    go_roundw
                    case rel => exact ⟨k, j + 1, dk, rfl, by go_num, by omega, by omega, hKk, by omega, HSK.out, HPG.out, hcG, HT2.out, HSM2.out⟩
                    case measure => simp [intOf]; omega
                  case false =>
                    have hn := of_decide_eq_false HCC.out
                    have HT2 := Lib.hid (show cpre d.toList (K + (j + 1)) = (dk.setIfInBounds k ⟨px, py⟩).toList.take (k + 1) by
                      rw [show K + (j + 1) = I + 1 by have := HI.out; omega, HST2.out, if_neg hn, ← HI.out, HCP.out, HI.out, HPP.out, Array.toList_setIfInBounds, take_set_snoc _ _ _ (by have := HSK.out; simp; omega)])
                    have HSM2 := Lib.hid (show ∀ t, K + (j + 1) ≤ t + 1 → t < d.size → (dk.setIfInBounds k ⟨px, py⟩)[t]! = d[t]! from fun t h1 h2 => by
                      rw [← HSM.out t (by omega) h2, getElem!_pos _ t (by simp; have := HSK.out; omega), Array.getElem_setIfInBounds, if_neg (by have := HI.out; omega), getElem!_pos dk t (by have := HSK.out; omega)])
                    obtain ⟨k1, k2, k3, k4, _⟩ := HPG.out k (by have := HSK.out; omega)
                    have hsto := HPG.out.store (k := k) (by have := HSK.out; omega) p5
                    simp only at hsto
                    have HSTO := Lib.hid hsto; clear hsto hn HCC HC3
                    have x5 : (0 : Int) ≤ (j : Int) := by omega
                    have x6 : (j : Int) < (S : Int) := by omega
                    have x7 : (0 : Int) ≤ (k : Int) := by omega
                    have x8 : (k : Int) < (d.size : Int) := by omega
                    go_wp2_with fail
                    go_roundw
                    case rel => exact ⟨k + 1, j + 1, dk.setIfInBounds k ⟨px, py⟩, by go_num, by go_num, by omega, by omega, by omega, by omega, by rw [Array.size_setIfInBounds]; exact HSK.out, HSTO.out, (hcG.trans (Chg.set _ _ _ _)).trans (Chg.set _ _ _ _), HT2.out, HSM2.out⟩
                    case measure => simp [intOf]; omega

end Go.Proofs.Ytpnnmdkhkjenmaa
