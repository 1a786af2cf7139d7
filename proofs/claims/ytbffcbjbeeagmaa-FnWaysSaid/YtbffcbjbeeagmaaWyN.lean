/-
  Whether potentials prove a way: program and reference. Printed by gen_wyN.py. By an AI agent.
-/
import Derived.Test.YtbffcbjbeeagmaaWyM
namespace Go.Proofs.Ytbffcbjbeeagmaa
open Go.RowKit

def proX (M : List (List Int)) (p l : List Int) : Bool := hasB M p && wayB M.length (entM M) l
def proB (M : List (List Int)) (p l : List Int) : Bool := proX M p l && prB (entM M) p l (l.length - 1)

set_option maxHeartbeats 3200000 in
set_option maxRecDepth 100000 in
theorem iIsProved_c (ad : Option Addr) (cap : Nat) (M : List (List Int)) (adp : Option Addr) (capp : Nat) (p : List Int) (adw : Option Addr) (capw : Nat) (l : List Int) (w : World) (hr : RdM w ad M) (hl : smM M) (hp : RdI w adp p) (hlp : p.length ≤ 1048576) (hw : RdI w adw l) (hlw : l.length ≤ 1048576) :
    Calls Try.prog 28 #[.slice ad M.length cap, .slice adp p.length capp, .slice adw l.length capw] w fun e w' => e = .returned (.tuple #[.bool (proB M p l), .bool (proX M p l)]) ∧ Below w.heap.size w w' := by
  have C1 := Lib.hid (hasPotentials_c ad cap M adp capp p w hr hl hp hlp)
  unfold proB proX
  cases hh : hasB M p
  · rw [hh] at C1
    clear hh hr hp hl hlp hw hlw
    go_enter Try.func28, Try.ntmps28
    go_wp2_with fail
    refine C1.out.mono ?_
    rintro e w1 ⟨rfl, hb1⟩
    go_wp2_with fail
    go_ret2
    exact ⟨rfl, hb1⟩
  · have hask : askB M p = true := by unfold hasB at hh; simp only [Bool.and_eq_true] at hh; exact hh.1
    obtain ⟨hs, hpn, hpf⟩ := ask_facts hask
    obtain ⟨hn, _, hnum'⟩ := sq_facts hs
    have hnum : ∀ a b, a < M.length → b < M.length → numB (entM M a b) = true := hnum'
    have hM := sq_toM hs
    rw [← hM] at hr
    rw [hh] at C1
    have C2 := Lib.hid (fun u (hb : Below w.heap.size w u) => isWay_c M.length ad cap (entM M) adw capw l u (hr.below hb) (hw.below hb) hn hlw hnum)
    have HF := Lib.hid (fun i (hi : i < M.length) => fin_bd hpf (i := i) (by rw [hpn]; exact hi))
    have HV0 := Lib.hid (fun (h : wayB M.length (entM M) l = true) => by
      unfold wayB at h
      simp only [Bool.and_eq_true] at h
      exact (show (1 ≤ l.length ∧ l.length ≤ 20) ∧ ∀ t, t < l.length → l.getD t 0 = (vx l t : Int) ∧ vx l t < M.length from ⟨by have := inB_t.1 h.1; omega, fun t ht => vt_at h.2.1 ht⟩))
    have HST := Lib.hid (prB_t (m := entM M) (p := p) (l := l) (t := l.length - 1))
    rw [Bool.true_and]
    rw [hpn] at C1 ⊢
    have HPN := Lib.hid hpn
    clear hh hask hs hpf hM hnum' hpn hl hlp hlw
    have HR := Lib.hid hr; have HP := Lib.hid hp; have HW := Lib.hid hw; have HNUM := Lib.hid hnum
    clear hr hp hw hnum
    generalize entM M = m at HR HNUM HV0 HST C2  ⊢
    generalize M.length = n at C1 C2  HR HNUM hn HF HPN HV0 HST ⊢
    obtain ⟨N, hN⟩ : ∃ N, l.length = N := ⟨_, rfl⟩
    have HN := Lib.hid hN
    rw [hN] at HV0 HST C2 ⊢
    clear hN
    generalize wayB n m l = W at C2 HV0 ⊢
    generalize prB m p l (N - 1) = S at HST ⊢
    cases W
    · clear HST HV0
      go_enter Try.func28, Try.ntmps28
      go_wp2_with fail
      refine C1.out.mono ?_
      rintro e w1 ⟨rfl, hb1⟩
      go_wp2_with fail
      refine (C2.out _ hb1).mono ?_
      rintro e w2 ⟨rfl, hb2⟩
      go_wp2_with fail
      go_ret2
      exact ⟨rfl, ball hb1 hb2⟩
    · obtain ⟨hN20, hv⟩ := HV0.out rfl
      have HV := Lib.hid hv
      clear HV0 hv
      rw [Bool.true_and]
      go_enter Try.func28, Try.ntmps28
      go_wp2_with fail
      refine C1.out.mono ?_
      rintro e w1 ⟨rfl, hb1⟩
      go_wp2_with fail
      refine (C2.out _ hb1).mono ?_
      rintro e w2 ⟨rfl, hb2⟩
      have HB0 := Lib.hid (ball hb1 hb2)
      clear hb1 hb2 C1 C2
      go_wp2_with fail
      go_loopw [8] (fun i wr => ∃ s : Nat, 1 ≤ s ∧ s ≤ N ∧ i = .int .i64 s ∧ (∀ t, t + 1 < s → p.getD (vx l (t + 1)) 0 = p.getD (vx l t) 0 + m (vx l t) (vx l (t + 1))) ∧ Below w.heap.size w wr) (fun i _ => N - (intOf i).toNat)
      case atStart => exact ⟨1, Nat.le_refl _, by omega, rfl, fun t ht => by omega, HB0.out⟩
      case round =>
        obtain ⟨wE, rfl⟩ : ∃ x : World, x = wr := ⟨_, rfl⟩
        obtain ⟨s, hs1, hs, rfl, hlow, hbel⟩ := hrel
        have HL := Lib.hid hlow; clear hlow
        by_cases hls : s < N
        case neg =>
          obtain rfl : s = N := by omega
          obtain rfl : S = true := HST.out.2 (fun t ht => HL.out t (by omega))
          go_wp2_with fail
          go_ret2
          exact ⟨rfl, hbel⟩
        case pos =>
          obtain ⟨t, ht⟩ : ∃ t, s = t + 1 := ⟨s - 1, by omega⟩
          obtain ⟨v1, u1⟩ := HV.out t (by omega)
          obtain ⟨v2, u2⟩ := HV.out s hls
          obtain ⟨bw, ow, rfl, hbw, q1⟩ := HW.out t (by have := HN.out; omega)
          have q2 := HW.out.at (j := s) (by have := HN.out; omega)
          rw [v1] at q1
          rw [v2] at q2
          have q1 := bcell hbel hbw q1
          have q2 := bcell hbel hbw q2
          obtain ⟨bp, op, rfl, hbp, q3⟩ := HP.out (vx l t) (by rw [HPN.out]; exact u1)
          have q4 := HP.out.at (j := vx l s) (by rw [HPN.out]; exact u2)
          have q3 := bcell hbel hbp q3
          have q4 := bcell hbel hbp q4
          have f1 := HF.out _ u1
          have hm := numB_t (HNUM.out _ _ u1 u2)
          obtain ⟨bM, oM, rfl, hbM, hrow⟩ := HR.out.rowF (by omega)
          obtain ⟨b2, o2, c2, e2, hl2, hc2⟩ := hrow _ u1
          have e2 := bcell hbel hbM e2
          have k1 := bcell hbel hl2 (hc2 _ u2)
          have HNO := Lib.hid (show ¬ p.getD (vx l s) 0 = p.getD (vx l t) 0 + m (vx l t) (vx l s) → S = false from fun h => by
            cases hS : S
            · rfl
            · exact absurd (by have := HST.out.1 hS t (by omega); rw [← ht] at this; exact this) h)
          have HYES := Lib.hid (show p.getD (vx l s) 0 = p.getD (vx l t) 0 + m (vx l t) (vx l s) → ∀ t', t' + 1 < s + 1 → p.getD (vx l (t' + 1)) 0 = p.getD (vx l t') 0 + m (vx l t') (vx l (t' + 1)) from fun h t' ht' => by
            by_cases e : t' = t
            · subst e; rw [← ht]; exact h
            · exact HL.out t' (by omega))
          have e1 : IntKind.i64.wrap ((s : Int) - 1) = (t : Int) := by rw [i64_small (by omega) (by omega)]; omega
          have x1 : (0 : Int) ≤ (s : Int) := by omega
          have x2 : (s : Int) < (N : Int) := by omega
          have x3 : (0 : Int) ≤ (t : Int) := by omega
          have x4 : (t : Int) < (N : Int) := by omega
          have x5 : (0 : Int) ≤ (vx l t : Int) := by omega
          have x6 : (vx l t : Int) < (n : Int) := by omega
          have x7 : (0 : Int) ≤ (vx l s : Int) := by omega
          have x8 : (vx l s : Int) < (n : Int) := by omega
          clear hrow hc2 v1 v2 ht
          generalize m (vx l t) (vx l s) = D at k1 hm HNO HYES
          generalize p.getD (vx l t) 0 = P at q3 f1 HNO HYES
          generalize p.getD (vx l s) 0 = Q at q4 HNO HYES
          generalize vx l t = a at q1 u1 e2 x5 x6 q3
          generalize vx l s = b at q2 u2 k1 x7 x8 q4
          obtain ⟨R, hR⟩ : ∃ R, P + D = R := ⟨_, rfl⟩
          have e3 : IntKind.i64.wrap (P + D) = R := by rw [i64_small (by omega) (by omega)]; exact hR
          rw [hR] at HNO HYES
          clear hR hm f1
          by_cases hx : Q = R
          · have HY := Lib.hid (HYES.out hx)
            have g2 : (Q != R) = false := by rw [hx]; exact bne_self_eq_false _
            clear HNO HYES hx
            go_wp2_with fail
            go_quiet (fail)
            go_wp2_with fail
            go_roundw
            case rel => exact ⟨s + 1, by omega, by omega, by go_num, HY.out, bdrewN hbel _⟩
            case measure => simp [intOf]; omega
          · obtain rfl := HNO.out hx
            have g2 : (Q != R) = true := bne_iff_ne.2 hx
            clear HNO HYES hx
            go_wp2_with fail
            go_quiet (fail)
            go_wp2_with fail
            go_ret2
            exact ⟨rfl, bdrewN hbel _⟩

set_option maxHeartbeats 3200000 in
set_option maxRecDepth 100000 in
theorem sIsProved_c (ad : Option Addr) (cap : Nat) (M : List (List Int)) (adp : Option Addr) (capp : Nat) (p : List Int) (adw : Option Addr) (capw : Nat) (l : List Int) (w : World) (hr : RdM w ad M) (hl : smM M) (hp : RdI w adp p) (hlp : p.length ≤ 1048576) (hw : RdI w adw l) (hlw : l.length ≤ 1048576) :
    Calls Try.prog 29 #[.slice ad M.length cap, .slice adp p.length capp, .slice adw l.length capw] w fun e w' => e = .returned (.tuple #[.bool (proB M p l), .bool (proX M p l)]) ∧ Below w.heap.size w w' := by
  have C0 := Lib.hid (wyAsked_c ad cap M adp capp p w hr hl hp hlp)
  unfold proB proX
  cases hh : hasB M p
  · cases hask : askB M p
    · rw [hask] at C0
      clear hh hask hr hp hl hlp hw hlw
      go_enter Try.func29, Try.ntmps29
      go_wp2_with fail
      refine C0.out.mono ?_
      rintro e w1 ⟨rfl, rfl⟩
      go_wp2_with fail
      go_ret2
      exact ⟨rfl, Below.refl _ _⟩
    · rw [hask] at C0
      obtain ⟨hs, hpn, hpf⟩ := ask_facts hask
      obtain ⟨hn, _, hnum⟩ := sq_facts hs
      have hM := sq_toM hs
      have hhas : hasB M p = ptB M.length (entM M) p := by unfold hasB; rw [hask]; rfl
      rw [← hM] at hr
      have C1 := Lib.hid (wyPotentials_c M.length ad cap (entM M) adp capp p w hr hp hn hpn hpf hnum)
      rw [← hhas, hh] at C1
      rw [← hpn] at C1 C0 ⊢
      clear hh hask hs hpf hM hnum hl hlp hhas hr hw hp hn hlw hpn
      go_enter Try.func29, Try.ntmps29
      go_wp2_with fail
      refine C0.out.mono ?_
      rintro e w1 ⟨rfl, rfl⟩
      go_wp2_with fail
      refine C1.out.mono ?_
      rintro e w1 ⟨rfl, hb1⟩
      go_wp2_with fail
      go_ret2
      exact ⟨rfl, hb1⟩
  · have hask : askB M p = true := by unfold hasB at hh; simp only [Bool.and_eq_true] at hh; exact hh.1
    obtain ⟨hs, hpn, hpf⟩ := ask_facts hask
    obtain ⟨hn, _, hnum'⟩ := sq_facts hs
    have hnum : ∀ a b, a < M.length → b < M.length → numB (entM M a b) = true := hnum'
    have hM := sq_toM hs
    rw [← hM] at hr
    rw [hask] at C0
    have hhas : hasB M p = ptB M.length (entM M) p := by unfold hasB; rw [hask]; rfl
    have C1 := Lib.hid (wyPotentials_c M.length ad cap (entM M) adp capp p w hr hp hn hpn hpf hnum)
    rw [← hhas, hh] at C1
    have C2 := Lib.hid (fun u (hb : Below w.heap.size w u) => wyWay_c M.length ad cap (entM M) adw capw l u (hr.below hb) (hw.below hb) hn hlw)
    clear hhas
    have HF := Lib.hid (fun i (hi : i < M.length) => fin_bd hpf (i := i) (by rw [hpn]; exact hi))
    have HV0 := Lib.hid (fun (h : wayB M.length (entM M) l = true) => by
      unfold wayB at h
      simp only [Bool.and_eq_true] at h
      exact (show (1 ≤ l.length ∧ l.length ≤ 20) ∧ ∀ t, t < l.length → l.getD t 0 = (vx l t : Int) ∧ vx l t < M.length from ⟨by have := inB_t.1 h.1; omega, fun t ht => vt_at h.2.1 ht⟩))
    have HST := Lib.hid (prB_t (m := entM M) (p := p) (l := l) (t := l.length - 1))
    rw [Bool.true_and]
    rw [hpn] at C0 ⊢
    have HPN := Lib.hid hpn
    clear hh hask hs hpf hM hnum' hpn hl hlp hlw
    have HR := Lib.hid hr; have HP := Lib.hid hp; have HW := Lib.hid hw; have HNUM := Lib.hid hnum
    clear hr hp hw hnum
    generalize entM M = m at HR HNUM HV0 HST C2 C1 ⊢
    generalize M.length = n at C1 C2 C0 HR HNUM hn HF HPN HV0 HST ⊢
    obtain ⟨N, hN⟩ : ∃ N, l.length = N := ⟨_, rfl⟩
    have HN := Lib.hid hN
    rw [hN] at HV0 HST C2 ⊢
    clear hN
    generalize wayB n m l = W at C2 HV0 ⊢
    generalize prB m p l (N - 1) = S at HST ⊢
    cases W
    · clear HST HV0
      go_enter Try.func29, Try.ntmps29
      go_wp2_with fail
      refine C0.out.mono ?_
      rintro e w1 ⟨rfl, rfl⟩
      go_wp2_with fail
      refine C1.out.mono ?_
      rintro e w1 ⟨rfl, hb1⟩
      go_wp2_with fail
      refine (C2.out _ hb1).mono ?_
      rintro e w2 ⟨rfl, hb2⟩
      go_wp2_with fail
      go_ret2
      exact ⟨rfl, ball hb1 hb2⟩
    · obtain ⟨hN20, hv⟩ := HV0.out rfl
      have HV := Lib.hid hv
      clear HV0 hv
      rw [Bool.true_and]
      go_enter Try.func29, Try.ntmps29
      go_wp2_with fail
      refine C0.out.mono ?_
      rintro e w1 ⟨rfl, rfl⟩
      go_wp2_with fail
      refine C1.out.mono ?_
      rintro e w1 ⟨rfl, hb1⟩
      go_wp2_with fail
      refine (C2.out _ hb1).mono ?_
      rintro e w2 ⟨rfl, hb2⟩
      have HB0 := Lib.hid (ball hb1 hb2)
      clear hb1 hb2 C1 C2
      go_wp2_with fail
      go_loopw [8] (fun i wr => ∃ s : Nat, 1 ≤ s ∧ s ≤ N ∧ i = .int .i64 s ∧ (∀ t, t + 1 < s → p.getD (vx l (t + 1)) 0 = p.getD (vx l t) 0 + m (vx l t) (vx l (t + 1))) ∧ Below w.heap.size w wr) (fun i _ => N - (intOf i).toNat)
      case atStart => exact ⟨1, Nat.le_refl _, by omega, rfl, fun t ht => by omega, HB0.out⟩
      case round =>
        obtain ⟨wE, rfl⟩ : ∃ x : World, x = wr := ⟨_, rfl⟩
        obtain ⟨s, hs1, hs, rfl, hlow, hbel⟩ := hrel
        have HL := Lib.hid hlow; clear hlow
        by_cases hls : s < N
        case neg =>
          obtain rfl : s = N := by omega
          obtain rfl : S = true := HST.out.2 (fun t ht => HL.out t (by omega))
          go_wp2_with fail
          go_ret2
          exact ⟨rfl, hbel⟩
        case pos =>
          obtain ⟨t, ht⟩ : ∃ t, s = t + 1 := ⟨s - 1, by omega⟩
          obtain ⟨v1, u1⟩ := HV.out t (by omega)
          obtain ⟨v2, u2⟩ := HV.out s hls
          obtain ⟨bw, ow, rfl, hbw, q1⟩ := HW.out t (by have := HN.out; omega)
          have q2 := HW.out.at (j := s) (by have := HN.out; omega)
          rw [v1] at q1
          rw [v2] at q2
          have q1 := bcell hbel hbw q1
          have q2 := bcell hbel hbw q2
          obtain ⟨bp, op, rfl, hbp, q3⟩ := HP.out (vx l t) (by rw [HPN.out]; exact u1)
          have q4 := HP.out.at (j := vx l s) (by rw [HPN.out]; exact u2)
          have q3 := bcell hbel hbp q3
          have q4 := bcell hbel hbp q4
          have f1 := HF.out _ u1
          have hm := numB_t (HNUM.out _ _ u1 u2)
          obtain ⟨bM, oM, rfl, hbM, hrow⟩ := HR.out.rowF (by omega)
          obtain ⟨b2, o2, c2, e2, hl2, hc2⟩ := hrow _ u1
          have e2 := bcell hbel hbM e2
          have k1 := bcell hbel hl2 (hc2 _ u2)
          have HNO := Lib.hid (show ¬ p.getD (vx l s) 0 = p.getD (vx l t) 0 + m (vx l t) (vx l s) → S = false from fun h => by
            cases hS : S
            · rfl
            · exact absurd (by have := HST.out.1 hS t (by omega); rw [← ht] at this; exact this) h)
          have HYES := Lib.hid (show p.getD (vx l s) 0 = p.getD (vx l t) 0 + m (vx l t) (vx l s) → ∀ t', t' + 1 < s + 1 → p.getD (vx l (t' + 1)) 0 = p.getD (vx l t') 0 + m (vx l t') (vx l (t' + 1)) from fun h t' ht' => by
            by_cases e : t' = t
            · subst e; rw [← ht]; exact h
            · exact HL.out t' (by omega))
          have e1 : IntKind.i64.wrap ((s : Int) - 1) = (t : Int) := by rw [i64_small (by omega) (by omega)]; omega
          have x1 : (0 : Int) ≤ (s : Int) := by omega
          have x2 : (s : Int) < (N : Int) := by omega
          have x3 : (0 : Int) ≤ (t : Int) := by omega
          have x4 : (t : Int) < (N : Int) := by omega
          have x5 : (0 : Int) ≤ (vx l t : Int) := by omega
          have x6 : (vx l t : Int) < (n : Int) := by omega
          have x7 : (0 : Int) ≤ (vx l s : Int) := by omega
          have x8 : (vx l s : Int) < (n : Int) := by omega
          clear hrow hc2 v1 v2 ht
          generalize m (vx l t) (vx l s) = D at k1 hm HNO HYES
          generalize p.getD (vx l t) 0 = P at q3 f1 HNO HYES
          generalize p.getD (vx l s) 0 = Q at q4 HNO HYES
          generalize vx l t = a at q1 u1 e2 x5 x6 q3
          generalize vx l s = b at q2 u2 k1 x7 x8 q4
          obtain ⟨R, hR⟩ : ∃ R, P + D = R := ⟨_, rfl⟩
          have e3 : IntKind.i64.wrap (P + D) = R := by rw [i64_small (by omega) (by omega)]; exact hR
          rw [hR] at HNO HYES
          clear hR hm f1
          by_cases hx : Q = R
          · have HY := Lib.hid (HYES.out hx)
            have g2 : (Q != R) = false := by rw [hx]; exact bne_self_eq_false _
            clear HNO HYES hx
            go_wp2_with fail
            go_quiet (fail)
            go_wp2_with fail
            go_roundw
            case rel => exact ⟨s + 1, by omega, by omega, by go_num, HY.out, bdrewN hbel _⟩
            case measure => simp [intOf]; omega
          · obtain rfl := HNO.out hx
            have g2 : (Q != R) = true := bne_iff_ne.2 hx
            clear HNO HYES hx
            go_wp2_with fail
            go_quiet (fail)
            go_wp2_with fail
            go_ret2
            exact ⟨rfl, bdrewN hbel _⟩

end Go.Proofs.Ytbffcbjbeeagmaa
