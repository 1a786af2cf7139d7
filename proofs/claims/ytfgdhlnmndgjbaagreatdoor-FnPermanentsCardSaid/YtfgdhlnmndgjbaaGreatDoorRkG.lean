/-
  The permanent and in how many ways it is reached: the reference's. By an AI agent.
-/
import Derived.Test.YtfgdhlnmndgjbaaGreatDoorRkD
import Derived.Test.YtfgdhlnmndgjbaaGreatDoorAsK
namespace Go.Proofs.YtfgdhlnmndgjbaaGreatDoor
open Go.RowKit

theorem prmT_len {n : Nat} (hn : n ≤ 6) (f : Nat) (l : List Int) : ∀ j, (prmT n f l j).length ≤ j * 6 ^ f
  | 0 => by simp [prmT]
  | j + 1 => by
    rw [prmT_succ, List.length_append, Nat.add_mul, Nat.one_mul]
    refine Nat.add_le_add (prmT_len hn f l j) ?_
    split
    · simp
    · exact prm_len hn f _
theorem pmT_cnt (L : List Int) : (pmT L).2 ≤ L.length := by
  have := bwF_fold_cnt L (1000000000, 0)
  unfold pmT
  simpa using this
theorem pmT_le (L : List Int) : (pmT L).1 ≤ 1000000000 := bwF_fold_le L _
theorem pmT_one {x : Int} (h : x ≤ 1000000000) : pmT [x] = (x, 1) := by
  show bwF (1000000000, 0) x = (x, 1)
  unfold bwF
  by_cases e : x < 1000000000
  · rw [if_pos e]
  · obtain rfl : x = 1000000000 := by omega
    rw [if_neg (by simp), if_pos rfl]
/-- what one more column gives. -/
theorem cost_le {n : Nat} {m : Nat → Nat → Int} (hn : 1 ≤ n ∧ n ≤ 6) (hnum : ∀ a b, a < n → b < n → numB (m a b) = true) {f : Nat} {l : List Int} (hl : Ndp n l) (hf : n ≤ l.length + f) : ∀ x ∈ (prm n f l).map (costP m), x ≤ 1000000000 := by
  intro x hx
  rw [List.mem_map] at hx
  obtain ⟨c, hc, rfl⟩ := hx
  obtain ⟨h1, h2, _⟩ := (prm_mem f hl hf).1 hc
  rcases (prm_cost (m := m) hnum hn h1 h2).2 with ⟨_, h3⟩ | ⟨_, h3, _⟩ <;> omega
theorem cost_snoc {m : Nat → Nat → Int} {l : List Int} (k : Nat) : costP m (l ++ [(k : Int)]) = prodZ (costP m l) (m l.length k) := by
  unfold costP
  rw [List.length_append, List.length_singleton]
  show prodZ (csF m (l ++ [(k : Int)]) l.length) (m l.length (vx (l ++ [(k : Int)]) l.length)) = _
  rw [vxA_eq, csF_snoc (k : Int) (Nat.le_refl _)]

set_option maxHeartbeats 6400000 in
set_option maxRecDepth 100000 in
theorem mxBest_c (n : Nat) (ad : Option Addr) (cap : Nat) (m : Nat → Nat → Int) (w0 : World) (hm : RdM w0 ad (toM n m)) (hn : 1 ≤ n ∧ n ≤ 6) (hnum : ∀ a b, a < n → b < n → numB (m a b) = true) :
    ∀ (f : Nat) (l : List Int) (adw : Option Addr) (capw : Nat) (w : World) (B : Nat), f ≤ 6 → Ndp n l → n ≤ l.length + f → CellO w B (.slice adw l.length capw) l → Below w0.heap.size w0 w →
    Calls Tryz.prog 30 #[.slice ad n cap, .int .i64 (l.length : Int), .slice adw l.length capw, .int .i64 (costP m l)] w fun e w' => e = .returned (.tuple #[.int .i64 (pmT ((prm n f l).map (costP m))).1, .int .i64 ((pmT ((prm n f l).map (costP m))).2 : Int)]) ∧ Below w.heap.size w w' := by
  intro f
  induction f using Nat.strongRecOn with
  | _ f ih =>
  intro l adw capw w B hf6 hp hf hcl hbw
  have HIH := Lib.hid ih; clear ih
  have HCL := Lib.hid hcl; have HRL := Lib.hid hcl.rd
  have hlen := hp.len
  have hcb := cs_bd hnum hp.vt (by omega) (by omega) l.length (Nat.le_refl _)
  obtain ⟨bM, oM, rfl, hbM, hrow⟩ := hm.rowF (by omega)
  have HPX := Lib.hid (fun k (hk : k < n) (h2 : (k : Int) ∉ l) => hp.ext hk h2)
  have hX : costP m l ≤ 1000000000 ∧ -6000000 ≤ costP m l := by
    unfold costP
    rcases hcb with ⟨_, h⟩ | ⟨_, _, h1, h2⟩ <;> omega
  have HSX := Lib.hid (fun k => cost_snoc (m := m) (l := l) k)
  by_cases hPN : l.length = n
  · rw [prm_full hPN, List.map_cons, List.map_nil, pmT_one hX.1]
    generalize costP m l = X
    rw [hPN]
    have g1 : ((n : Int) == (n : Int)) = true := beq_self_eq_true _
    clear hrow hcl hp hm hcb
    go_enter Tryz.func30, Tryz.ntmps30
    go_wp2_with fail
    exact bodyPost_ret (v := .tuple #[.int .i64 X, .int .i64 1]) (by simp [results, Tryz.results30, go_sem]) rfl ⟨rfl, Below.refl _ _⟩
  · obtain ⟨b2, o2, c2, e2, hl2, hc2⟩ := hrow l.length (by omega)
    rw [prm_step hPN hf hlen]
    have e2' := bcell hbw hbM e2
    have HR2 := Lib.hid hc2
    obtain ⟨P, hPl⟩ : ∃ P, l.length = P := ⟨_, rfl⟩
    have HPL := Lib.hid hPl
    have HBW := Lib.hid hbw
    have HST := Lib.hid (fun j => prmT_succ n (f - 1) l j)
    have HTL := Lib.hid (fun j (hj : j ≤ n) => show (prmT n (f - 1) l j).length ≤ 50000 from by
      have h1 := prmT_len hn.2 (f - 1) l j
      have h3 : 6 ^ (f - 1) ≤ 7776 := Nat.pow_le_pow_right (n := 6) (by omega) (show f - 1 ≤ 5 by omega)
      have h5 : j * 6 ^ (f - 1) ≤ 6 * 7776 := Nat.mul_le_mul (by omega) h3
      omega)
    have HCO := Lib.hid (fun l' (h1 : Ndp n l') (h2 : n ≤ l'.length + (f - 1)) => cost_le (m := m) hn hnum h1 h2)
    have HTC := Lib.hid (fun j (hj : j ≤ n) => show (∀ x ∈ (prmT n (f - 1) l j).map (costP m), x ≤ 1000000000) from by
      induction j with
      | zero => simp [prmT]
      | succ j ih =>
        intro x hx
        rw [HST.out j, List.map_append, List.mem_append] at hx
        rcases hx with hx | hx
        · exact ih (by omega) x hx
        · by_cases hc : l.contains (j : Int) = true
          · rw [if_pos hc] at hx; simp at hx
          · rw [if_neg hc] at hx
            exact HCO.out _ (HPX.out j (by omega) (by simpa using hc)) (by simp; omega) x hx)
    generalize hXX : costP m l = X at hX HSX ⊢
    rw [hPl] at hPN hlen hf e2 e2' HR2 HSX ⊢
    have y1 : (0 : Int) ≤ (P : Int) := by omega
    have y2 : (P : Int) < (n : Int) := by omega
    have g1 : ((P : Int) == (n : Int)) = false := beq_eq_false_iff_ne.2 (by omega)
    have eP : IntKind.i64.wrap ((P : Int) + 1) = ((P + 1 : Nat) : Int) := by rw [i64_small (by omega) (by omega)]; omega
    have HT0 := Lib.hid (show pmT ((prmT n (f - 1) l 0).map (costP m)) = (1000000000, 0) from rfl)
    obtain ⟨R, hR⟩ : ∃ R, pmT ((prmT n (f - 1) l n).map (costP m)) = R := ⟨_, rfl⟩
    rw [hR]
    obtain ⟨Rc, Rn⟩ := R
    have HR := Lib.hid hR
    clear hrow hcl hp hm hc2 hPl hbw hcb hXX hR
    go_enter Tryz.func30, Tryz.ntmps30
    go_wp2_with fail
    go_loopw [10, 11, 26] (fun v x i wr => ∃ k : Nat, k ≤ n ∧ i = .int .i64 k ∧ v = .int .i64 (pmT ((prmT n (f - 1) l k).map (costP m))).1 ∧ x = .int .i64 ((pmT ((prmT n (f - 1) l k).map (costP m))).2 : Int) ∧ Below w.heap.size w wr) (fun _ _ i _ => n - (intOf i).toNat)
    case atStart => exact ⟨0, Nat.zero_le _, rfl, rfl, rfl, Below.refl _ _⟩
    case round =>
      obtain ⟨wE, rfl⟩ : ∃ x : World, x = wr := ⟨_, rfl⟩
      obtain ⟨k, hk, rfl, rfl, rfl, hbel⟩ := hrel
      by_cases hlt : k < n
      case neg =>
        obtain rfl : k = n := by omega
        rw [HR.out]
        go_wp2_with fail
        exact bodyPost_ret (v := .tuple #[.int .i64 Rc, .int .i64 (Rn : Int)]) (by simp [results, Tryz.results30, go_sem]) rfl ⟨rfl, hbel⟩
      case pos =>
        have hrE := HRL.out.below hbel
        have CON := Lib.hid (l1HasW adw capw l (k : Int) wE (by rw [HPL.out]; omega) hrE)
        rw [HPL.out] at CON
        have HCE := Lib.hid (HCL.out.below hbel)
        have hbwE := HBW.out.trans (hbel.mono HBW.out.size)
        have e3 := bcell hbwE hbM e2
        have k3 := bcell hbwE hl2 (HR2.out k hlt)
        have HBWE := Lib.hid hbwE
        have x1 : (0 : Int) ≤ (k : Int) := by omega
        have x2 : (k : Int) < (n : Int) := by omega
        have hst := HST.out k
        have hcon : l.contains (k : Int) = decide ((k : Int) ∈ l) := by simp
        rw [hcon] at hst
        have HPX2 := Lib.hid (HPX.out k hlt)
        have hnumk := HSX.out k
        have hD0 := numB_t (hnum P k (by omega) hlt)
        have hcnt1 := pmT_cnt ((prmT n (f - 1) l (k + 1)).map (costP m))
        rw [List.length_map] at hcnt1
        have hcnt2 := HTL.out (k + 1) hlt
        have HCNT := Lib.hid (show (pmT ((prmT n (f - 1) l (k + 1)).map (costP m))).2 ≤ 50000 by omega)
        have HTCK := Lib.hid (HTC.out k hk)
        have hsz : w.heap.size ≤ wE.heap.size := hbel.size
        clear hrE hbwE e2' e2 HST hcon HT0 hcnt1 hcnt2
        obtain ⟨D, hD⟩ : ∃ D, m P k = D := ⟨_, rfl⟩
        rw [hD] at k3 hD0 hnumk
        obtain ⟨T, hT⟩ : ∃ T, pmT ((prmT n (f - 1) l k).map (costP m)) = T := ⟨_, rfl⟩
        rw [hT]
        obtain ⟨Tc, Tn⟩ := T
        simp only
        have HTT := Lib.hid hT
        by_cases hin : (k : Int) ∈ l
        · rw [decide_eq_true hin] at CON hst
          rw [if_pos rfl, List.append_nil] at hst
          have HT := Lib.hid (show pmT ((prmT n (f - 1) l (k + 1)).map (costP m)) = (Tc, Tn) by rw [hst]; exact hT)
          clear hst hD hin hD0 hnumk hT
          go_wp2_with fail
          refine CON.out.mono ?_
          rintro e w3 ⟨rfl, rfl⟩
          go_wp2_with fail
          go_roundw
          case rel => exact ⟨k + 1, by omega, by go_num, by rw [HT.out], by rw [HT.out], hbel⟩
          case measure => simp [intOf]; omega
        · rw [decide_eq_false hin] at CON hst
          rw [if_neg (by simp)] at hst
          have hpx := HPX2.out hin
          obtain ⟨N1, hN1⟩ : ∃ N1, P + 1 = N1 := ⟨_, rfl⟩
          have HNL := Lib.hid (show (l ++ [(k : Int)]).length = N1 by rw [List.length_append, HPL.out]; exact hN1)
          have HNN := Lib.hid hN1
          have IHC := Lib.hid (show ∀ (u : World) (g5 cap5 : Nat), Below wE.heap.size wE u → RowI u wE.heap.size (.slice (some ⟨g5, 0, none⟩) N1 cap5) (l ++ [(k : Int)]) → Calls Tryz.prog 30 #[.slice (some ⟨bM, oM, none⟩) n cap, .int .i64 (N1 : Int), .slice (some ⟨g5, 0, none⟩) N1 cap5, .int .i64 (costP m (l ++ [(k : Int)]))] u _ from fun u g5 cap5 hbu h1 => by
            have h2 := HIH.out (f - 1) (by omega) (l ++ [(k : Int)]) (some ⟨g5, 0, none⟩) cap5 u 0 (by omega) hpx (by rw [HNL.out]; omega) (by rw [HNL.out]; exact CellO.of_row (h1.low (by omega))) (HBWE.out.trans (hbu.mono HBWE.out.size))
            rw [HNL.out] at h2
            exact h2)
          obtain ⟨S, hS⟩ : ∃ S, pmT ((prm n (f - 1) (l ++ [(k : Int)])).map (costP m)) = S := ⟨_, rfl⟩
          have hcomb : pmT ((prmT n (f - 1) l (k + 1)).map (costP m)) = bwW (Tc, Tn) S := by
            rw [hst, List.map_append, pmT_app (HCO.out _ hpx (by rw [HNL.out]; omega)), hT, hS]
          rw [hS] at IHC
          obtain ⟨Sc, Sn⟩ := S
          simp only at IHC
          rw [hnumk] at IHC
          have HCB := Lib.hid hcomb
          have hcn := HCNT.out
          rw [hcomb] at hcn
          have CNP := Lib.hid (fun w => nuPlus_c X D w (by omega))
          generalize prodZ X D = XD at CNP IHC
          have OWA := Lib.hid (l1OwnZ_c B adw capw l wE HCE.out (by rw [HPL.out]; omega))
          rw [HPL.out] at OWA
          rw [hN1] at eP
          have HCN := Lib.hid hcn
          clear hD hin hpx hN1 hS hcomb hst hD0 hnumk hT hcn HTT
          go_wp2_with fail
          refine CON.out.mono ?_
          rintro e w3 ⟨rfl, rfl⟩
          go_wp2_with fail
          refine OWA.out.mono ?_
          rintro e w2 ⟨v2, rfl, hrow2, hb2⟩
          have HR5 := Lib.hid (hrow2.below (bal_alloc (o := .cells #[.int .i64 (k : Int)] 3) (Below.refl _ _)))
          have hbz := bal_alloc (o := .cells #[.int .i64 (k : Int)] 3) hb2
          have HK5 := Lib.hid (rdI_one w2 w2.heap.size (k : Int) rfl)
          obtain ⟨a2, cp2, rfl, _⟩ := HR5.out.shape
          rw [HPL.out] at HR5 ⊢
          clear hrow2
          go_wp2_with (at_builtin; first
            | (refine wpList_appN rfl _ _ rfl wE.heap.size w2.heap.size 0 1 _ l [(k : Int)] N1 (by rw [HPL.out]; exact HNN.out) rfl rfl HR5.out HK5.out (by rw [HPL.out]; omega) (by simp) (by have := hbz.size; omega) ?_; intro v5 wm hown hsh hbm hgr; obtain ⟨g5, cap5, rfl, _⟩ := hsh (by have := HNN.out; omega); have hb5 : Below wE.heap.size wE wm := hbz.trans hbm; have CAL := Lib.hid (IHC.out wm g5 cap5 hb5 hown); clear hown hsh hgr))
          refine (CNP.out _).mono ?_
          rintro e w' ⟨rfl, rfl⟩
          go_wp2_with fail
          refine CAL.out.mono ?_
          rintro e w6 ⟨rfl, hb6⟩
          have hb7 := ball hb5 hb6
          have hb8 := ball hbel hb7
          by_cases h1 : Sc < Tc
          · have q1 : decide (Sc < Tc) = true := decide_eq_true h1
            have HE := Lib.hid (show pmT ((prmT n (f - 1) l (k + 1)).map (costP m)) = (Sc, Sn) by rw [HCB.out]; unfold bwW; rw [if_pos h1])
            clear h1
            go_wp2_with fail
            go_roundw
            case rel => exact ⟨k + 1, by omega, by go_num, by rw [HE.out], by rw [HE.out], hb8⟩
            case measure => simp [intOf]; omega
          · have q1 : decide (Sc < Tc) = false := decide_eq_false h1
            by_cases h2 : Sc = Tc
            · have q2 : (Sc == Tc) = true := by rw [h2]; exact beq_self_eq_true _
              have HE := Lib.hid (show pmT ((prmT n (f - 1) l (k + 1)).map (costP m)) = (Tc, Tn + Sn) by rw [HCB.out]; unfold bwW; rw [if_neg h1, if_pos h2])
              have hcn := HCN.out
              rw [show bwW (Tc, Tn) (Sc, Sn) = (Tc, Tn + Sn) by unfold bwW; rw [if_neg h1, if_pos h2]] at hcn
              simp only at hcn
              have ew : IntKind.i64.wrap ((Tn : Int) + (Sn : Int)) = ((Tn + Sn : Nat) : Int) := by rw [i64_small (by omega) (by omega)]; omega
              clear h1 h2 hcn
              go_wp2_with fail
              go_roundw
              case rel => exact ⟨k + 1, by omega, by go_num, by rw [HE.out], by rw [HE.out]; simp, hb8⟩
              case measure => simp [intOf]; omega
            · have q2 : (Sc == Tc) = false := beq_eq_false_iff_ne.2 h2
              have HE := Lib.hid (show pmT ((prmT n (f - 1) l (k + 1)).map (costP m)) = (Tc, Tn) by rw [HCB.out]; unfold bwW; rw [if_neg h1, if_neg h2])
              clear h1 h2
              go_wp2_with fail
              go_roundw
              case rel => exact ⟨k + 1, by omega, by go_num, by rw [HE.out], by rw [HE.out], hb8⟩
              case measure => simp [intOf]; omega
end Go.Proofs.YtfgdhlnmndgjbaaGreatDoor
