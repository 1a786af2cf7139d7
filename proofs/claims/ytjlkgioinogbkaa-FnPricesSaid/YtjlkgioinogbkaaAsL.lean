/-
  The reference's list of possible assignments: the walk. By an AI agent.
-/
import Derived.Test.YtjlkgioinogbkaaAsK
namespace Go.Proofs.Ytjlkgioinogbkaa
open Go.RowKit

def AllR (B : Nat) (L : List (List Int)) (w : World) (e : Ending) (w' : World) : Prop := ∃ ad cap, e = .returned (.slice ad L.length cap) ∧ (∃ vs, MatL w' w.heap.size B (.slice ad L.length cap) L vs) ∧ Below w.heap.size w w'

set_option maxHeartbeats 6400000 in
set_option maxRecDepth 100000 in
theorem asAll_c (n : Nat) (ad : Option Addr) (cap : Nat) (m : Nat → Nat → Int) (w0 : World) (hm : RdM w0 ad (toM n m)) (hn : 1 ≤ n ∧ n ≤ 6) :
    ∀ (f : Nat) (l : List Int) (adw : Option Addr) (capw : Nat) (w : World) (B : Nat), f ≤ 6 → Ndp n l → n ≤ l.length + f → CellO w B (.slice adw l.length capw) l → B ≤ w.heap.size → Below w0.heap.size w0 w →
    Calls Try.prog 50 #[.slice ad n cap, .slice adw l.length capw] w (AllR B (asl n m f l) w) := by
  intro f
  induction f using Nat.strongRecOn with
  | _ f ih =>
  intro l adw capw w B hf6 hp hf hcl hB hbw
  have HIH := Lib.hid ih; clear ih
  have HCL := Lib.hid hcl; have HRL := Lib.hid hcl.rd
  have hlen := hp.len
  obtain ⟨bM, oM, rfl, hbM, hrow⟩ := hm.rowF (by omega)
  have HPX := Lib.hid (fun k (hk : k < n) (h2 : (k : Int) ∉ l) => hp.ext hk h2)
  by_cases hPN : l.length = n
  · rw [asl_full hPN]
    have HO := Lib.hid (MatL.one w w.heap.size B _ l hcl (Nat.le_refl _))
    rw [hPN] at HO ⊢
    have g1 : ((n : Int) == (n : Int)) = true := beq_self_eq_true _
    clear hrow hcl hp hm
    go_enter Try.func50, Try.ntmps50
    go_wp2_with fail
    refine bodyPost_ret (v := .slice (some ⟨w.heap.size, 0, none⟩) 1 1) (by simp [results, Try.results50, go_sem]) rfl ?_
    exact ⟨_, _, rfl, ⟨_, HO.out⟩, (Below.refl _ _).alloc (Nat.le_refl _) _⟩
  · obtain ⟨b2, o2, c2, e2, hl2, hc2⟩ := hrow l.length (by omega)
    rw [asl_step hPN hf hlen]
    have e2' := bcell hbw hbM e2
    have HR2 := Lib.hid hc2
    obtain ⟨P, hPl⟩ : ∃ P, l.length = P := ⟨_, rfl⟩
    have HPL := Lib.hid hPl
    have HBW := Lib.hid hbw
    have HST := Lib.hid (fun j => aslT_succ n m (f - 1) l j)
    have HTL := Lib.hid (fun j (hj : j ≤ n) => show (aslT n m (f - 1) l j).length ≤ 100000 from by
      have h1 := aslT_len (m := m) hn.2 (f - 1) l j
      have h2 := pow6 (show f - 1 ≤ 5 + 1 by omega)
      have h4 : f - 1 ≤ 5 := by omega
      have h3 : 6 ^ (f - 1) ≤ 7776 := Nat.pow_le_pow_right (by omega) h4
      have h5 : j * 6 ^ (f - 1) ≤ 6 * 7776 := Nat.mul_le_mul (by omega) h3
      omega)
    have HAL := Lib.hid (fun l' => show (asl n m (f - 1) l').length ≤ 100000 from by
      have h1 := asl_len (m := m) hn.2 (f - 1) l'
      have h2 := pow6 (show f - 1 ≤ 6 by omega)
      omega)
    rw [hPl] at hPN hlen hf e2 e2' HR2 HST ⊢
    have y1 : (0 : Int) ≤ (P : Int) := by omega
    have y2 : (P : Int) < (n : Int) := by omega
    have g1 : ((P : Int) == (n : Int)) = false := beq_eq_false_iff_ne.2 (by omega)
    have HT0 := Lib.hid (show aslT n m (f - 1) l 0 = [] from rfl)
    clear hrow hcl hp hm hc2 hPl hbw
    go_enter Try.func50, Try.ntmps50
    go_wp2_with fail
    go_loopw [5, 21] (fun v i wr => ∃ (k : Nat) (vs : List Value), k ≤ n ∧ i = .int .i64 k ∧ MatL wr w.heap.size B v (aslT n m (f - 1) l k) vs ∧ Below w.heap.size w wr) (fun _ i _ => n - (intOf i).toNat)
    case atStart => exact ⟨0, [], Nat.zero_le _, rfl, MatL.nil _ _ _, Below.refl _ _⟩
    case round =>
      obtain ⟨wE, rfl⟩ : ∃ x : World, x = wr := ⟨_, rfl⟩
      obtain ⟨k, vs, hk, rfl, hml, hbel⟩ := hrel
      obtain ⟨ad1, cap1, rfl, _⟩ := hml.shape
      by_cases hlt : k < n
      case neg =>
        obtain rfl : k = n := by omega
        have HML := Lib.hid hml; clear hml
        go_wp2_with fail
        go_ret
        exact ⟨_, _, rfl, ⟨_, HML.out⟩, hbel⟩
      case pos =>
        have hrE := HRL.out.below hbel
        have CON := Lib.hid (l1HasW adw capw l (k : Int) wE (by rw [HPL.out]; omega) hrE)
        rw [HPL.out] at CON
        have HCE := Lib.hid (HCL.out.below hbel)
        have hbwE := HBW.out.trans (hbel.mono HBW.out.size)
        have e3 := bcell hbwE hbM e2
        have k3 := bcell hbwE hl2 (HR2.out k hlt)
        have HBWE := Lib.hid hbwE
        have HML := Lib.hid hml; clear hml
        have x1 : (0 : Int) ≤ (k : Int) := by omega
        have x2 : (k : Int) < (n : Int) := by omega
        have hst := HST.out k
        have htl := HTL.out k hk
        have hal := HAL.out (l ++ [(k : Int)])
        have hcon : l.contains (k : Int) = decide ((k : Int) ∈ l) := by simp
        rw [hcon] at hst
        have HPX2 := Lib.hid (HPX.out k hlt)
        generalize aslT n m (f - 1) l k = T at hst htl HML
        have HT1 := Lib.hid (show (∃ T1, aslT n m (f - 1) l (k + 1) = T1) from ⟨_, rfl⟩)
        obtain ⟨T1, hT1⟩ := HT1.out
        clear HT1
        rw [hT1] at hst
        have HT1 := Lib.hid hT1; clear hT1
        have hsz : w.heap.size ≤ wE.heap.size := hbel.size
        clear hrE hbwE e2' e2 HTL HAL HST hcon HT0
        obtain ⟨D, hD⟩ : ∃ D, m P k = D := ⟨_, rfl⟩
        rw [hD] at k3 hst
        by_cases hC : D = 1000000000
        · rw [hC] at k3 hst
          have HT := Lib.hid (show T1 = T by rw [hst]; simp)
          clear hst hD hC
          go_wp2_with fail
          go_roundw
          case rel => exact ⟨k + 1, vs, by omega, by go_num, by rw [HT1.out, HT.out]; exact HML.out, hbel⟩
          case measure => simp [intOf]; omega
        · have gC : (D == 1000000000) = false := beq_eq_false_iff_ne.2 hC
          rw [decide_eq_false hC] at hst
          by_cases hin : (k : Int) ∈ l
          · rw [decide_eq_true hin] at CON hst
            have HT := Lib.hid (show T1 = T by rw [hst]; simp)
            clear hst hD hin
            go_wp2_with fail
            refine CON.out.mono ?_
            rintro e w3 ⟨rfl, rfl⟩
            go_wp2_with fail
            go_roundw
            case rel => exact ⟨k + 1, vs, by omega, by go_num, by rw [HT1.out, HT.out]; exact HML.out, hbel⟩
            case measure => simp [intOf]; omega
          · rw [decide_eq_false hin] at CON hst
            simp only [Bool.not_false, Bool.and_self, if_true] at hst
            have hpx := HPX2.out hin
            obtain ⟨N1, hN1⟩ : ∃ N1, P + 1 = N1 := ⟨_, rfl⟩
            have HNL := Lib.hid (show (l ++ [(k : Int)]).length = N1 by rw [List.length_append, HPL.out]; exact hN1)
            have IHC := Lib.hid (show ∀ (u : World) (g5 cap5 : Nat), Below wE.heap.size wE u → RowI u wE.heap.size (.slice (some ⟨g5, 0, none⟩) N1 cap5) (l ++ [(k : Int)]) → Calls Try.prog 50 #[.slice (some ⟨bM, oM, none⟩) n cap, .slice (some ⟨g5, 0, none⟩) N1 cap5] u (AllR B (asl n m (f - 1) (l ++ [(k : Int)])) u) from fun u g5 cap5 hbu h1 => by
              have h2 := HIH.out (f - 1) (by omega) (l ++ [(k : Int)]) (some ⟨g5, 0, none⟩) cap5 u B (by omega) hpx (by rw [HNL.out]; omega) (by rw [HNL.out]; exact CellO.of_row (h1.low (by omega))) (Nat.le_trans hB (Nat.le_trans hsz hbu.size)) (HBWE.out.trans (hbu.mono HBWE.out.size))
              rw [HNL.out] at h2
              exact h2)
            generalize asl n m (f - 1) (l ++ [(k : Int)]) = W2 at IHC hst hal
            have HT := Lib.hid hst; clear hst
            have OWA := Lib.hid (l1OwnZ_c B adw capw l wE HCE.out (by rw [HPL.out]; omega))
            rw [HPL.out] at OWA
            have HNI := Lib.hid hN1
            obtain ⟨N3, hN3⟩ : ∃ N3, T.length + W2.length = N3 := ⟨_, rfl⟩
            have HN3 := Lib.hid hN3
            clear hD hin hpx hN1 hN3
            go_wp2_with fail
            refine CON.out.mono ?_
            rintro e w3 ⟨rfl, rfl⟩
            go_wp2_with fail
            refine OWA.out.mono ?_
            rintro e w2 ⟨v2, rfl, hrow2, hb2⟩
            have HR5 := Lib.hid (hrow2.below (bal_alloc (o := .cells #[.int .i64 (k : Int)] 3) (Below.refl _ _)))
            have hbz := bal_alloc (o := .cells #[.int .i64 (k : Int)] 3) hb2
            have HK5 := Lib.hid (rdI_one w2 w2.heap.size (k : Int) rfl)
            obtain ⟨a2, cp2, rfl, _⟩ := HR5.out.shape
            rw [HPL.out] at HR5 ⊢
            clear hrow2
            go_wp2_with (at_builtin; first
              | (refine wpList_appN rfl _ _ rfl wE.heap.size w2.heap.size 0 1 _ l [(k : Int)] N1 (by rw [HPL.out]; exact HNI.out) rfl rfl HR5.out HK5.out (by rw [HPL.out]; omega) (by simp) (by have := hbz.size; omega) ?_; intro v5 wm hown hsh hbm hgr; obtain ⟨g5, cap5, rfl, _⟩ := hsh (by have := HNI.out; omega); have hb5 : Below wE.heap.size wE wm := hbz.trans hbm; have CAL := Lib.hid (IHC.out wm g5 cap5 hb5 hown); clear hown hsh hgr))
            refine CAL.out.mono ?_
            rintro e w6 ⟨ad6, cap6, rfl, ⟨us, hm6⟩, hb6⟩
            have hb7 := ball hb5 hb6
            have HM7 := Lib.hid (HML.out.below hb7)
            have HU7 := Lib.hid hm6
            have hb8 := ball hbel hb7
            have hs8 := hb8.size
            clear hm6
            go_wp2_with (at_builtin; refine wpList_appL rfl _ _ rfl w.heap.size wm.heap.size B _ _ T W2 vs us N3 HN3.out rfl rfl HM7.out HU7.out htl hal hs8 ?_; intro ad9 cap9 w9 hml9 hbm9)
            have HM9 := Lib.hid hml9
            have hb9 := hb8.trans hbm9
            clear hml9
            go_roundw
            case rel => exact ⟨k + 1, vs ++ us, by omega, by go_num, by rw [HT1.out, HT.out]; exact HM9.out, hb9⟩
            case measure => simp [intOf]; omega
end Go.Proofs.Ytjlkgioinogbkaa
