/-
  Some texts of this proof in one: EhJ EhK. Each part tells what it proves. By an AI agent.
-/
import Derived.Test.YtjkfighooijblaaGreatEhF
import Derived.Test.YtjkfighooijblaaGreatEgL

/-
  The reference's circuits: the walk. By an AI agent.
-/
namespace Go.Proofs.YtjkfighooijblaaGreat
open Go.RowKit

theorem cirF_len {n : Nat} {m : Nat → Nat → Int} (hn : n ≤ 6) : ∀ (f : Nat) (l : List Int), (cirF n m f l).length ≤ 6 ^ f
  | 0, l => by
    unfold cirF ownC
    split <;> simp
  | f + 1, l => by
    have h1 : 1 ≤ 6 ^ f := Nat.pow_pos (by omega)
    have hT : ∀ j, (cirT n m f l j).length ≤ j * 6 ^ f := by
      intro j
      induction j with
      | zero => simp [cirT]
      | succ j ih =>
        rw [cirT_succ, List.length_append, Nat.add_mul, Nat.one_mul]
        refine Nat.add_le_add ih ?_
        split
        · exact cirF_len hn f _
        · simp
    rw [cirF_succ, List.length_append, Nat.pow_succ]
    have h2 := hT (n - (vx l 0 + 1))
    have h3 : (n - (vx l 0 + 1)) * 6 ^ f ≤ 5 * 6 ^ f := Nat.mul_le_mul_right _ (by omega)
    have h4 : (ownC m l).length ≤ 1 := by unfold ownC; split <;> simp
    omega
theorem cirT_len {n : Nat} {m : Nat → Nat → Int} (hn : n ≤ 6) (f : Nat) (l : List Int) : ∀ j, (cirT n m f l j).length ≤ j * 6 ^ f
  | 0 => by simp [cirT]
  | j + 1 => by
    rw [cirT_succ, List.length_append, Nat.add_mul, Nat.one_mul]
    refine Nat.add_le_add (cirT_len hn f l j) ?_
    split
    · exact cirF_len hn f _
    · simp
theorem pow5 {f : Nat} (h : f ≤ 5) : 6 ^ f ≤ 7776 := Nat.pow_le_pow_right (n := 6) (by omega) h
theorem allC_len {n : Nat} {m : Nat → Nat → Int} (hn : n ≤ 6) : ∀ j, j ≤ 6 → (allC n m j).length ≤ j * 7776
  | 0, _ => by simp [allC]
  | j + 1, hj => by
    rw [allC_succ, List.length_append, Nat.add_mul, Nat.one_mul]
    exact Nat.add_le_add (allC_len hn j (by omega)) (Nat.le_trans (cirF_len hn _ _) (pow5 (by omega)))

def BehR (L : List (List Int)) (w : World) (e : Ending) (w' : World) : Prop := ∃ ad cap, e = .returned (.slice ad L.length cap) ∧ (∃ vs, MatL w' w.heap.size w.heap.size (.slice ad L.length cap) L vs) ∧ Below w.heap.size w w'

def BehO (OL : List (List Int)) (w : World) (s : Value) (wd : World) : Prop := ∃ cp ad vs, s = .slice ad OL.length cp ∧ MatL wd w.heap.size w.heap.size (.slice ad OL.length cp) OL vs ∧ Below w.heap.size w wd

set_option maxHeartbeats 6400000 in
set_option maxRecDepth 100000 in
theorem mnBehind_c (n : Nat) (ad : Option Addr) (cap : Nat) (m : Nat → Nat → Int) (w0 : World) (hm : RdM w0 ad (toM n m)) (hn : 1 ≤ n ∧ n ≤ 6) :
    ∀ (f : Nat) (l : List Int) (adw : Option Addr) (capw : Nat) (w : World), f ≤ 5 → Pth n m l → n ≤ l.length + f → RdI w adw l → Below w0.heap.size w0 w →
    Calls Tryz.prog 92 #[.slice ad n cap, .slice adw l.length capw] w (BehR (cirF n m f l) w) := by
  intro f
  induction f using Nat.strongRecOn with
  | _ f ih =>
  intro l adw capw w hf6 hp hf hcl hbw
  have HIH := Lib.hid ih; clear ih
  rw [cir_all hp hf]
  have HRL := Lib.hid hcl
  have hlen := hp.len
  have hpos := hp.pos
  have hla := hp.la
  have hhd := hp.hd
  obtain ⟨bM, oM, rfl, hbM, hrow⟩ := hm.rowF (by omega)
  obtain ⟨b2, o2, c2, e2, hl2, hc2⟩ := hrow _ hla
  have HPX := Lib.hid (fun k (hk : k < n) (h1 : m (laV l) k ≠ 1000000000) (h2 : (k : Int) ∉ l) => hp.ext hk h1 h2)
  obtain ⟨v1, _⟩ := vt_at hp.vt (t := l.length - 1) (by omega)
  obtain ⟨v2, _⟩ := vt_at hp.vt (t := 0) (by omega)
  obtain ⟨bp, op, rfl, hbp, q1⟩ := hcl (l.length - 1) (by omega)
  have q2 := hcl.at (j := 0) (by omega)
  rw [v1] at q1
  rw [v2] at q2
  rw [Nat.add_zero] at q2
  have q1 : w.cell? ⟨bp, op + (l.length - 1), none⟩ = some (.int .i64 (laV l : Int)) := q1
  have e2' := bcell hbw hbM e2
  have k1 := bcell hbw hl2 (hc2 _ hhd)
  have HR2 := Lib.hid hc2
  have OWN := Lib.hid (fun u (hb : Below w.heap.size w u) => l1OwnN_c (some ⟨bp, op, none⟩) capw l u (hcl.below hb) (by omega) (by omega))
  have HOWN := Lib.hid (show ownC m l = if m (laV l) (vx l 0) = 1000000000 then [] else [l] from rfl)
  obtain ⟨P, hPl⟩ : ∃ P, l.length = P := ⟨_, rfl⟩
  have HPL := Lib.hid hPl
  have HBW := Lib.hid hbw
  have HST := Lib.hid (fun k (hk : vx l 0 + 1 ≤ k) => show cirT n m (f - 1) l (k + 1 - (vx l 0 + 1)) = cirT n m (f - 1) l (k - (vx l 0 + 1)) ++ (if (!decide (m (laV l) k = 1000000000) && !decide ((k : Int) ∈ l)) = true then cirF n m (f - 1) (l ++ [(k : Int)]) else []) by
    have h1 := cirT_succ n m (f - 1) l (k - (vx l 0 + 1))
    rw [show vx l 0 + 1 + (k - (vx l 0 + 1)) = k by omega] at h1
    rw [show k + 1 - (vx l 0 + 1) = k - (vx l 0 + 1) + 1 by omega, h1]
    congr 2
    unfold exB
    simp)
  have HTL := Lib.hid (fun k (hk : k ≤ n) => show (cirT n m (f - 1) l (k - (vx l 0 + 1))).length ≤ 90000 from by
    have h1 := cirT_len (m := m) hn.2 (f - 1) l (k - (vx l 0 + 1))
    have h3 := pow5 (show f - 1 ≤ 5 by omega)
    have h5 : (k - (vx l 0 + 1)) * 6 ^ (f - 1) ≤ 6 * 7776 := Nat.mul_le_mul (by omega) h3
    omega)
  have HAL := Lib.hid (fun l' => show (cirF n m (f - 1) l').length ≤ 90000 from by
    have h1 := cirF_len (m := m) hn.2 (f - 1) l'
    have h3 := pow5 (show f - 1 ≤ 5 by omega)
    omega)
  have HF0 := Lib.hid (fun k (hk : k < n) (h1 : m (laV l) k ≠ 1000000000) (h2 : (k : Int) ∉ l) => show 0 < f by
    have := (hp.ext hk h1 h2).len
    rw [List.length_append, List.length_singleton] at this
    omega)
  rw [hPl] at q1 hlen hf hpos OWN ⊢
  obtain ⟨t, ht⟩ : ∃ t, P - 1 = t := ⟨_, rfl⟩
  rw [ht] at q1
  have e1 : IntKind.i64.wrap ((P : Int) - 1) = (t : Int) := by rw [i64_small (by omega) (by omega)]; omega
  have y3 : (0 : Int) ≤ (t : Int) := by omega
  have y4 : (t : Int) < (P : Int) := by omega
  generalize hL1 : laV l = a at *
  generalize hH1 : vx l 0 = H at *
  have y1 : (0 : Int) ≤ (a : Int) := by omega
  have y2 : (a : Int) < (n : Int) := by omega
  have y5 : (0 : Int) ≤ (H : Int) := by omega
  have y6 : (H : Int) < (n : Int) := by omega
  have y7 : 0 < P := by omega
  have eH : IntKind.i64.wrap ((H : Int) + 1) = ((H + 1 : Nat) : Int) := by rw [i64_small (by omega) (by omega)]; omega
  clear hrow hcl hp hm hc2 hPl hbw v1 v2 ht hL1 hH1
  have HE2 := Lib.hid e2
  clear e2
  obtain ⟨OL, hOL⟩ : ∃ OL, ownC m l = OL := ⟨_, rfl⟩
  rw [hOL] at HOWN ⊢
  clear hOL
  have HHD := Lib.hid hhd
  have HOLL := Lib.hid (show OL.length ≤ 1 by rw [HOWN.out]; split <;> simp)
  obtain ⟨C0, hC0⟩ : ∃ C0, m a H = C0 := ⟨_, rfl⟩
  rw [hC0] at k1 HOWN
  clear hC0
  obtain ⟨nb, hnb⟩ : ∃ nb, (C0 != 1000000000) = nb := ⟨_, rfl⟩
  have HNB := Lib.hid hnb
  clear hnb
  go_enter Tryz.func92, Tryz.ntmps92
  go_wp2_with fail
  go_cut [23] from 14 to 23 (fun s wc => s = .bool nb ∧ Below w.heap.size w wc)
  case first =>
    go_quiet (fail)
    go_wp2_with fail
    go_meet
    exact ⟨by rw [HNB.out], bdrewN (Below.refl _ _) _⟩
  case rest =>
    obtain ⟨rfl, hbc⟩ := hcut
    obtain ⟨wB, rfl⟩ : ∃ x : World, x = wc := ⟨_, rfl⟩
    have HQ2 := Lib.hid q2
    clear q1 q2 k1 e2' e1 y3 y4
    go_upto_if 23 with fail
    go_cut [5] from 24 to 28 (fun s wd => BehO OL w s wd)
    case first =>
      cases nb
      · have HO2 := Lib.hid (show OL = [] by rw [HOWN.out, if_pos (by simpa using HNB.out)])
        go_wp2_with fail
        go_meet
        refine ⟨0, none, [], ?_, ?_, hbc⟩
        · rw [HO2.out]; rfl
        · rw [HO2.out]; exact MatL.nil _ _ _
      · have HO2 := Lib.hid (show OL = [l] by rw [HOWN.out, if_neg (bne_iff_ne.1 HNB.out)])
        clear HOWN
        go_wp2_with fail
        refine (OWN.out wB hbc).mono ?_
        rintro e w2 ⟨g, cg, rfl, hrow2, hg, hb2⟩
        have HU := Lib.hid (MatL.one w2 w.heap.size w.heap.size _ l (CellO.of_row (hrow2.low hbc.size)) (by have := hbc.size; have := hb2.size; omega))
        have hbz := bal_alloc (o := .cells #[.slice (some ⟨g, 0, none⟩) P cg] 25) hb2
        have hbw2 := ball hbc hbz
        have HB2 := Lib.hid hbw2
        have HBZ := Lib.hid hbz
        clear hrow2 hb2 hbz
        go_wp2_with (at_builtin; refine wpList_appL rfl _ _ rfl w.heap.size w.heap.size w.heap.size _ _ [] [l] [] _ 1 rfl rfl rfl (MatL.nil _ _ _) HU.out (by simp) (by simp) HB2.out.size ?_; intro ad9 cap9 w9 hml9 hbm9)
        have HM9 := Lib.hid hml9
        have hb9 := HB2.out.trans hbm9
        clear hml9
        go_meet
        exact ⟨cap9, ad9, _, by rw [HO2.out]; rfl, by rw [HO2.out]; exact HM9.out, hb9⟩
    case rest =>
      obtain ⟨cpO, adO, vsO, rfl, hmO, hbO⟩ := hcut
      obtain ⟨wO, rfl⟩ : ∃ x : World, x = wc := ⟨_, rfl⟩
      have HMO := Lib.hid hmO
      have q2 := bcell hbO hbp HQ2.out
      clear hmO HOWN OWN HNB
      go_wp2_with fail
      go_loopw [5, 7] (fun v i wr => ∃ (k : Nat) (vs : List Value), H + 1 ≤ k ∧ k ≤ n ∧ i = .int .i64 k ∧ MatL wr w.heap.size w.heap.size v (OL ++ cirT n m (f - 1) l (k - (H + 1))) vs ∧ Below w.heap.size w wr) (fun _ i _ => n - (intOf i).toNat)
      case atStart => exact ⟨H + 1, _, Nat.le_refl _, by omega, by rfl, by rw [Nat.sub_self, show cirT n m (f - 1) l 0 = [] from rfl, List.append_nil]; exact HMO.out, hbO⟩
      case round =>
        obtain ⟨wE, rfl⟩ : ∃ x : World, x = wr := ⟨_, rfl⟩
        obtain ⟨k, vs, hk1, hk, rfl, hml, hbel⟩ := hrel
        obtain ⟨ad1, cap1, rfl, _⟩ := hml.shape
        obtain ⟨NN, hNN⟩ : ∃ NN, (OL ++ cirT n m (f - 1) l (k - (H + 1))).length = NN := ⟨_, rfl⟩
        rw [hNN] at hml ⊢
        have HNN := Lib.hid hNN
        clear q2 HMO hNN
        by_cases hlt : k < n
        case neg =>
          obtain rfl : k = n := by omega
          have HML := Lib.hid hml; clear hml
          go_wp2_with fail
          go_ret
          refine ⟨ad1, cap1, ?_, ⟨_, by rw [HNN.out]; exact HML.out⟩, hbel⟩
          rw [HNN.out]; rfl
        case pos =>
          have hrE := HRL.out.below hbel
          have CON := Lib.hid (l1HasW (some ⟨bp, op, none⟩) capw l (k : Int) wE (by rw [HPL.out]; omega) hrE)
          rw [HPL.out] at CON
          have hbwE := HBW.out.trans (hbel.mono HBW.out.size)
          have e3 := bcell hbel (Nat.lt_of_lt_of_le hbM HBW.out.size) (bcell HBW.out hbM HE2.out)
          have k3 := bcell hbwE hl2 (HR2.out k hlt)
          have HBWE := Lib.hid hbwE
          have HML := Lib.hid hml; clear hml
          have x1 : (0 : Int) ≤ (k : Int) := by omega
          have x2 : (k : Int) < (n : Int) := by omega
          have hst := HST.out k hk1
          have htl := HTL.out k hk
          have hal := HAL.out (l ++ [(k : Int)])
          have HPX2 := Lib.hid (HPX.out k hlt)
          have HF2 := Lib.hid (HF0.out k hlt)
          have hol : OL.length ≤ 1 := HOLL.out
          generalize cirT n m (f - 1) l (k - (H + 1)) = T at hst htl HML
          obtain ⟨T1, hT1⟩ : ∃ T1, cirT n m (f - 1) l (k + 1 - (H + 1)) = T1 := ⟨_, rfl⟩
          rw [hT1] at hst
          have HT1 := Lib.hid hT1; clear hT1
          have hsz : w.heap.size ≤ wE.heap.size := hbel.size
          clear hrE hbwE
          obtain ⟨D, hD⟩ : ∃ D, m a k = D := ⟨_, rfl⟩
          rw [hD] at k3 hst HPX2 HF2
          by_cases hC : D = 1000000000
          · rw [hC] at k3 hst
            have HT := Lib.hid (show T1 = T by rw [hst]; simp)
            clear hst hD hC
            go_wp2_with fail
            go_roundw
            case rel => exact ⟨k + 1, vs, by omega, by omega, by go_num, by rw [HT1.out, HT.out]; exact HML.out, hbel⟩
            case measure => simp [intOf]; omega
          · have gC : (D != 1000000000) = true := bne_iff_ne.2 hC
            rw [decide_eq_false hC] at hst
            by_cases hin : (k : Int) ∈ l
            · rw [decide_eq_true hin] at CON hst
              have HT := Lib.hid (show T1 = T by rw [hst]; simp)
              clear hst hD hin
              go_wp2_with fail
              refine CON.out.mono ?_
              rintro e w3 ⟨rfl, rfl⟩
              go_wp2_with fail
              go_roundw
              case rel => exact ⟨k + 1, vs, by omega, by omega, by go_num, by rw [HT1.out, HT.out]; exact HML.out, hbel⟩
              case measure => simp [intOf]; omega
            · rw [decide_eq_false hin] at CON hst
              simp only [Bool.not_false, Bool.and_self, if_true] at hst
              have hpx := HPX2.out hC hin
              have hf0 := HF2.out hC hin
              obtain ⟨N1, hN1⟩ : ∃ N1, P + 1 = N1 := ⟨_, rfl⟩
              have HNL := Lib.hid (show (l ++ [(k : Int)]).length = N1 by rw [List.length_append, HPL.out]; exact hN1)
              have IHC := Lib.hid (show ∀ (u : World) (g5 cap5 : Nat), Below wE.heap.size wE u → RowI u wE.heap.size (.slice (some ⟨g5, 0, none⟩) N1 cap5) (l ++ [(k : Int)]) → Calls Tryz.prog 92 #[.slice (some ⟨bM, oM, none⟩) n cap, .slice (some ⟨g5, 0, none⟩) N1 cap5] u (BehR (cirF n m (f - 1) (l ++ [(k : Int)])) u) from fun u g5 cap5 hbu h1 => by
                have h2 := HIH.out (f - 1) (by omega) (l ++ [(k : Int)]) (some ⟨g5, 0, none⟩) cap5 u (by omega) hpx (by rw [HNL.out]; omega) (by exact h1.rdT) (HBWE.out.trans (hbu.mono HBWE.out.size))
                rw [HNL.out] at h2
                exact h2)
              generalize cirF n m (f - 1) (l ++ [(k : Int)]) = W2 at IHC hst hal
              have HT := Lib.hid hst; clear hst
              have OWA := Lib.hid (l1OwnN_c (some ⟨bp, op, none⟩) capw l wE (HRL.out.below hbel) (by rw [HPL.out]; omega) (by rw [HPL.out]; omega))
              rw [HPL.out] at OWA
              have HNI := Lib.hid hN1
              obtain ⟨N3, hN3⟩ : ∃ N3, (OL ++ T).length + W2.length = N3 := ⟨_, rfl⟩
              have HN3 := Lib.hid hN3
              have hotl : (OL ++ T).length ≤ 100000 := by rw [List.length_append]; omega
              have hal2 : W2.length ≤ 100000 := by omega
              have HOT := Lib.hid hotl; have HAL2 := Lib.hid hal2
              clear hD hin hpx hN1 hN3 hotl hal2 htl hal hol hf0
              generalize hOT : OL ++ T = OT at HML HN3 HOT
              have HOTE := Lib.hid hOT
              clear hOT
              go_wp2_with fail
              refine CON.out.mono ?_
              rintro e w3 ⟨rfl, rfl⟩
              go_wp2_with fail
              refine OWA.out.mono ?_
              rintro e w2 ⟨g2, c2', rfl, hrow2, hg2, hb2⟩
              have HR5 := Lib.hid (hrow2.below (bal_alloc (o := .cells #[.int .i64 (k : Int)] 3) (Below.refl _ _)))
              have hbz := bal_alloc (o := .cells #[.int .i64 (k : Int)] 3) hb2
              have HK5 := Lib.hid (rdI_one w2 w2.heap.size (k : Int) rfl)
              clear hrow2 hg2
              go_wp2_with (at_builtin; first
                | (refine wpList_appN rfl _ _ rfl wE.heap.size w2.heap.size 0 1 _ l [(k : Int)] N1 (by rw [HPL.out]; exact HNI.out) rfl rfl HR5.out HK5.out (by rw [HPL.out]; omega) (by simp) (by have := hbz.size; omega) ?_; intro v5 wm hown hsh hbm hgr; obtain ⟨g5, cap5, rfl, _⟩ := hsh (by have := HNI.out; omega); have hb5 : Below wE.heap.size wE wm := hbz.trans hbm; have CAL := Lib.hid (IHC.out wm g5 cap5 hb5 hown); clear hown hsh hgr))
              refine CAL.out.mono ?_
              rintro e w6 ⟨ad6, cap6, rfl, ⟨us, hm6⟩, hb6⟩
              have hb7 := ball hb5 hb6
              have HM7 := Lib.hid (HML.out.below hb7)
              have HU7 := Lib.hid (hm6.mono (R' := wm.heap.size) (B' := w.heap.size) (Nat.le_refl _) (Nat.le_trans hsz hb5.size))
              have hb8 := ball hbel hb7
              have hs8 := hb8.size
              clear hm6
              go_wp2_with (at_builtin; refine wpList_appL rfl _ _ rfl w.heap.size wm.heap.size w.heap.size _ _ OT W2 vs us N3 HN3.out rfl rfl HM7.out HU7.out HOT.out HAL2.out hs8 ?_; intro ad9 cap9 w9 hml9 hbm9)
              have HM9 := Lib.hid hml9
              have hb9 := hb8.trans hbm9
              clear hml9
              go_roundw
              case rel => exact ⟨k + 1, vs ++ us, by omega, by omega, by go_num, by rw [HT1.out, HT.out, ← List.append_assoc, HOTE.out]; exact HM9.out, hb9⟩
              case measure => simp [intOf]; omega
end Go.Proofs.YtjkfighooijblaaGreat

/-
  The reference's circuits, their means and the first least one. By an AI agent.
-/
namespace Go.Proofs.YtjkfighooijblaaGreat
open Go.RowKit

set_option maxHeartbeats 3200000 in
set_option maxRecDepth 100000 in
theorem mnCircuits_c (n : Nat) (ad : Option Addr) (cap : Nat) (m : Nat → Nat → Int) (w : World) (hm : RdM w ad (toM n m)) (hn : 1 ≤ n ∧ n ≤ 6) :
    Calls Tryz.prog 68 #[.slice ad n cap] w (BehR (allC n m n) w) := by
  have CB := Lib.hid (fun (i : Nat) (hi : i < n) a c u (hb : Below w.heap.size w u) (h : RdI u a [(i : Int)]) => mnBehind_c n ad cap m w hm hn (n - 1) [(i : Int)] a c u (by omega) (Pth.one m hi) (by simp; omega) h hb)
  have HAL := Lib.hid (fun i => show (cirF n m (n - 1) [((i : Nat) : Int)]).length ≤ 7776 from Nat.le_trans (cirF_len hn.2 _ _) (pow5 (by omega)))
  clear hm
  go_enter Tryz.func68, Tryz.ntmps68
  go_wp2_with fail
  go_loopw [3, 7] (fun v i wr => ∃ (k : Nat) (vs : List Value), k ≤ n ∧ i = .int .i64 k ∧ MatL wr w.heap.size w.heap.size v (allC n m k) vs ∧ Below w.heap.size w wr) (fun _ i _ => n - (intOf i).toNat)
  case atStart => exact ⟨0, _, Nat.zero_le _, rfl, MatL.nil _ _ _, Below.refl _ _⟩
  case round =>
    obtain ⟨wE, rfl⟩ : ∃ x : World, x = wr := ⟨_, rfl⟩
    obtain ⟨k, vs, hk, rfl, hml, hbel⟩ := hrel
    obtain ⟨ad1, cap1, rfl, _⟩ := hml.shape
    have HML := Lib.hid hml; clear hml
    by_cases hlt : k < n
    case neg =>
      obtain rfl : k = n := by omega
      go_wp2_with fail
      go_ret
      exact ⟨_, _, rfl, ⟨_, HML.out⟩, hbel⟩
    case pos =>
      have hb2 := bal_alloc (o := .cells #[.int .i64 (k : Int)] 3) hbel
      have C1 := Lib.hid (CB.out k hlt (some ⟨wE.heap.size, 0, none⟩) 1 (wE.alloc (.cells #[.int .i64 (k : Int)] 3)) hb2 (rdI_one wE wE.heap.size (k : Int) rfl))
      have HTL := Lib.hid (allC_len (m := m) hn.2 k (by omega))
      have HA := Lib.hid (allC_succ n m k)
      have HL2 := Lib.hid (HAL.out k)
      generalize allC n m k = T at HML HTL HA ⊢
      generalize cirF n m (n - 1) [((k : Nat) : Int)] = W2 at C1 HA HL2
      obtain ⟨N3, hN3⟩ : ∃ N3, T.length + W2.length = N3 := ⟨_, rfl⟩
      have HN3 := Lib.hid hN3
      clear hN3
      go_wp2_with fail
      refine C1.out.mono ?_
      rintro e w6 ⟨ad6, cap6, rfl, ⟨us, hm6⟩, hb6⟩
      have HM7 := Lib.hid (HML.out.below ((bal_alloc (o := .cells #[.int .i64 (k : Int)] 3) (Below.refl wE.heap.size wE)).trans (hb6.mono (by simp))))
      have HU7 := Lib.hid (hm6.mono (Nat.le_refl _) hb2.size)
      have hb8 := ball hb2 hb6
      have hs8 := hb8.size
      clear hm6
      go_wp2_with (at_builtin; refine wpList_appL rfl _ _ rfl w.heap.size (wE.alloc (.cells #[.int .i64 (k : Int)] 3)).heap.size w.heap.size _ _ T W2 vs us N3 HN3.out rfl rfl HM7.out HU7.out (by have := HTL.out; omega) (by have := HL2.out; omega) hs8 ?_; intro ad9 cap9 w9 hml9 hbm9)
      have HM9 := Lib.hid hml9
      have hb9 := hb8.trans hbm9
      clear hml9
      go_wp2_with fail
      go_roundw
      case rel => exact ⟨k + 1, vs ++ us, by omega, by go_num, by rw [HA.out]; exact HM9.out, hb9⟩
      case measure => simp [intOf]; omega

/-- the sum so far. -/
def smC (m : Nat → Nat → Int) (c : List Int) (t : Nat) : Int := smN (fun t => m (vx c t) (nxV c t)) t
theorem smC_bd {n : Nat} {m : Nat → Nat → Int} {c : List Int} (hm : ∀ a b, a < n → b < n → numB (m a b) = true) (h : Cr0 n m c) (hn6 : n ≤ 6) {t : Nat} (ht : t ≤ c.length) : -6000000 ≤ smC m c t ∧ smC m c t ≤ 6000000 := by
  have h5 := h.pth.len
  have := smN_bdE (f := fun t => m (vx c t) (nxV c t)) (K := 1000000) (s := t) (fun s hs => by
    have h1 : nxV c s < n := by
      unfold nxV
      split
      · exact (vt_at h.pth.vt (by omega)).2
      · exact h.pth.hd
    have h2 := numB_t (hm _ _ (vt_at h.pth.vt (show s < c.length by omega)).2 h1)
    have h3 := h.arc (t := s) (by omega)
    omega)
  unfold smC
  omega
set_option maxHeartbeats 3200000 in
set_option maxRecDepth 100000 in
theorem mnMean_c (n : Nat) (ad : Option Addr) (cap : Nat) (m : Nat → Nat → Int) (adw : Option Addr) (capw : Nat) (l : List Int) (w : World) (hr : RdM w ad (toM n m)) (hw : RdI w adw l) (hn : 1 ≤ n ∧ n ≤ 6) (hp : Cr0 n m l) (hnum : ∀ a b, a < n → b < n → numB (m a b) = true) :
    Calls Tryz.prog 31 #[.slice ad n cap, .slice adw l.length capw] w fun e w' => e = .returned (frV (meC m l)) ∧ Below w.heap.size w w' := by
  have hb0 := bal_alloc (o := .cells #[.int .i64 0, .int .i64 0] 30) (Below.refl w.heap.size w)
  have o0 := FrO.new w 0 0 rfl
  have hs := cy0_sum hnum hn.2 hp
  have h2 := hp.pth.pos
  have h3 := hp.pth.len
  have C2 := frMake_c (sumC m l) (l.length : Int)
  have hmk : mkB (sumC m l) (l.length : Int) = true := by
    unfold mkB
    rw [decide_eq_true (show (l.length : Int) ≠ 0 by omega), Bool.true_and]
    exact meC_frB hnum hn.2 hp
  have CF := Lib.hid (fun w => by
    have h4 := C2 w (by omega) (by omega)
    rw [hmk, frR_t] at h4
    exact h4)
  rw [show lowF (sumC m l) (l.length : Int) = meC m l from rfl] at CF
  have HSUM := Lib.hid (show smC m l l.length = sumC m l from rfl)
  have HBD := Lib.hid (fun t (ht : t ≤ l.length) => smC_bd hnum hp hn.2 ht)
  have HP := Lib.hid hp
  have HNUM := Lib.hid hnum
  have HR := Lib.hid (hr.below hb0); have HWW := Lib.hid (hw.below hb0)
  obtain ⟨N, hN⟩ : ∃ N, l.length = N := ⟨_, rfl⟩
  have HN := Lib.hid hN
  rw [hN] at CF HSUM HBD h2 h3 ⊢
  obtain ⟨F, hF⟩ : ∃ F, meC m l = F := ⟨_, rfl⟩
  rw [hF] at CF ⊢
  obtain ⟨a, b⟩ := F
  unfold frV at *
  simp only at CF ⊢
  obtain ⟨w1, hw1⟩ : ∃ x, w.alloc (.cells #[.int .i64 0, .int .i64 0] 30) = x := ⟨_, rfl⟩
  obtain ⟨h, hh⟩ : ∃ h, w.heap.size = h := ⟨_, rfl⟩
  rw [hh] at o0
  rw [hw1] at o0 hb0 HR HWW
  have HW1 := Lib.hid hw1
  have hwh : w.heap.size ≤ h := by omega
  clear C2 hmk hs hr hw hp hnum hN hF hw1
  go_enter Tryz.func31, Tryz.ntmps31
  go_wp2_with fail
  rw [HW1.out]
  go_loopw [5, 12] (fun v i wr => ∃ k : Nat, k ≤ N ∧ i = .int .i64 k ∧ v = .int .i64 (smC m l k) ∧ Below w1.heap.size w1 wr) (fun _ i _ => N - (intOf i).toNat)
  case atStart => exact ⟨0, Nat.zero_le _, rfl, rfl, Below.refl _ _⟩
  case round =>
    obtain ⟨wE, rfl⟩ : ∃ x : World, x = wr := ⟨_, rfl⟩
    obtain ⟨k, hk, rfl, rfl, hbel⟩ := hrel
    by_cases hlt : k < N
    case pos =>
      obtain ⟨bp, op, rfl, hbp, q1⟩ := HWW.out k (by rw [HN.out]; exact hlt)
      obtain ⟨e1, e2⟩ := vt_at HP.out.pth.vt (t := k) (by rw [HN.out]; exact hlt)
      rw [e1] at q1
      have q1 := bcell hbel hbp q1
      obtain ⟨j, hj⟩ : ∃ j, (k + 1) % N = j := ⟨_, rfl⟩
      have hjN : j < N := by rw [← hj]; exact Nat.mod_lt _ (by omega)
      have q2 := bcell' hbel (HWW.out.at (j := j) (by rw [HN.out]; exact hjN))
      have hnx : vx l j = nxV l k := by
        unfold nxV
        rw [HN.out]
        by_cases h : k + 1 < N
        · rw [if_pos h, ← hj, Nat.mod_eq_of_lt h]
        · rw [if_neg h, ← hj, show k + 1 = N by omega, Nat.mod_self]
      obtain ⟨e3, e4⟩ := vt_at HP.out.pth.vt (t := j) (by rw [HN.out]; exact hjN)
      rw [e3, hnx] at q2
      rw [hnx] at e4
      obtain ⟨bM, oM, rfl, hbM, hrow⟩ := HR.out.rowF (by omega)
      obtain ⟨b2, o2, c2, k2, hl2, hc2⟩ := hrow _ e2
      have k2 := bcell hbel hbM k2
      have k3 := bcell hbel hl2 (hc2 _ e4)
      have bd := HBD.out k hk
      have bd2 := HBD.out (k + 1) (by omega)
      have HSM := Lib.hid (show smC m l (k + 1) = smC m l k + m (vx l k) (nxV l k) from rfl)
      rw [HSM.out] at bd2
      have r1 : Int.tmod ((k : Int) + 1) (N : Int) = (j : Int) := by rw [rem_next, hj]
      have r2 : IntKind.i64.wrap ((k : Int) + 1) = (k : Int) + 1 := i64_small (by omega) (by omega)
      have r3 : ((N : Int) == 0) = false := beq_eq_false_iff_ne.2 (by omega)
      generalize vx l k = u at q1 e2 k2 k3 HSM bd2
      generalize nxV l k = v at q2 e4 k3 HSM bd2
      generalize m u v = D at k3 HSM bd2
      generalize smC m l k = S at bd bd2 HSM ⊢
      have r4 : IntKind.i64.wrap (S + D) = S + D := i64_small (by omega) (by omega)
      have x1 : (0 : Int) ≤ (k : Int) := by omega
      have x2 : (k : Int) < (N : Int) := by omega
      have x3 : (0 : Int) ≤ (u : Int) := by omega
      have x4 : (u : Int) < (n : Int) := by omega
      have x5 : (0 : Int) ≤ (v : Int) := by omega
      have x6 : (v : Int) < (n : Int) := by omega
      have x7 : (0 : Int) ≤ (j : Int) := by omega
      have x8 : (j : Int) < (N : Int) := by omega
      have HR4 := Lib.hid r4
      clear hrow hc2 e1 e3 hnx hj bd bd2 r4
      have r4 := HR4.out
      go_wp2_with fail
      go_quiet (fail)
      go_wp2_with fail
      go_roundw
      case rel => exact ⟨k + 1, by omega, by go_num, by rw [HSM.out], bdrewN hbel _⟩
      case measure => simp [intOf]; omega
    case neg =>
      obtain rfl : k = N := by omega
      rw [HSUM.out]
      have o1 := o0.below hbel
      have hb1 := ball hb0 hbel
      clear HBD HSUM
      go_wp2_with fail
      refine (CF.out _).mono ?_
      rintro e w2 ⟨rfl, hb2⟩
      have o2 := o1.below hb2
      have hb2 := ball hb1 hb2
      have o3 : FrO (w2.alloc (.cells #[.int .i64 a, .int .i64 b] 30)) h ⟨0, 0⟩ := o2.alloc _
      have r3 : FrO (w2.alloc (.cells #[.int .i64 a, .int .i64 b] 30)) w2.heap.size ⟨a, b⟩ := FrO.new w2 a b rfl
      obtain ⟨y0, y1⟩ := o3.at
      obtain ⟨f0, f1⟩ := o3.fr
      obtain ⟨z0, z1⟩ := r3.at
      obtain ⟨y2, y3⟩ := o2.at
      obtain ⟨f2, f3⟩ := o2.fr
      clear o0 o1 hb0 hb1
      go_wp2_with fail
      obtain ⟨W, hW, ⟨q0, q1⟩, hB⟩ := fr2_end (a := a) (b := b) o3 (bal_alloc hb2) hwh
      unfold fr2 at hW
      rw [hW]
      exact bodyPost_ret (v := .agg #[.int .i64 a, .int .i64 b]) (by simp [results, Tryz.results31, go_sem, q0, q1]) rfl ⟨rfl, hB⟩
end Go.Proofs.YtjkfighooijblaaGreat
