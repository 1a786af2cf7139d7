/-
  The program's sides of a polynomial (a map), its needless terms and its least coefficients. Printed by gen_fuS.py.
-/
import Derived.Test.YtekhmjhbdoigoaaMapF
import Derived.Test.YtekhmjhbdoigoaaFuT
namespace Go.Proofs.Ytekhmjhbdoigoaa
open Go.RowKit Go.Maps

/-- The sides up to an exponent. -/
def sideQ (p : List Int) (q : Nat) (e : Nat) : Option Fr := if e < q then sideA p e else none
theorem agr_step {D : DataW Unit} {p : List Int} {q : Nat} {g : Fr} (h : Agr D (sideQ p q)) (hD : Maps.IsMap D) (hg : sideA p q = some g) : Agr (D.put (kLit q) (frD g)) (sideQ p (q + 1)) := by
  have := agr_put h hD q g
  have e : (fun y => if y = q then some g else sideQ p q y) = sideQ p (q + 1) := by
    funext y
    unfold sideQ
    by_cases h1 : y = q
    · subst h1
      rw [if_pos rfl, if_pos (by omega), hg]
    · rw [if_neg h1]
      by_cases h2 : y < q
      · rw [if_pos h2, if_pos (by omega)]
      · rw [if_neg h2, if_neg (by omega)]
  rwa [e] at this
theorem agr_first {D : DataW Unit} {p : List Int} (hp : polyB p = true) (h : Agr D (fun _ => none)) (hD : Maps.IsMap D) : Agr (D.put (kLit ((corP p).getD 0 0)) (frD ⟨cof p ((corP p).getD 0 0), 1⟩)) (sideQ p ((corP p).getD 0 0 + 1)) := by
  have h0 : (fun _ => none) = sideQ p ((corP p).getD 0 0) := by
    funext y
    unfold sideQ
    by_cases h2 : y < (corP p).getD 0 0
    · rw [if_pos h2]
      unfold sideA
      rw [cor_low hp h2]
      rfl
    · rw [if_neg h2]
  rw [h0] at h
  refine agr_step h hD ?_
  unfold sideA
  rw [cor_first hp]
  have hb := (cor_facts hp).1
  have hm := st_mem hp _ (cor_mem (p := p) (n := 0) (by omega))
  simp only [Option.map_some, lowO]
  rw [low_one (by omega)]
theorem side_all {p : List Int} (hp : polyB p = true) : sideQ p p.length = sideA p := by
  funext y
  unfold sideQ
  by_cases h : y < p.length
  · rw [if_pos h]
  · rw [if_neg h]
    unfold sideA
    cases hh : hgt (cof p) (stP p) y with
    | none => rfl
    | some f =>
      exfalso
      have hd := st_head hp
      have hne := st_ne hp
      rcases hgt_some (stP_ok p) hh with ⟨j, h1, h2, h3, _⟩ | ⟨h1, h2, _⟩
      · have := (st_mem hp _ (getD_mem (j := j) (by omega))).1
        omega
      · have := (st_mem hp _ (getD_mem (j := (stP p).length - 1) (by cases hs : stP p; exact absurd hs hne; simp))).1
        omega
theorem side_seg {p : List Int} {n : Nat} (h : n + 1 < (corP p).length) {e : Nat} (h1 : (corP p).getD n 0 < e) (h2 : e ≤ (corP p).getD (n + 1) 0) : sideA p e = some (lowF (cof p ((corP p).getD n 0) * ((((corP p).getD (n + 1) 0 : Nat) : Int) - (((corP p).getD n 0 : Nat) : Int)) + (cof p ((corP p).getD (n + 1) 0) - cof p ((corP p).getD n 0)) * ((e : Int) - (((corP p).getD n 0 : Nat) : Int))) ((((corP p).getD (n + 1) 0 : Nat) : Int) - (((corP p).getD n 0 : Nat) : Int))) := by
  unfold sideA
  rw [cor_seg h h1 h2]
  rfl
theorem OwnM.mono {w : World} {b n n' : Nat} {D : DataW Unit} (h : OwnM w b n D) (hn : n ≤ n') : OwnM w b n' D := World.ownsMap.mono h hn
theorem OwnM.isMap {w : World} {b n : Nat} {D : DataW Unit} (h : OwnM w b n D) : Maps.IsMap D := World.ownsMap.isMap h
theorem seg_bd {ci ck A E : Int} (h1 : -1000000 ≤ ci ∧ ci ≤ 1000000) (h2 : -1000000 ≤ ck ∧ ck ≤ 1000000) (hA : 0 ≤ A ∧ A ≤ 13) (hE : 0 ≤ E ∧ E ≤ 13) : (-13000000 ≤ ci * A ∧ ci * A ≤ 13000000) ∧ (-26000000 ≤ (ck - ci) * E ∧ (ck - ci) * E ≤ 26000000) := by
  have a1 := Int.mul_le_mul_of_nonneg_right h1.1 hA.1
  have a2 := Int.mul_le_mul_of_nonneg_right h1.2 hA.1
  have b1 := Int.mul_le_mul_of_nonneg_right (show -2000000 ≤ ck - ci by omega) hE.1
  have b2 := Int.mul_le_mul_of_nonneg_right (show ck - ci ≤ 2000000 by omega) hE.1
  omega
set_option maxHeartbeats 6400000 in
set_option maxRecDepth 100000 in
theorem sides_c (ad : Option Addr) (cap : Nat) (p : List Int) (w : World) (hr : RdI w ad p) (hp : polyB p = true) :
    Calls Try.prog 24 #[.slice ad p.length cap] w fun e w' => ∃ b D, e = .returned (.map (some b)) ∧ OwnM w' b 14 D ∧ Agr D (sideA p) ∧ w.heap.size ≤ b ∧ Below w.heap.size w w' := by
  have hpl := (polyB_t hp).1
  obtain ⟨hc1, hc13, hcc, -⟩ := cor_facts hp
  have hcb := Lib.hid (fun j (h : j < (corP p).length) => st_mem hp _ (cor_mem h))
  have hci := Lib.hid (fun n (h : n + 1 < (corP p).length) => cor_inc (p := p) h)
  have hsg := Lib.hid (fun n (h : n + 1 < (corP p).length) e => side_seg (p := p) (n := n) h (e := e))
  have hfst := Lib.hid (fun D h hD => agr_first (D := D) hp h hD)
  have hlast := Lib.hid (cor_lastlen hp)
  have hall := Lib.hid (side_all hp)
  have CC := Lib.hid (fun w hr => corners_c ad cap p w hr hp)
  have HR := Lib.hid hr
  clear hr hcc
  obtain ⟨N, hN⟩ : ∃ N, (corP p).length = N := ⟨_, rfl⟩
  have hmm := @run_makeMap Try.prog
  go_enter Try.func24, Try.ntmps24
  go_wp2_with fail
  refine (CC.out _ HR.out).mono ?_
  rintro e w1 ⟨vC, rfl, hrow, hb1⟩
  obtain ⟨adC, capC, rfl, hrdC⟩ := RowI.shape hrow
  rw [natL_len]
  have HR1 := Lib.hid (HR.out.below hb1)
  have HRC := Lib.hid hrdC
  obtain ⟨bC, offC, rfl, hbC, k0⟩ := hrdC 0 (by rw [natL_len]; omega)
  rw [natL_getD (by omega)] at k0
  have hl0 := hcb.out 0 (by omega)
  obtain ⟨bp, off, rfl, hbp, k1⟩ := HR1.out ((corP p).getD 0 0) hl0.1
  rw [show p.getD ((corP p).getD 0 0) 0 = cof p ((corP p).getD 0 0) from rfl] at k1
  have hfst0 := hfst.out (.map []) agr_made ⟨[], rfl⟩
  obtain ⟨l0, hl0e⟩ : ∃ l, (corP p).getD 0 0 = l := ⟨_, rfl⟩
  rw [hl0e] at k0 k1 hl0 hfst0
  obtain ⟨V, hV⟩ : ∃ V, cof p l0 = V := ⟨_, rfl⟩
  rw [hV] at k1 hl0 hfst0
  rw [hN] at hc1 hc13 ⊢
  have HN := Lib.hid hN; have HL0 := Lib.hid hl0e; have HF0 := Lib.hid hfst0
  have CW := Lib.hid (fun w => whole_c V w)
  have x0 : (0 : Int) < (N : Int) := by omega
  have x0n : 0 < N := by omega
  have x1 : (0 : Int) ≤ (l0 : Int) := by omega
  have x2 : (l0 : Int) < (p.length : Int) := by omega
  rw [Nat.add_zero] at k0
  have hbR := Below.refl w1.heap.size w1
  clear hrow hrdC hV hfst0 hN hl0e CC HR hfst
  go_upto_region 2 with fail
  go_cut [4] from 11 to 22 (fun s wc => ∃ gM, s = .map (some gM) ∧ OwnM wc gM 1 ((DataW.map []).put (kLit l0) (frD ⟨V, 1⟩)) ∧ w1.heap.size ≤ gM ∧ Below w1.heap.size w1 wc)
  case first =>
    go_region_held3 (fun w' => w'.cell? ⟨bC, offC, none⟩ = some (.int .i64 (l0 : Int)) ∧ w'.cell? ⟨bp, off + l0, none⟩ = some (.int .i64 V)) (with_reducible repeat' (first | apply And.intro | assumption | apply cell_alloc' | apply cell_drew'))
      (first
        | (go_at_call 29; (with_reducible refine (CW.out _).mono ?_); rintro e W1 ⟨rfl, hwK1⟩; have hbK1 : Below w1.heap.size w1 W1 := ball (by with_reducible repeat (first | exact hbR | apply Below.drew | apply bal_alloc)) hwK1; have n0 := bcell hbK1 hbC k0; have n1 := bcell hbK1 hbp k1; have hzK := hbK1.size; obtain ⟨wA, hiA, oA, gA⟩ := ins_ex (own_made W1) (by unfold maxLen; omega) l0 (by omega) ⟨V, 1⟩; have s0 := grown_cell gA (a := ⟨bC, offC, none⟩) (by simp; omega) (by simp; omega) (cell_alloc' n0); have s1 := grown_cell gA (a := ⟨bp, off + l0, none⟩) (by simp; omega) (by simp; omega) (cell_alloc' n1); (try (have hoB : OwnM W1 w1.heap.size 0 (.map []) := OwnM.below (own_made w1.drew) hwK1; obtain ⟨wB, hiB, oB, gB⟩ := ins_ex hoB (by unfold maxLen; omega) l0 (by omega) ⟨V, 1⟩; have r0 := grown_cell gB (a := ⟨bC, offC, none⟩) (by simp; omega) (by simp; omega) n0; have r1 := grown_cell gB (a := ⟨bp, off + l0, none⟩) (by simp; omega) (by simp; omega) n1; have hiB2 : (Instr.mapUpdate 46 (.map (some w1.heap.size)) (.int .i64 (l0 : Int)) (.agg #[.int .i64 V, .int .i64 1])).run Try.prog W1 = .ok () wB := hiB; clear hiB)); have hiA2 : (Instr.mapUpdate 46 (.map (some W1.heap.size)) (.int .i64 (l0 : Int)) (.agg #[.int .i64 V, .int .i64 1])).run Try.prog (W1.alloc (.map #[] 0)) = .ok () wA := hiA; clear hiA))
    all_goals
      go_wp2_with fail
      go_meet
      first
        | exact ⟨w1.heap.size, rfl, oB, Nat.le_refl _, grown_below hbK1 gB (Nat.le_refl _)⟩
        | exact ⟨W1.heap.size, rfl, oA, hbK1.size, grown_below (bal_alloc hbK1) gA hbK1.size⟩
  case rest =>
    obtain ⟨gM, rfl, oM, hgM, hbZ⟩ := hcut
    obtain ⟨wZ, rfl⟩ : ∃ y : World, y = wc := ⟨_, rfl⟩
    have HR2 := Lib.hid (HR1.out.below hbZ)
    have hF0 := HF0.out
    have hb2 := hb1.trans (hbZ.mono hb1.size)
    have hw1 := hb1.size
    have HL := Lib.hid (show (corP p).getD (1 - 1) 0 = l0 from HL0.out)
    clear HF0 HL0 CW hbR k0 k1 x0 x0n x1 x2 hmm
    go_wp2_with fail
    go_loopw [5] (fun i wr => ∃ (n : Nat) (D : DataW Unit), 1 ≤ n ∧ n ≤ N ∧ i = .int .i64 n ∧ OwnM wr gM ((corP p).getD (n - 1) 0 + 1) D ∧ Agr D (sideQ p ((corP p).getD (n - 1) 0 + 1)) ∧ Below w1.heap.size w1 wr) (fun i _ => N - (intOf i).toNat)
    case atStart => exact ⟨1, _, Nat.le_refl _, hc1, rfl, by rw [HL.out]; exact oM.mono (by omega), by rw [HL.out]; exact hF0, hbZ⟩
    case round =>
      obtain ⟨n, D, hn1, hnN, rfl, hoM, hagr, hbel⟩ := hrel
      clear oM hF0
      by_cases hlt : n < N
      case neg =>
        obtain rfl : n = N := by omega
        have h1 := hlast.out
        rw [HN.out] at h1
        have hbw := hb1.trans (hbel.mono hb1.size)
        go_wp2_with fail
        go_ret
        exact ⟨gM, D, rfl, hoM.mono (by omega), by rw [← hall.out, ← h1]; exact hagr, by omega, hbw⟩
      case pos =>
        obtain ⟨m, rfl⟩ : ∃ m, n = m + 1 := ⟨n - 1, by omega⟩
        rw [Nat.add_sub_cancel] at hoM hagr
        have hci' := hci.out m (by have := HN.out; omega)
        have hsg' := hsg.out m (by have := HN.out; omega)
        have hI := hcb.out m (by have := HN.out; omega)
        have hK := hcb.out (m + 1) (by have := HN.out; omega)
        have k0 := HRC.out.at (j := m) (by rw [natL_len]; have := HN.out; omega)
        have k1 := HRC.out.at (j := m + 1) (by rw [natL_len]; have := HN.out; omega)
        rw [natL_getD (by have := HN.out; omega)] at k0 k1
        obtain ⟨iC, hiC⟩ : ∃ i, (corP p).getD m 0 = i := ⟨_, rfl⟩
        obtain ⟨kC, hkC⟩ : ∃ i, (corP p).getD (m + 1) 0 = i := ⟨_, rfl⟩
        rw [hiC] at k0 hI hci' hsg' hoM hagr
        rw [hkC] at k1 hK hci' hsg'
        have e0 := bcell hbel hbC k0
        have e1 := bcell hbel hbC k1
        have c0 := HR1.out.at (j := iC) hI.1
        have c1 := HR1.out.at (j := kC) hK.1
        rw [show p.getD iC 0 = cof p iC from rfl] at c0
        rw [show p.getD kC 0 = cof p kC from rfl] at c1
        obtain ⟨ci, hcie⟩ : ∃ i, cof p iC = i := ⟨_, rfl⟩
        obtain ⟨ck, hcke⟩ : ∃ i, cof p kC = i := ⟨_, rfl⟩
        rw [hcie] at c0 hI hsg'
        rw [hcke] at c1 hK hsg'
        have HSG := Lib.hid hsg'
        have HKC := Lib.hid hkC
        have f1 : IntKind.i64.wrap (((m + 1 : Nat) : Int) - 1) = (m : Int) := by rw [i64_small (by omega) (by omega)]; omega
        have f1' : IntKind.i64.wrap ((m : Int) + 1 - 1) = (m : Int) := by rw [i64_small (by omega) (by omega)]; omega
        have f2 : (0 : Int) ≤ (m : Int) := by omega
        have f3 : (m : Int) < (N : Int) := by omega
        have f4 : (0 : Int) ≤ ((m + 1 : Nat) : Int) := by omega
        have f5 : ((m + 1 : Nat) : Int) < (N : Int) := by omega
        have f6 : IntKind.i64.wrap ((iC : Int) + 1) = ((iC + 1 : Nat) : Int) := by rw [i64_small (by omega) (by omega)]; omega
        clear k0 k1 hsg' hiC hkC hcie hcke
        obtain ⟨M, hM⟩ : ∃ M, m + 1 = M := ⟨_, rfl⟩
        rw [hM] at e1 f1 f4 f5 ⊢
        go_wp2_with fail
        go_quiet (fail)
        go_wp2_with fail
        have hoM2 := OwnM.below hoM (bdrewN (Below.refl _ _) nq)
        have hbel2 := bdrewN hbel nq
        generalize wr.drewN nq = wq at hoM2 hbel2 ⊢
        clear hoM hbel e0 e1
        have g6 : IntKind.i64.wrap ((M : Int) + 1) = ((M + 1 : Nat) : Int) := by rw [i64_small (by omega) (by omega)]; omega
        go_loopw [8] (fun i wr => ∃ (q : Nat) (D : DataW Unit), iC < q ∧ q ≤ kC + 1 ∧ i = .int .i64 q ∧ OwnM wr gM q D ∧ Agr D (sideQ p q) ∧ Below w1.heap.size w1 wr) (fun i _ => kC + 1 - (intOf i).toNat)
        case atStart => exact ⟨iC + 1, D, by omega, by omega, by simp, hoM2, hagr, hbel2⟩
        case round =>
          obtain ⟨wE, rfl⟩ : ∃ y : World, y = wr := ⟨_, rfl⟩
          obtain ⟨q, D, hq1, hq2, rfl, hoM, hagr, hbel⟩ := hrel
          clear hoM2 hbel2
          by_cases hq : q ≤ kC
          case neg =>
            obtain rfl : q = kC + 1 := by omega
            have g1 : decide (((kC + 1 : Nat) : Int) ≤ (kC : Int)) = false := decide_eq_false (by omega)
            have g2 : decide ((kC : Int) + 1 ≤ (kC : Int)) = false := decide_eq_false (by omega)
            go_wp2_with fail
            go_roundw
            case rel => exact ⟨M + 1, D, by omega, by omega, by go_num, by rw [show M + 1 - 1 = M by omega, ← hM, HKC.out]; exact hoM, by rw [show M + 1 - 1 = M by omega, ← hM, HKC.out]; exact hagr, hbel⟩
            case measure => (simp [intOf]; omega)
          case pos =>
            have g1 : decide ((q : Int) ≤ (kC : Int)) = true := decide_eq_true (by omega)
            have hside := HSG.out q hq1 hq
            have hA : 0 ≤ (kC : Int) - iC ∧ (kC : Int) - iC ≤ 13 := by omega
            have hE : 0 ≤ (q : Int) - iC ∧ (q : Int) - iC ≤ 13 := by omega
            obtain ⟨b1, b2⟩ := seg_bd hI.2 hK.2 hA hE
            obtain ⟨A, hAe⟩ : ∃ A, (kC : Int) - iC = A := ⟨_, rfl⟩
            obtain ⟨E, hEe⟩ : ∃ E, (q : Int) - iC = E := ⟨_, rfl⟩
            rw [hAe] at hA b1 hside
            rw [hEe] at hE b2 hside
            obtain ⟨C, hCe⟩ : ∃ C, ck - ci = C := ⟨_, rfl⟩
            rw [hCe] at b2 hside
            obtain ⟨B1, hB1⟩ : ∃ t, ci * A = t := ⟨_, rfl⟩
            obtain ⟨B2, hB2⟩ : ∃ t, C * E = t := ⟨_, rfl⟩
            rw [hB1] at b1 hside
            rw [hB2] at b2 hside
            have CLe := fun w => lowest_c (B1 + B2) A w (by omega) (by omega) (by omega)
            obtain ⟨G, hG⟩ : ∃ G, lowF (B1 + B2) A = G := ⟨_, rfl⟩
            rw [hG] at hside CLe
            obtain ⟨T, hT⟩ : ∃ T, B1 + B2 = T := ⟨_, rfl⟩
            rw [hT] at CLe
            have e1 : IntKind.i64.wrap ((kC : Int) - (iC : Int)) = A := by rw [hAe]; exact i64_small (by omega) (by omega)
            have e2 : IntKind.i64.wrap (ci * A) = B1 := by rw [hB1]; exact i64_small (by omega) (by omega)
            have e3 : IntKind.i64.wrap (ck - ci) = C := by rw [hCe]; exact i64_small (by omega) (by omega)
            have e4 : IntKind.i64.wrap ((q : Int) - (iC : Int)) = E := by rw [hEe]; exact i64_small (by omega) (by omega)
            have e5 : IntKind.i64.wrap (C * E) = B2 := by rw [hB2]; exact i64_small (by omega) (by omega)
            have e6 : IntKind.i64.wrap (B1 + B2) = T := by rw [hT]; exact i64_small (by omega) (by omega)
            have e7 : IntKind.i64.wrap ((q : Int) + 1) = ((q + 1 : Nat) : Int) := by rw [i64_small (by omega) (by omega)]; omega
            obtain ⟨X, Y⟩ := G
            unfold frV at CLe
            simp only at CLe
            have CL := Lib.hid CLe
            have HSD := Lib.hid hside
            have d0 := bcell hbel hbp c0
            have d1 := bcell hbel hbp c1
            have hbE : bp < wE.heap.size := Nat.lt_of_lt_of_le hbp hbel.size
            have hneM : bp ≠ gM := by omega
            have hMlt := hoM.lt
            have hbR := Below.refl wE.heap.size wE
            have hpi : (0 : Int) ≤ (iC : Int) := by omega
            have hpi2 : (iC : Int) < (p.length : Int) := by omega
            have hpk : (0 : Int) ≤ (kC : Int) := by omega
            have hpk2 : (kC : Int) < (p.length : Int) := by omega
            have hdm := hoM.isMap
            clear CLe hside hG hT hB1 hB2 hCe hEe hAe b1 b2 hA hE
            go_wp2_with fail
            go_region_held3 (fun w' => w'.cell? ⟨bp, off + iC, none⟩ = some (.int .i64 ci) ∧ w'.cell? ⟨bp, off + kC, none⟩ = some (.int .i64 ck)) (with_reducible repeat' (first | apply And.intro | assumption | apply cell_alloc' | apply cell_drew'))
              (first
              | (go_at_call 63; (with_reducible refine (CL.out _).mono ?_); rintro e W1 ⟨rfl, hwK1⟩; have hbK1 : Below wE.heap.size wE W1 := ball (by with_reducible repeat (first | exact hbR | apply Below.drew | apply bal_alloc)) hwK1; have n0 := bcell hbK1 hbE d0; have n1 := bcell hbK1 hbE d1; have hzK := hbK1.size; obtain ⟨wA, hiA, oA, gA⟩ := ins_ex (OwnM.below hoM hbK1) (by unfold maxLen; omega) q (by omega) ⟨X, Y⟩; have s0 := grown_cell gA (a := ⟨bp, off + iC, none⟩) (by simp; omega) (by simp; omega) n0; have s1 := grown_cell gA (a := ⟨bp, off + kC, none⟩) (by simp; omega) (by simp; omega) n1; have hiA2 : (Instr.mapUpdate 46 (.map (some gM)) (.int .i64 (q : Int)) (.agg #[.int .i64 X, .int .i64 Y])).run Try.prog W1 = .ok () wA := hiA; clear hiA))
            all_goals
              have hbF := grown_below (hbel.trans (hbK1.mono hbel.size)) gA hgM
              go_wp2_with fail
              go_roundw
              case rel => exact ⟨q + 1, _, by omega, by omega, by go_num, oA, agr_step hagr hdm HSD.out, hbF⟩
              case measure => (simp [intOf]; omega)

end Go.Proofs.Ytekhmjhbdoigoaa
