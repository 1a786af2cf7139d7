/-
  Plane polynomials: the product of the reference. By an AI agent.
-/
import Derived.Test.YtbafgmicpopnoaaGreatDoorPlJ
namespace Go.Proofs.YtbafgmicpopnoaaGreatDoor
open Go.RowKit

theorem prd_take {a b : List Tm} {k m : Nat} (hm : m < b.length) :
    prdL (a.take k) b ++ (b.take (m + 1)).map (addT (a.getD k default)) = (prdL (a.take k) b ++ (b.take m).map (addT (a.getD k default))) ++ [addT (a.getD k default) (b.getD m default)] := by
  rw [take_snocT b m hm, List.map_append, List.map_cons, List.map_nil, List.append_assoc]
theorem prd_end {a b : List Tm} {k : Nat} (hk : k < a.length) : prdL (a.take (k + 1)) b = prdL (a.take k) b ++ b.map (addT (a.getD k default)) := by
  rw [take_snocT a k hk, prdL_snoc]
theorem term_getD {l : List Tm} (h : ∀ t ∈ l, termB t = true) {k : Nat} (hk : k < l.length) : (0 ≤ (l.getD k default).i ∧ (l.getD k default).i ≤ 6) ∧ (0 ≤ (l.getD k default).j ∧ (l.getD k default).j ≤ 6 - (l.getD k default).i) ∧ (-1000000 ≤ (l.getD k default).c ∧ (l.getD k default).c ≤ 1000000) := termB_t (h _ (getD_memT hk))
theorem prd_size {a b : List Tm} (ha : a.length ≤ 12) (hb : b.length ≤ 12) (k m : Nat) (t : Tm) : (prdL (a.take k) b ++ (b.take m).map (addT t)).length ≤ 156 := by
  rw [List.length_append, prdL_len, List.length_map, List.length_take, List.length_take]
  have := mul_le12 (m := min k a.length) (n := b.length) (by omega) hb
  omega

set_option maxHeartbeats 3200000 in
set_option maxRecDepth 100000 in
theorem plProduct_c (ad ad2 : Option Addr) (cap cap2 : Nat) (a b : List Tm) (w : World) (hr : RdT w ad a) (hr2 : RdT w ad2 b) (hpa : planeB a = true) (hpb : planeB b = true) :
    Calls Tryz.prog 30 #[.slice ad a.length cap, .slice ad2 b.length cap2] w fun e w' => ∃ v, e = .returned v ∧ RowT w' w.heap.size v (gth (prdL a b)) ∧ Below w.heap.size w w' := by
  have HR := Lib.hid hr; have HR2 := Lib.hid hr2; clear hr hr2
  have ha := plane_len hpa
  have hb := plane_len hpb
  have HTA := Lib.hid (fun k (h : k < a.length) => term_getD (plane_term hpa) h)
  have HTB := Lib.hid (fun k (h : k < b.length) => term_getD (plane_term hpb) h)
  have HSZ := Lib.hid (fun k m t => prd_size (a := a) (b := b) ha.2 hb.2 k m t)
  clear hpa hpb
  go_enter Tryz.func30, Tryz.ntmps30
  go_wp2_with fail
  go_loopw [5, 12] (fun v i wr => ∃ k : Nat, k ≤ a.length ∧ i = .int .i64 k ∧ RowT wr w.heap.size v (gth (prdL (a.take k) b)) ∧ Below w.heap.size w wr) (fun _ i _ => a.length - (intOf i).toNat)
  case atStart => exact ⟨0, Nat.zero_le _, rfl, RowT.nil _ _, Below.refl _ _⟩
  case round =>
    obtain ⟨wE, rfl⟩ : ∃ x : World, x = wr := ⟨_, rfl⟩
    obtain ⟨k, hk, rfl, hrow, hbel⟩ := hrel
    by_cases hlt : k < a.length
    case neg =>
      obtain rfl : k = a.length := by omega
      rw [List.take_length] at hrow
      have HRW := Lib.hid hrow; clear hrow
      go_wp2_with fail
      go_ret
      exact ⟨_, rfl, HRW.out, hbel⟩
    case pos =>
      have hpe := prd_end (b := b) hlt
      have hps := fun m (h : m < b.length) => prd_take (a := a) (k := k) h
      have hta := HTA.out k hlt
      obtain ⟨c, off, rfl, hc, c0, c1, c2⟩ := HR.out k hlt
      have d0 := bcell hbel hc c0
      have d1 := bcell hbel hc c1
      have d2 := bcell hbel hc c2
      have hcE : c < wE.heap.size := Nat.lt_of_lt_of_le hc hbel.size
      generalize a.getD k default = S at d0 d1 d2 hpe hps hta
      obtain ⟨si, sj, sc⟩ := S
      have HPE := Lib.hid hpe; have HPS := Lib.hid hps
      clear hpe hps c0 c1 c2
      obtain ⟨wB, hwB⟩ : ∃ x : World, wE.alloc (.cells #[.int .i64 si, .int .i64 sj, .int .i64 sc] 43) = x := ⟨_, rfl⟩
      have hEB : Below wE.heap.size wE wB := by rw [← hwB]; exact (Below.refl _ _).alloc (Nat.le_refl _) _
      have oB : TmO wB wE.heap.size ⟨si, sj, sc⟩ := by rw [← hwB]; exact TmO.new wE si sj sc rfl
      have hbB := ball hbel hEB
      have hszB := hbB.size
      obtain ⟨gB, hgB⟩ : ∃ g, wE.heap.size = g := ⟨_, rfl⟩
      have bl : wE.heap.size < wB.heap.size := Own.lt oB
      have HRW := Lib.hid (hrow.below hEB)
      have y1 : (0 : Int) ≤ (k : Int) := by omega
      have y2 : (k : Int) < (a.length : Int) := by omega
      clear hrow
      go_wp2_with fail
      try rw [hwB]
      rw [hgB] at oB bl
      try rw [hgB]
      clear hwB hEB
      clear d0 d1 d2
      go_loopw [5, 18] (fun v i wr => ∃ m : Nat, m ≤ b.length ∧ i = .int .i64 m ∧ RowT wr w.heap.size v (gth (prdL (a.take k) b ++ (b.take m).map (addT ⟨si, sj, sc⟩))) ∧ Below wB.heap.size wB wr) (fun _ i _ => b.length - (intOf i).toNat)
      case atStart => exact ⟨0, Nat.zero_le _, rfl, by rw [List.take_zero, List.map_nil, List.append_nil]; exact HRW.out, Below.refl _ _⟩
      case round =>
        obtain ⟨wF, rfl⟩ : ∃ x : World, x = wr := ⟨_, rfl⟩
        obtain ⟨m, hm, rfl, hrow, hbF⟩ := hrel
        have hbwF := ball hbB hbF
        by_cases hlm : m < b.length
        case neg =>
          obtain rfl : m = b.length := by omega
          rw [List.take_length, ← HPE.out] at hrow
          have HRW := Lib.hid hrow; clear hrow
          go_wp2_with fail
          go_roundw
          case rel => exact ⟨k + 1, by omega, by go_num, HRW.out, hbwF⟩
          case measure => simp [intOf]; omega
        case pos =>
          obtain ⟨adv, cv, rfl, hst, hrd⟩ := hrow.full
          have hle := Nat.le_trans (gth_len _) (HSZ.out k m ⟨si, sj, sc⟩)
          have hstep := HPS.out m hlm
          have htb := HTB.out m hlm
          obtain ⟨c', off', rfl, hc', c0, c1, c2⟩ := HR2.out m hlm
          have d0 := bcell hbwF hc' c0
          have d1 := bcell hbwF hc' c1
          have d2 := bcell hbwF hc' c2
          have hcF : c' < wF.heap.size := Nat.lt_of_lt_of_le hc' hbwF.size
          obtain ⟨e0, e1, e2⟩ := (oB.below hbF).at
          have lF : gB < wF.heap.size := Nat.lt_of_lt_of_le bl hbF.size
          generalize b.getD m default = T at d0 d1 d2 hstep htb
          obtain ⟨ti, tj, tc⟩ := T
          simp only at hta htb
          have HS := Lib.hid (show gth (prdL (a.take k) b ++ (b.take (m + 1)).map (addT ⟨si, sj, sc⟩)) = putT (gth (prdL (a.take k) b ++ (b.take m).map (addT ⟨si, sj, sc⟩))) ⟨si + ti, sj + tj, sc + tc⟩ by rw [hstep, gth_snoc]; rfl)
          clear hstep c0 c1 c2 hrow
          generalize gth (prdL (a.take k) b ++ (b.take m).map (addT ⟨si, sj, sc⟩)) = G at hst hrd HS hle ⊢
          have C := fun (w' : World) (h : Below wF.heap.size wF w') => plPut_c adv cv G ⟨si + ti, sj + tj, sc + tc⟩ w' (hrd.below h) hst (by omega)
          unfold tmV at C
          have C := Lib.hid C
          have x1 : (0 : Int) ≤ (m : Int) := by omega
          have x2 : (m : Int) < (b.length : Int) := by omega
          have w1 : IntKind.i64.wrap (si + ti) = si + ti := i64_small (by omega) (by omega)
          have w2 : IntKind.i64.wrap (sj + tj) = sj + tj := i64_small (by omega) (by omega)
          have w3 : IntKind.i64.wrap (sc + tc) = sc + tc := i64_small (by omega) (by omega)
          clear hst hrd
          go_wp2_with fail
          clear w1 w2 w3
          refine (C.out _ ((Below.refl _ _).alloc (Nat.le_refl _) _)).mono ?_
          rintro e w3 ⟨v3, rfl, hrow3, hb3⟩
          have hba := bal_alloc (o := .cells #[.int .i64 ti, .int .i64 tj, .int .i64 tc] 43) hbF
          have HRW3 := Lib.hid (hrow3.mono (Nat.le_trans hszB hba.size))
          have hb4 := ball hba hb3
          clear hrow3
          go_wp2_with fail
          go_roundw
          case rel => exact ⟨m + 1, by omega, by go_num, by rw [HS.out]; exact HRW3.out, hb4⟩
          case measure => simp [intOf]; omega

set_option maxHeartbeats 1600000 in
set_option maxRecDepth 100000 in
theorem sPlaneProduct_c (ad ad2 : Option Addr) (cap cap2 : Nat) (a b : List Tm) (w : World) (hr : RdT w ad a) (hr2 : RdT w ad2 b) (hla : a.length ≤ 1048576) (hlb : b.length ≤ 1048576) :
    Calls Tryz.prog 7 #[.slice ad a.length cap, .slice ad2 b.length cap2] w (PlnR w (if prdOk a b = true then gth (prdL a b) else []) (prdOk a b)) := by
  have c1 := plGood_c ad cap a w hr hla
  have c2 := fun (u : World) (h : Below w.heap.size w u) => plGood_c ad2 cap2 b u (hr2.below h) hlb
  have HR := Lib.hid hr; have HR2 := Lib.hid hr2; clear hr hr2
  obtain ⟨u, hu⟩ : ∃ u, planeB a = u := ⟨_, rfl⟩
  obtain ⟨v, hv⟩ : ∃ v, planeB b = v := ⟨_, rfl⟩
  unfold prdOk
  rw [hu] at c1
  rw [hv] at c2
  rw [hu, hv]
  have C1 := Lib.hid c1; have C2 := Lib.hid c2; clear c1 c2
  cases u
  case false =>
    simp only [Bool.false_and, Bool.false_eq_true, if_false]
    clear hu hv
    go_enter Tryz.func7, Tryz.ntmps7
    go_wp2_with fail
    refine C1.out.mono ?_
    rintro e w1 ⟨rfl, hw1⟩
    go_wp2_with fail
    go_ret2
    exact pln_no hw1
  case true =>
    cases v
    case false =>
      simp only [Bool.false_and, Bool.and_false, Bool.false_eq_true, if_false]
      clear hu hv
      go_enter Tryz.func7, Tryz.ntmps7
      go_wp2_with fail
      refine C1.out.mono ?_
      rintro e w1 ⟨rfl, hw1⟩
      have HB1 := Lib.hid hw1
      go_wp2_with fail
      refine (C2.out _ HB1.out).mono ?_
      rintro e w2 ⟨rfl, hw2⟩
      go_wp2_with fail
      go_ret2
      exact pln_no (ball hw1 hw2)
    case true =>
      simp only [Bool.true_and]
      have ha := (plane_len hu)
      have hb := (plane_len hv)
      have HPC := Lib.hid (fun (w2 : World) (h : Below w.heap.size w w2) => plProduct_c ad ad2 cap cap2 a b w2 (HR.out.below h) (HR2.out.below h) hu hv)
      have hle := Nat.le_trans (gth_len (prdL a b)) (Nat.le_of_eq (prdL_len a b))
      have := mul_le12 ha.2 hb.2
      clear hu hv
      obtain ⟨pg, hpg⟩ : ∃ x, planeB (gth (prdL a b)) = x := ⟨_, rfl⟩
      obtain ⟨Z, hZ⟩ : ∃ x, (if pg = true then gth (prdL a b) else []) = x := ⟨_, rfl⟩
      rw [hpg, hZ]
      have HPG := Lib.hid hpg; have HZ := Lib.hid hZ; clear hpg hZ
      go_enter Tryz.func7, Tryz.ntmps7
      go_wp2_with fail
      refine C1.out.mono ?_
      rintro e w1 ⟨rfl, hw1⟩
      have HB1 := Lib.hid hw1; clear hw1
      go_wp2_with fail
      refine (C2.out _ HB1.out).mono ?_
      rintro e w2 ⟨rfl, hw2⟩
      have hb2 := ball HB1.out hw2
      have HB2 := Lib.hid hb2
      clear hw2 hb2 C1 C2
      go_wp2_with fail
      refine (HPC.out _ HB2.out).mono ?_
      rintro e w3 ⟨v, rfl, hrow, hb3⟩
      obtain ⟨adv, cv, rfl, hst, hrd⟩ := hrow.full
      have cI := plIf_c adv cv (gth (prdL a b)) w3 hrd (by omega)
      rw [HPG.out, HZ.out] at cI
      have cI := Lib.hid cI
      have hb4 := ball HB2.out hb3
      clear hrow hst hrd
      go_wp2_with fail
      refine cI.out.mono ?_
      rintro e w4 ⟨az, cz, rfl, hrz, hbz⟩
      have HRZ := Lib.hid hrz; clear hrz
      go_wp2_with fail
      go_ret2
      exact ⟨az, cz, rfl, HRZ.out, ball hb4 hbz⟩
end Go.Proofs.YtbafgmicpopnoaaGreatDoor
