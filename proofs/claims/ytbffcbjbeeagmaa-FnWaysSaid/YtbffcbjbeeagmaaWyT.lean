/-
  The first cheapest way: the reference's. By an AI agent.
-/
import Derived.Test.YtbffcbjbeeagmaaWyS
namespace Go.Proofs.Ytbffcbjbeeagmaa
open Go.RowKit

theorem fst_spec (p : Nat → Bool) : ∀ (f k : Nat), (∃ j, k ≤ j ∧ j < k + f ∧ p j = true) → k ≤ fstN p f k ∧ fstN p f k < k + f ∧ p (fstN p f k) = true ∧ ∀ i, k ≤ i → i < fstN p f k → p i = false
  | 0, k, ⟨j, h1, h2, _⟩ => by omega
  | f + 1, k, ⟨j, h1, h2, h3⟩ => by
    unfold fstN
    by_cases e : p k = true
    · rw [if_pos e]
      exact ⟨Nat.le_refl _, by omega, e, fun i h4 h5 => by omega⟩
    · rw [if_neg e]
      obtain ⟨a1, a2, a3, a4⟩ := fst_spec p f (k + 1) ⟨j, by
        by_cases e2 : j = k
        · subst e2; exact absurd h3 e
        · omega, by omega, h3⟩
      refine ⟨by omega, by omega, a3, fun i h4 h5 => ?_⟩
      by_cases e2 : i = k
      · subst e2; simpa using e
      · exact a4 i (by omega) h5
theorem chK_spec {n : Nat} {m : Nat → Nat → Int} {b s a : Nat} (h : exF n m b (s + 1) a ≠ 1000000000) : chK n m b s a < n ∧ (m a (chK n m b s a) ≠ 1000000000 ∧ prodZ (m a (chK n m b s a)) (exF n m b s (chK n m b s a)) = exF n m b (s + 1) a) ∧ (∀ i, i < chK n m b s a → ¬ (m a i ≠ 1000000000 ∧ prodZ (m a i) (exF n m b s i) = exF n m b (s + 1) a)) ∧ exF n m b s (chK n m b s a) ≠ 1000000000 := by
  obtain ⟨k, h1, h2, h3, h4⟩ := ex_next h
  obtain ⟨_, a2, a3, a4⟩ := fst_spec (fun k => !(m a k == 1000000000) && decide (prodZ (m a k) (exF n m b s k) = exF n m b (s + 1) a)) n 0 ⟨k, Nat.zero_le _, by omega, by simp [h2, h4]⟩
  have a2 : chK n m b s a < n := by unfold chK; omega
  have a3 : m a (chK n m b s a) ≠ 1000000000 ∧ prodZ (m a (chK n m b s a)) (exF n m b s (chK n m b s a)) = exF n m b (s + 1) a := by
    have : (!(m a (chK n m b s a) == 1000000000) && decide (prodZ (m a (chK n m b s a)) (exF n m b s (chK n m b s a)) = exF n m b (s + 1) a)) = true := a3
    simpa using this
  refine ⟨a2, a3, fun i hi hc => ?_, ?_⟩
  · have := a4 i (Nat.zero_le _) hi
    simp [hc.1, hc.2] at this
  · rw [← a3.2] at h
    exact (prodZ_ne h).2.1
theorem chS_spec {n : Nat} {m : Nat → Nat → Int} {a b : Nat} (h : ∃ s, s < n ∧ exF n m b s a = bf n m n a b) : chS n m a b < n ∧ exF n m b (chS n m a b) a = bf n m n a b ∧ ∀ i, i < chS n m a b → exF n m b i a ≠ bf n m n a b := by
  obtain ⟨s, h1, h2⟩ := h
  obtain ⟨_, a2, a3, a4⟩ := fst_spec (fun s => decide (exF n m b s a = bf n m n a b)) n 0 ⟨s, Nat.zero_le _, by omega, by simp [h2]⟩
  refine ⟨by unfold chS; omega, of_decide_eq_true a3, fun i hi => of_decide_eq_false (a4 i (Nat.zero_le _) hi)⟩
theorem rowI_single (u : World) (B H : Nat) (x : Int) (hB : B ≤ u.heap.size) (hH : u.heap.size = H) : RowI (u.alloc (.cells #[.int .i64 x] 3)) B (.slice (some ⟨H, 0, none⟩) 1 1) [x] := by
  subst hH
  exact ⟨by simp [ints], .inr ⟨u.heap.size, 1, #[.int .i64 x], rfl, hB, heap_alloc_new u _, Nat.le_refl _, by unfold maxLen; omega, rfl, by simp [ints]⟩⟩

/-- the part behind the checks. -/
def chR (n : Nat) (m : Nat → Nat → Int) (a b : Nat) : Prop := (∃ s, s < n ∧ exF n m b s a = bf n m n a b) ∧ bf n m n a b ≠ 1000000000

set_option maxHeartbeats 6400000 in
set_option maxRecDepth 100000 in
theorem sCheapest_c (ad : Option Addr) (cap : Nat) (M : List (List Int)) (f t : Int) (w : World) (hr : RdM w ad M) (hl : smM M) :
    Calls Try.prog 10 #[.slice ad M.length cap, .int .i64 f, .int .i64 t] w (LisR (chB M f t) (chX M f t) w) := by
  have C1 := Lib.hid (mxSquare_c ad cap M w hr (by have := hl.1; omega) (fun i hi => by have := hl.2 i hi; omega))
  have C2 := Lib.hid (fun w => l1In_any f 0 ((M.length : Int) - 1) w)
  have C3 := Lib.hid (fun w => l1In_any t 0 ((M.length : Int) - 1) w)
  obtain ⟨N1, hN1⟩ : ∃ N1, (M.length : Int) - 1 = N1 := ⟨_, rfl⟩
  have e0 : IntKind.i64.wrap ((M.length : Int) - 1) = N1 := by rw [i64_small (by have := hl.1; omega) (by have := hl.1; omega)]; exact hN1
  have C4 := Lib.hid (fun (hs : sqB M = true) u (hb : Below w.heap.size w u) => wyCosts2_c ad cap M u (hr.below hb) hs)
  have C5 := Lib.hid (fun (hs : sqB M = true) (b : Nat) (hb : b < M.length) u (hbe : Below w.heap.size w u) => by
    have h2 := hr.below hbe
    rw [← sq_toM hs] at h2
    exact wyExact_c M.length b ad cap (entM M) u h2 (sq_facts hs).1 hb (sq_facts hs).2.2)
  have HSQ := Lib.hid (fun (h : sqB M = true) => (sq_facts h).1)
  have HRD := Lib.hid (fun (h : sqB M = true) => (show RdM w ad (toM M.length (entM M)) by rw [sq_toM h]; exact hr))
  have HNUM := Lib.hid (fun (h : sqB M = true) => (show ∀ a b, a < M.length → b < M.length → numB (entM M a b) = true from (sq_facts h).2.2))
  have HME := Lib.hid (fun (h : sqB M = true) (hk : okW M = true) a b (ha : a < M.length) (hb : b < M.length) (hne : bf M.length (entM M) M.length a b ≠ 1000000000) => by
    obtain ⟨h1, _, h2⟩ := sq_facts h
    have h3 : okB M.length (entM M) = true := by unfold okW at hk; rw [h, Bool.true_and] at hk; exact hk
    exact (show ∃ s, s < M.length ∧ exF M.length (entM M) b s a = bf M.length (entM M) M.length a b from ex_meet (m := entM M) h2 h1.2 (okB_t.1 h3) ha hb hne))
  have HBX := Lib.hid (fun (h : sqB M = true) (b : Nat) (hb : b < M.length) s v (hv : v < M.length) => (show exF M.length (entM M) b s v = 1000000000 ∨ (-(1000000 * (s : Int)) ≤ exF M.length (entM M) b s v ∧ exF M.length (entM M) b s v ≤ 1000000 * (s : Int)) from ex_bd (m := entM M) (sq_facts h).2.2 hb (s := s) hv))
  have hdis : disM M = toM M.length (bf M.length (entM M) M.length) := rfl
  have hin : ∀ x : Int, inB x 0 ((M.length : Int) - 1) = true → ∃ a : Nat, x = (a : Int) ∧ a < M.length := fun x h => by have := inB_t.1 h; exact ⟨x.toNat, by omega, by omega⟩
  have hnb := hl.1
  unfold chB chX
  rw [hdis] at C4
  rw [hN1] at C2 C3 hin ⊢
  clear hN1 hr hl hdis
  have HIN1 := Lib.hid (hin f)
  have HIN2 := Lib.hid (hin t)
  clear hin
  generalize inB f 0 N1 = F1 at C2 HIN1 ⊢
  generalize inB t 0 N1 = T1 at C3 HIN2 ⊢
  generalize okW M = K at C4 HME ⊢
  generalize sqB M = S at C1 C4 C5 HSQ HRD HNUM HME HBX ⊢
  generalize entM M = m at C4 C5 HRD HNUM HME HBX ⊢
  generalize M.length = n at C1 C4 C5 HSQ HRD HNUM HME HBX HIN1 HIN2 e0 hnb ⊢
  cases S
  · clear C2 C3 C4 C5 HSQ HRD HNUM HME HBX
    go_enter Try.func10, Try.ntmps10
    go_wp2_with fail
    refine C1.out.mono ?_
    rintro e w1 ⟨rfl, rfl⟩
    go_wp2_with fail
    exact bodyPost_ret (v := .tuple #[.slice none 0 0, .bool false]) (by simp [results, Try.results10, go_sem]) rfl (LisR.no _ (Below.refl _ _))
  · rw [Bool.true_and]
    cases F1
    · clear C3 C4 C5 HSQ HRD HNUM HME HBX
      go_enter Try.func10, Try.ntmps10
      go_wp2_with fail
      refine C1.out.mono ?_
      rintro e w1 ⟨rfl, rfl⟩
      go_wp2_with fail
      refine (C2.out _).mono ?_
      rintro e w1 ⟨rfl, rfl⟩
      go_wp2_with fail
      exact bodyPost_ret (v := .tuple #[.slice none 0 0, .bool false]) (by simp [results, Try.results10, go_sem]) rfl (LisR.no _ (Below.refl _ _))
    · rw [Bool.true_and]
      cases T1
      · clear C4 C5 HSQ HRD HNUM HME HBX
        go_enter Try.func10, Try.ntmps10
        go_wp2_with fail
        refine C1.out.mono ?_
        rintro e w1 ⟨rfl, rfl⟩
        go_wp2_with fail
        refine (C2.out _).mono ?_
        rintro e w1 ⟨rfl, rfl⟩
        go_wp2_with fail
        refine (C3.out _).mono ?_
        rintro e w1 ⟨rfl, rfl⟩
        go_wp2_with fail
        exact bodyPost_ret (v := .tuple #[.slice none 0 0, .bool false]) (by simp [results, Try.results10, go_sem]) rfl (LisR.no _ (Below.refl _ _))
      · rw [Bool.true_and]
        obtain ⟨a, rfl, han⟩ := HIN1.out rfl
        obtain ⟨b, rfl, hbn⟩ := HIN2.out rfl
        rw [Int.toNat_natCast, Int.toNat_natCast]
        have D4 := Lib.hid (C4.out rfl w (Below.refl _ _))
        have D5 := Lib.hid (C5.out rfl b hbn)
        have hn := HSQ.out rfl
        have HR := Lib.hid (HRD.out rfl)
        have HN2 := Lib.hid (HNUM.out rfl)
        have HM2 := Lib.hid (HME.out rfl)
        have HB2 := Lib.hid (HBX.out rfl b hbn)
        clear C4 C5 HSQ HRD HNUM HME HBX HIN1 HIN2
        cases K
        · go_enter Try.func10, Try.ntmps10
          go_wp2_with fail
          refine C1.out.mono ?_
          rintro e w1 ⟨rfl, rfl⟩
          go_wp2_with fail
          refine (C2.out _).mono ?_
          rintro e w1 ⟨rfl, rfl⟩
          go_wp2_with fail
          refine (C3.out _).mono ?_
          rintro e w1 ⟨rfl, rfl⟩
          go_wp2_with fail
          refine D4.out.mono ?_
          rintro e w4 ⟨av, cv, rfl, _, hb4⟩
          go_wp2_with fail
          exact bodyPost_ret (v := .tuple #[.slice none 0 0, .bool false]) (by simp [results, Try.results10, go_sem]) rfl (LisR.no _ hb4)
        · rw [Bool.true_and]
          have x1 : (0 : Int) ≤ (a : Int) := by omega
          have x2 : (a : Int) < (n : Int) := by omega
          have x3 : (0 : Int) ≤ (b : Int) := by omega
          have x4 : (b : Int) < (n : Int) := by omega
          by_cases hD : bf n m n a b = 1000000000
          · rw [hD]
            have HD := Lib.hid hD
            clear hD
            go_enter Try.func10, Try.ntmps10
            go_wp2_with fail
            refine C1.out.mono ?_
            rintro e w1 ⟨rfl, rfl⟩
            go_wp2_with fail
            refine (C2.out _).mono ?_
            rintro e w1 ⟨rfl, rfl⟩
            go_wp2_with fail
            refine (C3.out _).mono ?_
            rintro e w1 ⟨rfl, rfl⟩
            go_wp2_with fail
            refine D4.out.mono ?_
            rintro e w4 ⟨av, cv, rfl, ⟨vs, hm⟩, hb4⟩
            obtain ⟨bM, oM, rfl, hbM, hrow⟩ := hm.rd.rowF (by omega)
            obtain ⟨b2, o2, c2, e2, hl2, hc2⟩ := hrow a han
            have k1 := hc2 b hbn
            rw [HD.out] at k1
            clear hrow hc2 hm
            go_wp2_with fail
            exact bodyPost_ret (v := .tuple #[.slice none 0 0, .bool false]) (by simp [results, Try.results10, go_sem]) rfl (LisR.no _ hb4)
          · obtain ⟨hSn, hSe, hSf⟩ := chS_spec (HM2.out rfl a b han hbn hD)
            have gd : decide (bf n m n a b = 1000000000) = false := decide_eq_false hD
            rw [gd, Bool.not_false]
            have gd2 : (bf n m n a b == 1000000000) = false := beq_eq_false_iff_ne.2 hD
            have hcl : chL n m a b = [(a : Int)] ++ chP n m b (chS n m a b) a := rfl
            have hcn : (chL n m a b).length = chS n m a b + 1 := by rw [hcl, List.length_append, chP_len]; simp; omega
            generalize chL n m a b = CL at hcl hcn ⊢
            generalize chS n m a b = SS at hSn hSe hSf hcl hcn
            have HCL := Lib.hid hcl; have HCN := Lib.hid hcn; have HSE := Lib.hid hSe; have HSF := Lib.hid hSf; have HDN := Lib.hid hD
            clear hcl hcn hSe hSf hD gd
            obtain ⟨DV, hDV⟩ : ∃ DV, bf n m n a b = DV := ⟨_, rfl⟩
            rw [hDV] at gd2 HSE HSF HDN
            have HDV := Lib.hid hDV
            clear hDV HM2
            go_enter Try.func10, Try.ntmps10
            go_wp2_with fail
            refine C1.out.mono ?_
            rintro e w1 ⟨rfl, rfl⟩
            go_wp2_with fail
            refine (C2.out _).mono ?_
            rintro e w1 ⟨rfl, rfl⟩
            go_wp2_with fail
            refine (C3.out _).mono ?_
            rintro e w1 ⟨rfl, rfl⟩
            go_wp2_with fail
            refine D4.out.mono ?_
            rintro e w4 ⟨av, cv, rfl, ⟨vs, hm⟩, hb4⟩
            obtain ⟨bD, oD, rfl, hbD, hrowD⟩ := hm.rd.rowF (by omega)
            obtain ⟨b2, o2, c2, eD, hlD, hcD⟩ := hrowD a han
            have kD := hcD b hbn
            rw [HDV.out] at kD
            clear hrowD hcD hm D4 C1 C2 C3
            go_wp2_with fail
            refine (D5.out _ hb4).mono ?_
            rintro e w5 ⟨adx, capx, rfl, hrx, hb5⟩
            obtain ⟨bX, oX, rfl, hbX, hrowX⟩ := hrx.rowG (by omega) (by omega)
            have HX := Lib.hid hrowX
            have hb6 := ball hb4 hb5
            have eD := bcell hb5 hbD eD
            have kD := bcell hb5 hlD kD
            have hbD := Nat.lt_of_lt_of_le hbD hb5.size
            have hlD := Nat.lt_of_lt_of_le hlD hb5.size
            clear hrowX hrx D5 hb5 hb4
            go_wp2_with fail
            go_loopw [11] (fun i wr => ∃ s : Nat, s ≤ SS ∧ i = .int .i64 s ∧ Below w5.heap.size w5 wr) (fun i _ => SS - (intOf i).toNat)
            case atStart => exact ⟨0, Nat.zero_le _, rfl, Below.refl _ _⟩
            case round =>
              obtain ⟨wE, rfl⟩ : ∃ x : World, x = wr := ⟨_, rfl⟩
              obtain ⟨s, hs, rfl, hbel⟩ := hrel
              obtain ⟨b3, o3, c3, e3, hl3, hc3⟩ := HX.out s (by omega)
              have e3 := bcell hbel hbX e3
              have k3 := bcell hbel hl3 (hc3 a han)
              have eD1 := bcell hbel hbD eD
              have kD1 := bcell hbel hlD kD
              have x5 : (0 : Int) ≤ (s : Int) := by omega
              have x6 : (s : Int) < (n : Int) := by omega
              clear hc3
              by_cases hls : s < SS
              case pos =>
                have hne := HSF.out s hls
                generalize exF n m b s a = X at k3 hne
                have g1 : (X != DV) = true := bne_iff_ne.2 hne
                clear hne eD kD
                go_wp2_with fail
                go_quiet (fail)
                go_wp2_with fail
                go_roundw
                case rel => exact ⟨s + 1, by omega, by go_num, bdrewN hbel _⟩
                case measure => simp [intOf]; omega
              case neg =>
                obtain ⟨s0, hs0⟩ : ∃ x, x = SS := ⟨_, rfl⟩
                obtain rfl : s = SS := by omega
                subst hs0
                rw [HSE.out] at k3
                have g1 : (DV != DV) = false := bne_self_eq_false _
                clear eD kD
                go_wp2_with fail
                go_quiet (fail)
                go_wp2_with fail
                go_loopw [11, 12, 13] (fun i v u wr => ∃ (s a' : Nat) (l : List Int), i = .int .i64 s ∧ u = .int .i64 a' ∧ RowI wr w5.heap.size v l ∧ l ++ chP n m b s a' = CL ∧ a' < n ∧ s ≤ s0 ∧ exF n m b s a' ≠ 1000000000 ∧ Below w5.heap.size w5 wr) (fun i _ _ _ => (intOf i).toNat)
                case atStart => exact ⟨s0, a, [(a : Int)], rfl, rfl, rowI_single _ _ _ _ (bdrewN hbel _).size rfl, HCL.out.symm, han, Nat.le_refl _, (by rw [HSE.out]; exact HDN.out), (bdrewN hbel _).alloc (bdrewN hbel _).size _⟩
                case round =>
                  obtain ⟨wF, rfl⟩ : ∃ x : World, x = wr := ⟨_, rfl⟩
                  obtain ⟨s, a', l, rfl, rfl, hrow, hl, ha', hss, hne, hbF⟩ := hrel
                  have hll : l.length + s = s0 + 1 := by rw [← HCN.out, ← hl, List.length_append, chP_len]
                  obtain ⟨adr, car, rfl, hrdr⟩ := hrow.shape
                  have HRD := Lib.hid hrdr; have HO := Lib.hid hrow; have HLL := Lib.hid hl
                  clear hrdr hrow hl k3 kD1 eD1 e3 g1
                  have hsz := hbF.size
                  by_cases h0 : s = 0
                  · subst h0
                    have hcl2 : l = CL := by have := HLL.out; unfold chP at this; rw [List.append_nil] at this; exact this
                    subst hcl2
                    go_wp2_with fail
                    exact bodyPost_ret (v := .tuple #[.slice adr l.length car, .bool true]) (by simp [results, Try.results10, go_sem]) rfl (LisR.yes HRD.out rfl (ball hb6 hbF))
                  · obtain ⟨t, ht⟩ : ∃ t, s = t + 1 := ⟨s - 1, by omega⟩
                    obtain ⟨hK1, hK2, hK3, hK4⟩ := chK_spec (show exF n m b (t + 1) a' ≠ 1000000000 by rw [← ht]; exact hne)
                    have HNX := Lib.hid (show chP n m b s a' = (chK n m b t a' : Int) :: chP n m b t (chK n m b t a') by rw [ht]; rfl)
                    generalize chK n m b t a' = KK at hK1 hK2 hK3 hK4 HNX
                    rw [← ht] at hK2 hK3
                    have HK2 := Lib.hid hK2; have HK3 := Lib.hid hK3; have HK4 := Lib.hid hK4
                    have HT := Lib.hid ht
                    have e1 : IntKind.i64.wrap ((s : Int) - 1) = (t : Int) := by rw [i64_small (by omega) (by omega)]; omega
                    have g0 : decide ((0 : Int) < (s : Int)) = true := decide_eq_true (by omega)
                    have y1 : (0 : Int) ≤ (s : Int) := by omega
                    have y2 : (s : Int) < (n : Int) := by omega
                    have y3 : (0 : Int) ≤ (t : Int) := by omega
                    have y4 : (t : Int) < (n : Int) := by omega
                    have y5 : (0 : Int) ≤ (a' : Int) := by omega
                    have y6 : (a' : Int) < (n : Int) := by omega
                    have hsn : s < n := by omega
                    have htn : t < n := by omega
                    have hts : t < s := by omega
                    have hl6 : l.length ≤ 100 := by omega
                    clear hK2 hK3 hK4 ht hne
                    go_wp2_with fail
                    go_loopw [14] (fun i wr => ∃ k : Nat, k ≤ KK ∧ i = .int .i64 k ∧ Below wF.heap.size wF wr) (fun i _ => KK - (intOf i).toNat)
                    case atStart => exact ⟨0, Nat.zero_le _, rfl, Below.refl _ _⟩
                    case round =>
                      obtain ⟨wJ, rfl⟩ : ∃ x : World, x = wr := ⟨_, rfl⟩
                      obtain ⟨k, hk, rfl, hbj⟩ := hrel
                      have hkn : k < n := by omega
                      have hb7 := ball hbF hbj
                      have hb8 := ball hb6 hb7
                      obtain ⟨bM, oM, rfl, hbM, hrow⟩ := HR.out.rowF (by omega)
                      obtain ⟨b4, o4, c4, e4, hl4, hc4⟩ := hrow a' ha'
                      have e4 := bcell hb8 hbM e4
                      have k4 := bcell hb8 hl4 (hc4 k hkn)
                      obtain ⟨b5, o5, c5, e5, hl5, hc5⟩ := HX.out t htn
                      have e5 := bcell hb7 hbX e5
                      have k5 := bcell hb7 hl5 (hc5 k hkn)
                      obtain ⟨b7, o7, c7, e7, hl7, hc7⟩ := HX.out s hsn
                      have e7 := bcell hb7 hbX e7
                      have k7 := bcell hb7 hl7 (hc7 a' ha')
                      have hm := numB_t (HN2.out a' k ha' hkn)
                      have hbd := HB2.out t k hkn
                      have x7 : (0 : Int) ≤ (k : Int) := by omega
                      have x8 : (k : Int) < (n : Int) := by omega
                      clear hrow hc4 hc5 hc7
                      by_cases hlk : k < KK
                      case pos =>
                        have hcond := HK3.out k hlk
                        generalize m a' k = C at k4 hm hcond
                        generalize exF n m b t k = D at k5 hbd hcond
                        generalize exF n m b s a' = X at k7 hcond
                        by_cases hC : C = 1000000000
                        · subst hC
                          clear hcond hm hbd
                          go_wp2_with fail
                          go_quiet (fail)
                          go_wp2_with fail
                          go_roundw
                          case rel => exact ⟨k + 1, by omega, by go_num, bdrewN hbj _⟩
                          case measure => simp [intOf]; omega
                        · have hPX : prodZ C D ≠ X := fun h => hcond ⟨hC, h⟩
                          have CP := Lib.hid (fun w => nuPlus_c C D w (by omega))
                          have g3 : (C == 1000000000) = false := beq_eq_false_iff_ne.2 hC
                          generalize prodZ C D = P at CP hPX
                          have g4 : (P != X) = true := bne_iff_ne.2 hPX
                          clear hcond hm hbd hC hPX
                          go_wp2_with fail
                          go_quiet ((go_at_call 48; exact Calls.quiet_of_same ((CP.out _).mono (fun e w' h => ⟨h.1, h.2.symm⟩))))
                          go_wp2_with fail
                          go_roundw
                          case rel => exact ⟨k + 1, by omega, by go_num, bdrewN hbj _⟩
                          case measure => simp [intOf]; omega
                      case neg =>
                        obtain rfl : k = KK := by omega
                        obtain ⟨hC, hPX⟩ := HK2.out
                        generalize m a' k = C at k4 hm hC hPX
                        generalize exF n m b t k = D at k5 hbd hPX
                        generalize exF n m b s a' = X at k7 hPX
                        have CP := Lib.hid (fun w => nuPlus_c C D w (by omega))
                        have g3 : (C == 1000000000) = false := beq_eq_false_iff_ne.2 hC
                        generalize prodZ C D = P at CP hPX
                        have g4 : (P != X) = false := by rw [hPX]; exact bne_self_eq_false _
                        clear hm hbd hC hPX
                        have HO2 := Lib.hid (HO.out.below ((hbj.mono (Nat.le_refl _))))
                        go_wp2_with fail
                        go_quiet ((go_at_call 48; exact Calls.quiet_of_same ((CP.out _).mono (fun e w' h => ⟨h.1, h.2.symm⟩))))
                        have hbq := fun j => bdrewN hb7 j
                        have HO3 := Lib.hid (fun j => HO2.out.below (bdrewN (Below.refl _ _) j))
                        go_wp2_with (at_builtin; refine wpList_appN rfl _ _ rfl w5.heap.size _ 0 1 _ l [(k : Int)] (l.length + 1) rfl rfl rfl (RowI.alloc' (HO3.out _)) (rdI_one _ _ _ rfl) (by omega) (by simp) (by have := (hbq 1).size; simp at this ⊢; omega) ?_; intro v5 wm hown hsh hbm hgr)
                        have hb9 := (bal_alloc (o := .cells #[.int .i64 (k : Int)] 3) (hbq _)).trans hbm
                        have HO5 := Lib.hid hown
                        have hlx : (l ++ [(k : Int)]) ++ chP n m b t k = CL := by rw [← HLL.out, HNX.out, List.append_assoc]; rfl
                        have HLX := Lib.hid hlx
                        clear hown hsh hgr hbm hlx
                        go_wp2_with fail
                        go_roundw
                        case rel => exact ⟨t, k, l ++ [(k : Int)], by go_num, rfl, HO5.out, HLX.out, hkn, by omega, HK4.out, hb9⟩
                        case measure => simp [intOf]; omega
end Go.Proofs.Ytbffcbjbeeagmaa
