/-
  The reference's costs of cheapest ways: a step, all of them. By an AI agent.
-/
import Derived.Test.YtjlkgioinogbkaaWyB
namespace Go.Proofs.Ytjlkgioinogbkaa
open Go.RowKit

theorem RdM.rowF {w : World} {ad : Option Addr} {n : Nat} {F : Nat → Nat → Int} (h : RdM w ad (toM n F)) (hn : 0 < n) : ∃ b off, ad = some ⟨b, off, none⟩ ∧ b < w.heap.size ∧ ∀ i, i < n → ∃ b2 o2 c, w.cell? ⟨b, off + i, none⟩ = some (.slice (some ⟨b2, o2, none⟩) n c) ∧ b2 < w.heap.size ∧ ∀ j, j < n → w.cell? ⟨b2, o2 + j, none⟩ = some (.int .i64 (F i j)) := by
  obtain ⟨b, off, a, c, rfl, hb, _⟩ := h 0 (by rw [toM_len]; exact hn)
  refine ⟨b, off, rfl, hb, fun i hi => ?_⟩
  obtain ⟨a, c, hc, hr⟩ := h.at (i := i) (by rw [toM_len]; exact hi)
  rw [toM_row F hi, tab_length] at hc
  rw [toM_row F hi] at hr
  obtain ⟨b2, o2, rfl, hb2, _⟩ := hr 0 (by rw [tab_length]; exact hn)
  refine ⟨b2, o2, c, hc, hb2, fun j hj => ?_⟩
  have := hr.at (j := j) (by rw [tab_length]; exact hj)
  rwa [tab_getD hj] at this
def stepF (n : Nat) (m C : Nat → Nat → Int) : Nat → Nat → Int := fun i k => mnF (C i k) (fun j => prodZ (C i j) (m j k)) n
theorem bf_step (n : Nat) (m : Nat → Nat → Int) (s : Nat) : bf n m (s + 1) = stepF n m (bf n m s) := by
  funext i k
  rw [bf]
  rfl
theorem bf_zero (n : Nat) (m : Nat → Nat → Int) : bf n m 0 = unF := by
  funext i k
  rw [bf]
  rfl
/-- The step on its way. -/
def stS (n : Nat) (m C : Nat → Nat → Int) (i j k : Nat) : Nat → Nat → Int := fun a b => mnF (C a b) (fun q => prodZ (C a q) (m q b)) (if a < i then n else if a = i then (if b < k then j + 1 else j) else 0)
theorem stS_start (n : Nat) (m C : Nat → Nat → Int) : stS n m C 0 0 0 = C := by
  funext a b
  unfold stS
  rw [if_neg (by omega)]
  split
  · rw [if_neg (by omega)]; rfl
  · rfl
theorem stS_next (n : Nat) (m C : Nat → Nat → Int) (i j k : Nat) : (fun a b => if a = i ∧ b = k then leastZ (stS n m C i j k i k) (prodZ (C i j) (m j k)) else stS n m C i j k a b) = stS n m C i j (k + 1) := by
  funext a b
  by_cases h : a = i ∧ b = k
  · obtain ⟨rfl, rfl⟩ := h
    rw [if_pos ⟨rfl, rfl⟩]
    unfold stS
    have e1 : (if a < a then n else if a = a then (if b < b then j + 1 else j) else 0) = j := by simp
    have e2 : (if a < a then n else if a = a then (if b < b + 1 then j + 1 else j) else 0) = j + 1 := by simp
    rw [e1, e2]
    rfl
  · rw [if_neg h]
    unfold stS
    congr 1
    by_cases h1 : a < i
    · rw [if_pos h1, if_pos h1]
    · rw [if_neg h1, if_neg h1]
      by_cases h2 : a = i
      · rw [if_pos h2, if_pos h2]
        by_cases h3 : b < k
        · rw [if_pos h3, if_pos (by omega)]
        · rw [if_neg h3, if_neg (by omega)]
      · rw [if_neg h2, if_neg h2]
theorem stS_row (n : Nat) (m C : Nat → Nat → Int) (i j : Nat) : toM n (stS n m C i j n) = toM n (stS n m C i (j + 1) 0) := toM_congr fun a b ha hb => by
  unfold stS
  congr 1
  by_cases h1 : a < i
  · rw [if_pos h1, if_pos h1]
  · rw [if_neg h1, if_neg h1]
    by_cases h2 : a = i
    · rw [if_pos h2, if_pos h2, if_pos hb, if_neg (by omega)]
    · rw [if_neg h2, if_neg h2]
theorem stS_col (n : Nat) (m C : Nat → Nat → Int) (i : Nat) : stS n m C i n 0 = stS n m C (i + 1) 0 0 := by
  funext a b
  unfold stS
  congr 1
  by_cases h1 : a < i
  · rw [if_pos h1, if_pos (by omega)]
  · rw [if_neg h1]
    by_cases h2 : a = i
    · rw [if_pos h2, if_neg (by omega), if_pos (by omega)]
    · rw [if_neg h2, if_neg (by omega)]
      split
      · rw [if_neg (by omega)]
      · rfl
theorem stS_end (n : Nat) (m C : Nat → Nat → Int) : toM n (stS n m C n 0 0) = toM n (stepF n m C) := toM_congr fun a b ha hb => by
  unfold stS stepF
  rw [if_pos ha]
theorem mnF_bd {a : Int} {f : Nat → Int} {K : Int} (ha : -K ≤ a ∧ a ≤ K) : ∀ k, (∀ j, j < k → -K ≤ f j ∧ f j ≤ K) → -K ≤ mnF a f k ∧ mnF a f k ≤ K
  | 0, _ => ha
  | k + 1, h => by
    have h1 := mnF_bd ha k (fun j hj => h j (by omega))
    have h2 := h k (by omega)
    unfold mnF leastZ
    split <;> omega

set_option maxHeartbeats 6400000 in
set_option maxRecDepth 100000 in
theorem wyStep_c (n : Nat) (adm : Option Addr) (capm : Nat) (adc : Option Addr) (capc : Nat) (m C : Nat → Nat → Int) (w : World) (hm : RdM w adm (toM n m)) (hc : RdM w adc (toM n C)) (hn : 1 ≤ n ∧ n ≤ 6)
    (hbm : ∀ a b, a < n → b < n → -1000000000 ≤ m a b ∧ m a b ≤ 1000000000) (hbc : ∀ a b, a < n → b < n → -1000000000 ≤ C a b ∧ C a b ≤ 1000000000) :
    Calls Try.prog 75 #[.slice adm n capm, .slice adc n capc] w fun e w' => ∃ v, e = .returned v ∧ (∃ vs, MatO w' w.heap.size v (toM n (stepF n m C)) vs) ∧ Below w.heap.size w w' := by
  have CO := mxOwn_c adc capc (toM n C) w hc (by rw [toM_len]; omega) (fun i hi => by rw [toM_len] at hi; rw [toM_row C hi, tab_length]; omega)
  rw [toM_len] at CO
  have HCO := Lib.hid CO
  have HC := Lib.hid hc; have HMM := Lib.hid hm
  have HBM := Lib.hid hbm; have HBC := Lib.hid hbc
  clear hm hc hbm hbc CO
  go_enter Try.func75, Try.ntmps75
  go_wp2_with fail
  refine HCO.out.mono ?_
  rintro e w1 ⟨v, rfl, ⟨vs, hmat⟩, hb1⟩
  clear HCO
  obtain ⟨g, cv, rfl, hg, _⟩ := hmat.cells (by rw [toM_len]; omega)
  rw [toM_len] at hmat ⊢
  have HM1 := Lib.hid (show MatO w1 w.heap.size (.slice (some ⟨g, 0, none⟩) n cv) (toM n (stS n m C 0 0 0)) vs by rw [stS_start]; exact hmat)
  clear hmat
  go_wp2_with fail
  go_loopw [13] (fun i wr => ∃ a : Nat, a ≤ n ∧ i = .int .i64 a ∧ MatO wr w.heap.size (.slice (some ⟨g, 0, none⟩) n cv) (toM n (stS n m C a 0 0)) vs ∧ Below w.heap.size w wr) (fun i _ => n - (intOf i).toNat)
  case atStart => exact ⟨0, Nat.zero_le _, rfl, HM1.out, hb1⟩
  case round =>
    obtain ⟨wI, rfl⟩ : ∃ x : World, x = wr := ⟨_, rfl⟩
    obtain ⟨a, ha, rfl, hmat, hbel⟩ := hrel
    have HMI := Lib.hid hmat; clear hmat HM1
    by_cases hla : a < n
    case pos =>
      go_wp2_with fail
      go_loopw [18] (fun i wr => ∃ j : Nat, j ≤ n ∧ i = .int .i64 j ∧ MatO wr w.heap.size (.slice (some ⟨g, 0, none⟩) n cv) (toM n (stS n m C a j 0)) vs ∧ Below w.heap.size w wr) (fun i _ => n - (intOf i).toNat)
      case atStart => exact ⟨0, Nat.zero_le _, rfl, HMI.out, hbel⟩
      case round =>
        obtain ⟨wJ, rfl⟩ : ∃ x : World, x = wr := ⟨_, rfl⟩
        obtain ⟨j, hj, rfl, hmat, hbel⟩ := hrel
        have HMJ := Lib.hid hmat; clear hmat HMI
        by_cases hlj : j < n
        case pos =>
          go_wp2_with fail
          go_loopw [23] (fun i wr => ∃ k : Nat, k ≤ n ∧ i = .int .i64 k ∧ MatO wr w.heap.size (.slice (some ⟨g, 0, none⟩) n cv) (toM n (stS n m C a j k)) vs ∧ Below w.heap.size w wr) (fun i _ => n - (intOf i).toNat)
          case atStart => exact ⟨0, Nat.zero_le _, rfl, HMJ.out, hbel⟩
          case round =>
            obtain ⟨wK, rfl⟩ : ∃ x : World, x = wr := ⟨_, rfl⟩
            obtain ⟨k, hk, rfl, hmat, hbel⟩ := hrel
            by_cases hlk : k < n
            case pos =>
              have hnx := stS_next n m C a j k
              obtain ⟨_, gl, ho⟩ := hmat.outer (by omega)
              obtain ⟨b, o, c, eb, hBb, bl, hcell, hset⟩ := hmat.rowF hla
              obtain ⟨bc, oc, rfl, hbc, hrc⟩ := (HC.out.below hbel).rowF (by omega)
              obtain ⟨bm, om, rfl, hbm, hrm⟩ := (HMM.out.below hbel).rowF (by omega)
              obtain ⟨b2, o2, c2, e2, hl2, hc2⟩ := hrc a hla
              obtain ⟨b3, o3, c3, e3, hl3, hc3⟩ := hrm j hlj
              have k5 := hc2 j hlj
              have k6 := hc3 k hlk
              have c0 := ho a hla
              rw [eb] at c0
              obtain ⟨k1, k2⟩ := hcell k hlk
              have s1 := HBC.out a j hla hlj
              have s2 := HBM.out j k hlj hlk
              have CP := Lib.hid (fun w => nuPlus_c (C a j) (m j k) w (by omega))
              have hst := hset k (leastZ (stS n m C a j k a k) (prodZ (C a j) (m j k))) hlk
              rw [hnx] at hst
              have x1 : (0 : Int) ≤ (k : Int) := by omega
              have x2 : (k : Int) < (n : Int) := by omega
              have x3 : (0 : Int) ≤ (a : Int) := by omega
              have x4 : (a : Int) < (n : Int) := by omega
              have x5 : (0 : Int) ≤ (j : Int) := by omega
              have x6 : (j : Int) < (n : Int) := by omega
              have HST := Lib.hid hst
              clear hst hset hcell ho hmat hnx s1 s2 hrc hrm hc2 hc3 HMJ
              generalize prodZ (C a j) (m j k) = P at CP HST
              generalize C a j = Y at k5 CP
              generalize m j k = Z at k6 CP
              generalize stS n m C a j k a k = X at k1 HST
              have CL := Lib.hid (fun w => l1Least_n X P w)
              have hbs := hbel.setCell (p := ⟨b, o + k, none⟩) hBb (.int .i64 (leastZ X P))
              generalize leastZ X P = V at CL HST hbs
              go_wp2_with fail
              refine wp_region_still_tail 29 (by kernel_rfl) (by kernel_rfl) ?_
              simp only [List.take_succ_cons, List.take_zero, List.drop_succ_cons, List.drop_zero]
              repeat still_step
              still_call ((CP.out _).mono (fun e w' h => ⟨h.1, h.2.symm⟩))
              repeat still_step
              still_call ((CL.out _).mono (fun e w' h => ⟨h.1, h.2.symm⟩))
              repeat still_step
              refine wpStill_nil ?_
              change wpList _ _ _ _ _ wK.drew
              have d1 : wK.drew.cell? ⟨b, o + k, none⟩ = some (.int .i64 X) := k1
              have d2 : wK.drew.frozen? ⟨b, o + k, none⟩ = false := k2
              go_wp2_with fail
              go_roundw
              case rel => exact ⟨k + 1, by omega, by go_num, HST.out.below (Below.refl _ _).drew, hbs.drew⟩
              case measure => simp [intOf]; omega
            case neg =>
              obtain rfl : k = n := by omega
              have HM3 := Lib.hid (show MatO wK w.heap.size (.slice (some ⟨g, 0, none⟩) k cv) (toM k (stS k m C a (j + 1) 0)) vs by rw [← stS_row]; exact hmat)
              clear hmat HMJ
              go_wp2_with fail
              go_roundw
              case rel => exact ⟨j + 1, by omega, by go_num, HM3.out, hbel⟩
              case measure => simp [intOf]; omega
        case neg =>
          obtain rfl : j = n := by omega
          rw [stS_col] at HMJ
          go_wp2_with fail
          go_roundw
          case rel => exact ⟨a + 1, by omega, by go_num, HMJ.out, hbel⟩
          case measure => simp [intOf]; omega
    case neg =>
      obtain rfl : a = n := by omega
      rw [stS_end] at HMI
      go_wp2_with fail
      go_ret
      exact ⟨_, rfl, ⟨vs, HMI.out⟩, hbel⟩

set_option maxHeartbeats 1600000 in
theorem wySame_c (n : Nat) (ad1 : Option Addr) (cap1 : Nat) (ad2 : Option Addr) (cap2 : Nat) (A B : Nat → Nat → Int) (w : World) (h1 : RdM w ad1 (toM n A)) (h2 : RdM w ad2 (toM n B)) (hn : 1 ≤ n ∧ n ≤ 6) :
    Calls Try.prog 76 #[.slice ad1 n cap1, .slice ad2 n cap2] w fun e w' => e = .returned (.bool (decide (toM n A = toM n B))) ∧ Below w.heap.size w w' := by
  have H1 := Lib.hid h1; have H2 := Lib.hid h2
  clear h1 h2
  obtain ⟨R, hR⟩ : ∃ R, decide (toM n A = toM n B) = R := ⟨_, rfl⟩
  rw [hR]
  have HRR := Lib.hid hR; clear hR
  go_enter Try.func76, Try.ntmps76
  go_wp2_with fail
  go_loopw [9] (fun i wr => ∃ k : Nat, k ≤ n ∧ i = .int .i64 k ∧ (∀ j, j < k → (toM n A).getD j [] = (toM n B).getD j []) ∧ Below w.heap.size w wr) (fun i _ => n - (intOf i).toNat)
  case atStart => exact ⟨0, Nat.zero_le _, rfl, fun j hj => by omega, Below.refl _ _⟩
  case round =>
    obtain ⟨wE, rfl⟩ : ∃ x : World, x = wr := ⟨_, rfl⟩
    obtain ⟨k, hk, rfl, hj, hbel⟩ := hrel
    have HJ := Lib.hid hj; clear hj
    by_cases hlt : k < n
    case pos =>
      obtain ⟨b1, o1, a1, c1, rfl, hb1, e1, r1⟩ := (H1.out.below hbel) k (by rw [toM_len]; exact hlt)
      obtain ⟨b2, o2, a2, c2, rfl, hb2, e2, r2⟩ := (H2.out.below hbel) k (by rw [toM_len]; exact hlt)
      have g1 : ((toM n A).getD k []).length = n := by rw [toM_row A hlt, tab_length]
      have g2 : ((toM n B).getD k []).length = n := by rw [toM_row B hlt, tab_length]
      have CS := l1Same_c a1 c1 ((toM n A).getD k []) a2 c2 ((toM n B).getD k []) wE (by omega) r1 r2
      have hno : (toM n A).getD k [] ≠ (toM n B).getD k [] → R = false := fun h => by rw [← HRR.out]; exact decide_eq_false (fun e => h (by rw [e]))
      rw [g1] at e1
      rw [g2] at e2
      rw [g1, g2] at CS
      obtain ⟨P, hP⟩ : ∃ P, (toM n A).getD k [] = P := ⟨_, rfl⟩
      obtain ⟨Q, hQ⟩ : ∃ Q, (toM n B).getD k [] = Q := ⟨_, rfl⟩
      rw [hP, hQ] at CS hno
      have HP := Lib.hid hP; have HQ := Lib.hid hQ
      have x1 : (0 : Int) ≤ (k : Int) := by omega
      have x2 : (k : Int) < (n : Int) := by omega
      clear r1 r2 g1 g2 hP hQ
      by_cases hpq : P = Q
      · rw [decide_eq_true hpq] at CS
        have HCS := Lib.hid CS; have HPQ := Lib.hid hpq
        clear CS hpq hno
        go_wp2_with fail
        refine HCS.out.mono ?_
        rintro e w1 ⟨rfl, hb⟩
        go_wp2_with fail
        go_roundw
        case rel =>
          refine ⟨k + 1, by omega, by go_num, fun j hj => ?_, ball hbel hb⟩
          by_cases e : j = k
          · subst e; rw [HP.out, HQ.out]; exact HPQ.out
          · exact HJ.out j (by omega)
        case measure => simp [intOf]; omega
      · rw [decide_eq_false hpq] at CS
        obtain rfl := hno hpq
        have HCS := Lib.hid CS
        clear CS hpq hno
        go_wp2_with fail
        refine HCS.out.mono ?_
        rintro e w1 ⟨rfl, hb⟩
        go_wp2_with fail
        go_ret
        exact ⟨rfl, ball hbel hb⟩
    case neg =>
      obtain rfl : k = n := by omega
      obtain rfl : R = true := by
        rw [← HRR.out]
        refine decide_eq_true ?_
        apply List.ext_getElem (by rw [toM_len, toM_len])
        intro i hi hi2
        have := HJ.out i (by rwa [toM_len] at hi)
        simpa [List.getD, hi, hi2] using this
      go_wp2_with fail
      go_ret
      exact ⟨rfl, hbel⟩

/-- Whether costs stay. -/
def okB (n : Nat) (m : Nat → Nat → Int) : Bool := decide (toM n (bf n m n) = toM n (bf n m (n + 1)))
set_option maxHeartbeats 1600000 in
theorem wyCosts_c (n : Nat) (adm : Option Addr) (capm : Nat) (m : Nat → Nat → Int) (w : World) (hm : RdM w adm (toM n m)) (hn : 1 ≤ n ∧ n ≤ 6) (hnum : ∀ a b, a < n → b < n → numB (m a b) = true) :
    Calls Try.prog 52 #[.slice adm n capm] w fun e w' => ∃ ad cap, e = .returned (.tuple #[.slice ad n cap, .bool (okB n m)]) ∧ (∃ vs, MatO w' w.heap.size (.slice ad n cap) (toM n (bf n m n)) vs) ∧ Below w.heap.size w w' := by
  have HMM := Lib.hid hm
  have C0 := Lib.hid (wyStart_c n w hn)
  have hb9 : ∀ s, s ≤ n → ∀ a b, a < n → b < n → -1000000000 ≤ bf n m s a b ∧ bf n m s a b ≤ 1000000000 := fun s hs a b ha hb => by
    have := bf_bd hnum (s := s) ha hb
    omega
  have hm9 : ∀ a b, a < n → b < n → -1000000000 ≤ m a b ∧ m a b ≤ 1000000000 := fun a b ha hb => by have := numB_t (hnum a b ha hb); omega
  have CS := Lib.hid (fun (s : Nat) (hs : s ≤ n) (u : World) (adc : Option Addr) (capc : Nat) (hc : RdM u adc (toM n (bf n m s))) (hb : Below w.heap.size w u) => wyStep_c n adm capm adc capc m (bf n m s) u (hm.below hb) hc hn hm9 (hb9 s hs))
  clear hm hb9 hm9 hnum
  obtain ⟨R, hR⟩ : ∃ R, okB n m = R := ⟨_, rfl⟩
  rw [hR]
  have HRR := Lib.hid hR; clear hR
  go_enter Try.func52, Try.ntmps52
  go_wp2_with fail
  refine C0.out.mono ?_
  rintro e w1 ⟨v, rfl, ⟨vs, hmat⟩, hb1⟩
  rw [← bf_zero n m] at hmat
  have HM1 := Lib.hid hmat; clear hmat C0
  go_wp2_with fail
  go_loopw [4, 10] (fun v i wr => ∃ (k : Nat) (vs : List Value), k ≤ n ∧ i = .int .i64 k ∧ MatO wr w.heap.size v (toM n (bf n m k)) vs ∧ Below w.heap.size w wr) (fun _ i _ => n - (intOf i).toNat)
  case atStart => exact ⟨0, vs, Nat.zero_le _, rfl, HM1.out, hb1⟩
  case round =>
    obtain ⟨wE, rfl⟩ : ∃ x : World, x = wr := ⟨_, rfl⟩
    obtain ⟨k, vs, hk, rfl, hmat, hbel⟩ := hrel
    obtain ⟨adv, cav, rfl, _⟩ := hmat.shape
    rw [toM_len] at hmat ⊢
    have HM := Lib.hid hmat
    have hsz := hbel.size
    have CK := Lib.hid (CS.out k hk wE adv cav hmat.rd hbel)
    clear hmat HM1
    by_cases hlt : k < n
    case pos =>
      clear HM
      go_wp2_with fail
      refine CK.out.mono ?_
      rintro e w2 ⟨v2, rfl, ⟨vs2, hmat⟩, hb2⟩
      rw [← bf_step] at hmat
      have HM2 := Lib.hid (hmat.mono hsz)
      have hb3 := ball hbel hb2
      clear hmat CK hb2
      go_wp2_with fail
      go_roundw
      case rel => exact ⟨k + 1, vs2, by omega, by go_num, HM2.out, hb3⟩
      case measure => simp [intOf]; omega
    case neg =>
      obtain rfl : k = n := by omega
      go_wp2_with fail
      refine CK.out.mono ?_
      rintro e w2 ⟨v2, rfl, ⟨vs2, hmat⟩, hb2⟩
      rw [← bf_step] at hmat
      obtain ⟨ad2, ca2, rfl, _⟩ := hmat.shape
      rw [toM_len] at hmat ⊢
      have HM2 := Lib.hid (HM.out.below hb2)
      have CW := wySame_c k adv cav ad2 ca2 (bf k m k) (bf k m (k + 1)) w2 HM2.out.rd hmat.rd hn
      rw [show decide (toM k (bf k m k) = toM k (bf k m (k + 1))) = R from HRR.out] at CW
      have HCW := Lib.hid CW
      have hb3 := ball hbel hb2
      clear hmat CK hb2 CW HM
      go_wp2_with fail
      refine HCW.out.mono ?_
      rintro e w3 ⟨rfl, hb4⟩
      have HM3 := Lib.hid (HM2.out.below hb4)
      go_wp2_with fail
      exact bodyPost_ret (v := .tuple #[.slice adv k cav, .bool R]) (by simp [results, Try.results52, go_sem]) rfl ⟨adv, cav, rfl, ⟨vs, HM3.out⟩, ball hb3 hb4⟩

end Go.Proofs.Ytjlkgioinogbkaa
