/-
  The centre: program and reference. By an AI agent.
-/
import Derived.Test.YtbffcbjbeeagmaaWyG
namespace Go.Proofs.Ytbffcbjbeeagmaa
open Go.RowKit

def mstZ (a b : Int) : Int := if b < a then a else b
def mxF (a : Int) (f : Nat → Int) : Nat → Int
  | 0 => a
  | k + 1 => mstZ (mxF a f k) (f k)
def cenF (f : Nat → Int) : Nat → Nat × Int
  | 0 => (0, 1000000000)
  | k + 1 => if f k < (cenF f k).2 then (k, f k) else cenF f k
theorem mxF_congr {a b : Int} {f g : Nat → Int} : ∀ {k : Nat}, a = b → (∀ j, j < k → f j = g j) → mxF a f k = mxF b g k
  | 0, h, _ => h
  | k + 1, h, hf => by
    unfold mxF
    rw [mxF_congr h (fun j hj => hf j (by omega)), hf k (by omega)]
def rmxF (M : List (List Int)) (i : Nat) : Int := mxF (bf M.length (entM M) M.length i 0) (bf M.length (entM M) M.length i) M.length
def cenB (M : List (List Int)) : Bool := cosB M && decide ((cenF (rmxF M) M.length).2 ≠ 1000000000)
def CenR (B : Bool) (p : Nat × Int) (e : Ending) : Prop := e = .returned (.tuple #[.int .i64 (if B = true then (p.1 : Int) else 0), .int .i64 (if B = true then p.2 else 0), .bool B])

set_option maxHeartbeats 800000 in
theorem l1Most_c (a b : Int) (w : World) :
    Calls Try.prog 69 #[.int .i64 a, .int .i64 b] w fun e w' => e = .returned (.int .i64 (mstZ a b)) ∧ w = w' := by
  unfold mstZ
  by_cases h : b < a
  · rw [if_pos h]
    go_enter Try.func69, Try.ntmps69
    go_wp2_with fail
    go_ret
    exact ⟨rfl, rfl⟩
  · rw [if_neg h]
    go_enter Try.func69, Try.ntmps69
    go_wp2_with fail
    go_ret
    exact ⟨rfl, rfl⟩
theorem mst_if (a b : Int) : (if a < b then b else a) = mstZ a b := by unfold mstZ; split <;> split <;> omega
set_option maxHeartbeats 1600000 in
theorem maxI_c (ad : Option Addr) (cap : Nat) (r : List Int) (w : World) (hr : RdI w ad r) (h0 : 0 < r.length) (hl : r.length ≤ 1048576) :
    Calls Try.prog 68 #[.slice ad r.length cap] w fun e w' => e = .returned (.int .i64 (mxF (r.getD 0 0) (fun j => r.getD j 0) r.length)) ∧ w = w' := by
  obtain ⟨A, hA⟩ : ∃ A, mxF (r.getD 0 0) (fun j => r.getD j 0) r.length = A := ⟨_, rfl⟩
  rw [hA]
  have HA := Lib.hid hA; clear hA
  obtain ⟨b, off, rfl, hb, k0⟩ := hr 0 h0
  rw [Nat.add_zero] at k0
  have HR := Lib.hid hr; clear hr
  have x0 : (0 : Int) < (r.length : Int) := by omega
  have x1 : ¬ ((r.length : Int) < 1) := by omega
  obtain ⟨X0, hX0⟩ : ∃ X, r.getD 0 0 = X := ⟨_, rfl⟩
  rw [hX0] at HA k0
  have HX0 := Lib.hid hX0; clear hX0
  go_enter Try.func68, Try.ntmps68
  go_wp2_with fail
  go_loop [3, 4] (fun v i => ∃ k : Nat, 1 ≤ k ∧ k ≤ r.length ∧ i = .int .i64 k ∧ v = .int .i64 (mxF X0 (fun j => r.getD j 0) k)) (fun _ i => r.length - (intOf i).toNat)
  case atStart => exact ⟨1, Nat.le_refl _, h0, rfl, by unfold mxF mxF mstZ; rw [HX0.out, if_neg (Int.lt_irrefl _)]⟩
  case round =>
    obtain ⟨k, hk1, hk, rfl, rfl⟩ := hrel
    by_cases hlt : k < r.length
    case neg =>
      obtain rfl : k = r.length := by omega
      rw [HA.out]
      go_wp2_with fail
      go_ret
      exact ⟨rfl, rfl⟩
    case pos =>
      have cc := HR.out.at hlt
      have hst := Lib.hid (show (if mxF X0 (fun j => r.getD j 0) k < r.getD k 0 then r.getD k 0 else mxF X0 (fun j => r.getD j 0) k) = mxF X0 (fun j => r.getD j 0) (k + 1) from mst_if _ _)
      have x2 : (0 : Int) ≤ (k : Int) := by omega
      have x3 : (k : Int) < (r.length : Int) := by omega
      generalize mxF X0 (fun j => r.getD j 0) k = V at hst ⊢
      obtain ⟨X, hX⟩ : ∃ X, r.getD k 0 = X := ⟨_, rfl⟩
      rw [hX] at cc hst
      clear hX
      go_wp2_with fail
      go_round
      case rel => exact ⟨k + 1, by omega, by omega, by go_num, by rw [← hst.out]⟩
      case measure => simp [intOf]; omega

set_option maxHeartbeats 3200000 in
set_option maxRecDepth 100000 in
theorem iCentre_c (ad : Option Addr) (cap : Nat) (M : List (List Int)) (w : World) (hr : RdM w ad M) (hl : smM M) :
    Calls Try.prog 22 #[.slice ad M.length cap] w fun e w' => CenR (cenB M) (cenF (rmxF M) M.length) e ∧ Below w.heap.size w w' := by
  have C1 := iWayCosts_c ad cap M w hr hl
  have hn1 : cosB M = true → (1 ≤ M.length ∧ M.length ≤ 6) := fun h => by
    unfold cosB okW at h
    simp only [Bool.and_eq_true] at h
    exact (sq_facts h.1.1).1
  unfold cenB
  have hdis : disM M = toM M.length (bf M.length (entM M) M.length) := rfl
  have hrm : ∀ i, rmxF M i = mxF (bf M.length (entM M) M.length i 0) (bf M.length (entM M) M.length i) M.length := fun _ => rfl
  rw [hdis] at C1
  clear hdis hr hl
  generalize bf M.length (entM M) M.length = F at C1 hrm
  generalize rmxF M = RM at hrm ⊢
  generalize M.length = n at C1 hrm hn1 ⊢
  generalize cosB M = K at C1 hn1 ⊢
  have HRM := Lib.hid hrm; clear hrm
  have HC1 := Lib.hid C1; clear C1
  cases K
  · go_enter Try.func22, Try.ntmps22
    go_wp2_with fail
    refine HC1.out.mono ?_
    rintro e w1 ⟨adv, cav, rfl, _, hb1⟩
    go_wp2_with fail
    exact bodyPost_ret (v := .tuple #[.int .i64 0, .int .i64 0, .bool false]) (by simp [results, Try.results22, go_sem]) rfl ⟨rfl, hb1⟩
  · have hn := hn1 rfl
    clear hn1
    rw [Bool.true_and]
    obtain ⟨R, hR⟩ : ∃ R, decide ((cenF RM n).2 ≠ 1000000000) = R := ⟨_, rfl⟩
    rw [hR]
    obtain ⟨p, hp⟩ : ∃ p, cenF RM n = p := ⟨_, rfl⟩
    rw [hp] at hR ⊢
    have HRR := Lib.hid hR; have HPP := Lib.hid hp
    clear hR hp
    go_enter Try.func22, Try.ntmps22
    go_wp2_with fail
    refine HC1.out.mono ?_
    rintro e w1 ⟨adv, cav, rfl, hrd, hb1⟩
    rw [show onM true (toM n F) = toM n F from rfl] at hrd ⊢
    rw [toM_len]
    have HRD := Lib.hid hrd; clear hrd HC1
    go_wp2_with fail
    go_loop [7, 8, 21] (fun c l i => ∃ k : Nat, k ≤ n ∧ i = .int .i64 k ∧ c = .int .i64 ((cenF RM k).1 : Nat) ∧ l = .int .i64 (cenF RM k).2) (fun _ _ i => n - (intOf i).toNat)
    case atStart => exact ⟨0, Nat.zero_le _, rfl, rfl, rfl⟩
    case round =>
      obtain ⟨k, hk, rfl, rfl, rfl⟩ := hrel
      by_cases hlt : k < n
      case neg =>
        obtain rfl : k = n := by omega
        rw [HPP.out]
        obtain ⟨c, l⟩ := p
        simp only at HRR ⊢
        by_cases hli : l = 1000000000
        · obtain rfl : R = false := by rw [← HRR.out]; exact decide_eq_false (fun h => h hli)
          have g1 : (l == 1000000000) = true := beq_iff_eq.2 hli
          clear hli
          go_wp2_with fail
          exact bodyPost_ret (v := .tuple #[.int .i64 0, .int .i64 0, .bool false]) (by simp [results, Try.results22, go_sem]) rfl ⟨rfl, hb1⟩
        · obtain rfl : R = true := by rw [← HRR.out]; exact decide_eq_true hli
          have g1 : (l == 1000000000) = false := beq_eq_false_iff_ne.2 hli
          clear hli
          go_wp2_with fail
          exact bodyPost_ret (v := .tuple #[.int .i64 (c : Int), .int .i64 l, .bool true]) (by simp [results, Try.results22, go_sem]) rfl ⟨rfl, hb1⟩
      case pos =>
        obtain ⟨bD, oD, rfl, hbD, hrw⟩ := HRD.out.rowF (by omega)
        obtain ⟨b2, o2, c2, e2, hl2, hc2⟩ := hrw k hlt
        have hri : RdI w1 (some ⟨b2, o2, none⟩) (tab n (F k)) := fun j hj => by
          rw [tab_length] at hj
          exact ⟨b2, o2, rfl, hl2, by rw [tab_getD hj]; exact hc2 j hj⟩
        have CM := maxI_c (some ⟨b2, o2, none⟩) c2 (tab n (F k)) w1 hri (by rw [tab_length]; omega) (by rw [tab_length]; omega)
        rw [tab_length, tab_getD (show 0 < n by omega), mxF_congr (b := F k 0) (g := F k) rfl (fun j hj => tab_getD hj 0), ← HRM.out k] at CM
        have HCM := Lib.hid CM
        have HNX := Lib.hid (show cenF RM (k + 1) = if RM k < (cenF RM k).2 then (k, RM k) else cenF RM k from rfl)
        have x2 : (0 : Int) ≤ (k : Int) := by omega
        have x3 : (k : Int) < (n : Int) := by omega
        clear CM hri hrw hc2
        generalize RM k = X at HCM HNX
        obtain ⟨q, hq⟩ : ∃ q, cenF RM k = q := ⟨_, rfl⟩
        rw [hq] at HNX ⊢
        clear hq
        obtain ⟨c, l⟩ := q
        simp only at HNX ⊢
        by_cases hx : X < l
        · have g1 : decide (X < l) = true := decide_eq_true hx
          have HN2 := Lib.hid (HNX.out.trans (if_pos hx))
          go_wp2_with fail
          refine HCM.out.mono ?_
          rintro e w2 ⟨rfl, rfl⟩
          go_wp2_with fail
          go_round
          case rel => exact ⟨k + 1, by omega, by go_num, by rw [HN2.out], by rw [HN2.out]⟩
          case measure => simp [intOf]; omega
        · have g1 : decide (X < l) = false := decide_eq_false hx
          have HN2 := Lib.hid (HNX.out.trans (if_neg hx))
          go_wp2_with fail
          refine HCM.out.mono ?_
          rintro e w2 ⟨rfl, rfl⟩
          go_wp2_with fail
          go_round
          case rel => exact ⟨k + 1, by omega, by go_num, by rw [HN2.out], by rw [HN2.out]⟩
          case measure => simp [intOf]; omega

set_option maxHeartbeats 3200000 in
set_option maxRecDepth 100000 in
theorem sCentre_c (ad : Option Addr) (cap : Nat) (M : List (List Int)) (w : World) (hr : RdM w ad M) (hl : smM M) :
    Calls Try.prog 23 #[.slice ad M.length cap] w fun e w' => CenR (cenB M) (cenF (rmxF M) M.length) e ∧ Below w.heap.size w w' := by
  have C1 := Lib.hid (mxSquare_c ad cap M w hr (by have := hl.1; omega) (fun i hi => by have := hl.2 i hi; omega))
  have C2 := Lib.hid (fun (hs : sqB M = true) => wyCosts2_c ad cap M w hr hs)
  unfold cenB cosB
  have hok : sqB M = false → okW M = false := fun h => by unfold okW; rw [h]; rfl
  cases hs : sqB M
  · rw [hs] at C1
    rw [hok hs]
    clear hs hok hr C2
    go_enter Try.func23, Try.ntmps23
    go_wp2_with fail
    refine C1.out.mono ?_
    rintro e w1 ⟨rfl, rfl⟩
    go_wp2_with fail
    exact bodyPost_ret (v := .tuple #[.int .i64 0, .int .i64 0, .bool false]) (by simp [results, Try.results23, go_sem]) rfl ⟨rfl, Below.refl _ _⟩
  · rw [hs] at C1
    obtain ⟨hn, _, _⟩ := sq_facts hs
    have C2 := Lib.hid (C2.out hs)
    have hdis : disM M = toM M.length (bf M.length (entM M) M.length) := rfl
    have hrm : ∀ i, rmxF M i = mxF (bf M.length (entM M) M.length i 0) (bf M.length (entM M) M.length i) M.length := fun _ => rfl
    have CT := Lib.hid (fun (adv : Option Addr) (cav : Nat) (u : World) (h : RdM u adv (disM M)) => wyGood_c adv cav (disM M) u h (by rw [dis_len]; omega) (fun i hi => by rw [dis_len] at hi; rw [dis_row M hi]; omega))
    clear hs hok hr hl
    rw [dis_len, hdis] at CT
    rw [hdis] at C2 ⊢
    clear hdis
    generalize bf M.length (entM M) M.length = F at C2 CT hrm ⊢
    generalize rmxF M = RM at hrm ⊢
    generalize M.length = n at C1 C2 CT hrm hn ⊢
    generalize okW M = K at C2 ⊢
    have HRM := Lib.hid hrm; clear hrm
    obtain ⟨V, hV⟩ : ∃ V, nmB (toM n F) = V := ⟨_, rfl⟩
    rw [hV] at CT ⊢
    clear hV
    obtain ⟨R, hR⟩ : ∃ R, ((K && V) && decide ((cenF RM n).2 ≠ 1000000000)) = R := ⟨_, rfl⟩
    rw [hR]
    obtain ⟨p, hp⟩ : ∃ p, cenF RM n = p := ⟨_, rfl⟩
    rw [hp] at hR ⊢
    have HRR := Lib.hid hR; have HPP := Lib.hid hp
    clear hR hp
    go_enter Try.func23, Try.ntmps23
    go_wp2_with fail
    refine C1.out.mono ?_
    rintro e w1 ⟨rfl, rfl⟩
    go_wp2_with fail
    refine (C2.out).mono ?_
    rintro e w2 ⟨adv, cav, rfl, ⟨vs, hm⟩, hb2⟩
    have HRD := Lib.hid hm.rd
    have CT2 := Lib.hid (CT.out adv cav w2 HRD.out)
    clear hm CT C1 C2
    cases K
    · obtain rfl : R = false := by rw [← HRR.out]; rfl
      go_wp2_with fail
      exact bodyPost_ret (v := .tuple #[.int .i64 0, .int .i64 0, .bool false]) (by simp [results, Try.results23, go_sem]) rfl ⟨rfl, hb2⟩
    · cases V
      · obtain rfl : R = false := by rw [← HRR.out]; rfl
        go_wp2_with fail
        refine CT2.out.mono ?_
        rintro e w3 ⟨rfl, rfl⟩
        go_wp2_with fail
        exact bodyPost_ret (v := .tuple #[.int .i64 0, .int .i64 0, .bool false]) (by simp [results, Try.results23, go_sem]) rfl ⟨rfl, hb2⟩
      · go_wp2_with fail
        refine CT2.out.mono ?_
        rintro e w3 ⟨rfl, rfl⟩
        clear CT2
        go_wp2_with fail
        go_loop [7, 8, 31] (fun c l i => ∃ k : Nat, k ≤ n ∧ i = .int .i64 k ∧ c = .int .i64 ((cenF RM k).1 : Nat) ∧ l = .int .i64 (cenF RM k).2) (fun _ _ i => n - (intOf i).toNat)
        case atStart => exact ⟨0, Nat.zero_le _, rfl, rfl, rfl⟩
        case round =>
          obtain ⟨k, hk, rfl, rfl, rfl⟩ := hrel
          by_cases hlt : k < n
          case neg =>
            obtain rfl : k = n := by omega
            rw [HPP.out]
            obtain ⟨c, l⟩ := p
            simp only at HRR ⊢
            by_cases hli : l = 1000000000
            · obtain rfl : R = false := by rw [← HRR.out, decide_eq_false (fun h => h hli)]; rfl
              have g1 : (l == 1000000000) = true := beq_iff_eq.2 hli
              clear hli
              go_wp2_with fail
              exact bodyPost_ret (v := .tuple #[.int .i64 0, .int .i64 0, .bool false]) (by simp [results, Try.results23, go_sem]) rfl ⟨rfl, hb2⟩
            · obtain rfl : R = true := by rw [← HRR.out, decide_eq_true hli]; rfl
              have g1 : (l == 1000000000) = false := beq_eq_false_iff_ne.2 hli
              clear hli
              go_wp2_with fail
              exact bodyPost_ret (v := .tuple #[.int .i64 (c : Int), .int .i64 l, .bool true]) (by simp [results, Try.results23, go_sem]) rfl ⟨rfl, hb2⟩
          case pos =>
            obtain ⟨bD, oD, rfl, hbD, hrw⟩ := HRD.out.rowF (by omega)
            obtain ⟨b2, o2, c2, e2, hl2, hc2⟩ := hrw k hlt
            have HC2 := Lib.hid hc2
            have k0 := hc2 0 (by omega)
            rw [Nat.add_zero] at k0
            have HNX := Lib.hid (show cenF RM (k + 1) = if RM k < (cenF RM k).2 then (k, RM k) else cenF RM k from rfl)
            have HRK := Lib.hid (HRM.out k)
            have x2 : (0 : Int) ≤ (k : Int) := by omega
            have x3 : (k : Int) < (n : Int) := by omega
            have x4 : (0 : Int) < (n : Int) := by omega
            clear hrw hc2
            generalize RM k = X at HRK HNX
            obtain ⟨q, hq⟩ : ∃ q, cenF RM k = q := ⟨_, rfl⟩
            rw [hq] at HNX ⊢
            clear hq
            obtain ⟨c, l⟩ := q
            simp only at HNX ⊢
            go_wp2_with fail
            go_loop [11, 41] (fun v i => ∃ j : Nat, j ≤ n ∧ i = .int .i64 j ∧ v = .int .i64 (mxF (F k 0) (F k) j)) (fun _ i => n - (intOf i).toNat)
            case atStart => exact ⟨0, Nat.zero_le _, rfl, rfl⟩
            case round =>
              obtain ⟨j, hj, rfl, rfl⟩ := hrel
              by_cases hlj : j < n
              case pos =>
                have k1 := HC2.out j hlj
                have CL := Lib.hid (fun w => l1Most_c (mxF (F k 0) (F k) j) (F k j) w)
                have HNY := Lib.hid (show mstZ (mxF (F k 0) (F k) j) (F k j) = mxF (F k 0) (F k) (j + 1) from rfl)
                have x5 : (0 : Int) ≤ (j : Int) := by omega
                have x6 : (j : Int) < (n : Int) := by omega
                generalize mxF (F k 0) (F k) j = P at CL HNY ⊢
                generalize F k j = Q at CL HNY k1
                generalize mstZ P Q = Y at CL HNY
                go_wp2_with fail
                refine (CL.out _).mono ?_
                rintro e w5 ⟨rfl, rfl⟩
                go_wp2_with fail
                go_round
                case rel => exact ⟨j + 1, by omega, by go_num, by rw [HNY.out]⟩
                case measure => simp [intOf]; omega
              case neg =>
                obtain rfl : j = n := by omega
                rw [← HRK.out]
                by_cases hx : X < l
                · have g1 : decide (X < l) = true := decide_eq_true hx
                  have HN2 := Lib.hid (HNX.out.trans (if_pos hx))
                  go_wp2_with fail
                  go_round
                  case rel => exact ⟨k + 1, by omega, by go_num, by rw [HN2.out], by rw [HN2.out]⟩
                  case measure => simp [intOf]; omega
                · have g1 : decide (X < l) = false := decide_eq_false hx
                  have HN2 := Lib.hid (HNX.out.trans (if_neg hx))
                  go_wp2_with fail
                  go_round
                  case rel => exact ⟨k + 1, by omega, by go_num, by rw [HN2.out], by rw [HN2.out]⟩
                  case measure => simp [intOf]; omega

end Go.Proofs.Ytbffcbjbeeagmaa
