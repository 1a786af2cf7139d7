/-
  Matrices of rank one: the program's and the reference's. Printed by gen_rkS.py. By an AI agent.
-/
import Derived.Test.YtnbenpalneodlaaRkR
namespace Go.Proofs.Ytnbenpalneodlaa
open Go.RowKit

def okO (m : Nat → Nat → Int) (i k : Nat) : Prop := m i k ≠ 1000000000 ∧ m i k - m i 0 = m 0 k - m 0 0
instance (m : Nat → Nat → Int) (i k : Nat) : Decidable (okO m i k) := by unfold okO; exact inferInstance
def r1B (R C : Nat) (m : Nat → Nat → Int) : Bool := (List.range R).all fun i => (List.range C).all fun k => decide (okO m i k)
theorem r1B_t {R C : Nat} {m : Nat → Nat → Int} : r1B R C m = true ↔ ∀ i k, i < R → k < C → okO m i k := by
  unfold r1B
  simp only [List.all_eq_true, List.mem_range, decide_eq_true_eq]
  exact ⟨fun h i k hi hk => h i hi k hk, fun h i hi k hk => h i k hi hk⟩
theorem r1B_f {R C : Nat} {m : Nat → Nat → Int} {i k : Nat} (hi : i < R) (hk : k < C) (h : ¬ okO m i k) : r1B R C m = false := by
  cases e : r1B R C m
  · rfl
  · exact absurd (r1B_t.1 e i k hi hk) h

set_option maxHeartbeats 3200000 in
set_option maxRecDepth 100000 in
theorem isRankOne_c (R C : Nat) (ad : Option Addr) (cap : Nat) (m : Nat → Nat → Int) (w : World) (hr : RdM w ad (toG R C m)) (hR : 1 ≤ R ∧ R ≤ 6) (hC : 1 ≤ C ∧ C ≤ 6) (hnum : ∀ a b, a < R → b < C → numB (m a b) = true) :
    Calls Try.prog 31 #[.slice ad R cap] w fun e w' => e = .returned (.bool (r1B R C m)) ∧ Below w.heap.size w w' := by
  obtain ⟨bM, oM, rfl, hbM, hrow⟩ := hr.rowG (by omega) (by omega)
  obtain ⟨b0, o0, c0, e0, hl0, hc0⟩ := hrow 0 (by omega)
  rw [Nat.add_zero] at e0
  have HROW := Lib.hid hrow; have HNUM := Lib.hid hnum; have HC0 := Lib.hid hc0; have HE0 := Lib.hid e0
  obtain ⟨D, hD⟩ : ∃ D, r1B R C m = D := ⟨_, rfl⟩
  rw [hD]
  have HD := Lib.hid hD
  have y0 : 0 < R := by omega
  have y1 : 0 < C := by omega
  clear hr hrow hnum hc0 hD e0
  go_enter Try.func31, Try.ntmps31
  go_wp2_with fail
  go_loopw [9] (fun v wr => ∃ i : Nat, i ≤ R ∧ v = .int .i64 i ∧ (∀ a b, a < i → b < C → okO m a b) ∧ Below w.heap.size w wr) (fun v _ => R - (intOf v).toNat)
  case atStart => exact ⟨0, Nat.zero_le _, rfl, fun a b h => by omega, Below.refl _ _⟩
  case round =>
    obtain ⟨wE, rfl⟩ : ∃ x : World, x = wr := ⟨_, rfl⟩
    obtain ⟨i, hi, rfl, hok, hbel⟩ := hrel
    have HOK := Lib.hid hok; clear hok
    by_cases hlt : i < R
    case neg =>
      obtain rfl : i = R := by omega
      have HE := Lib.hid (show D = true by rw [← HD.out]; exact r1B_t.2 HOK.out)
      go_wp2_with fail
      go_ret
      exact ⟨by rw [HE.out]; rfl, hbel⟩
    case pos =>
      obtain ⟨b2, o2, c2, e2, hl2, hc2⟩ := HROW.out i hlt
      have e2 := bcell hbel hbM e2
      have HC2 := Lib.hid hc2
      have x1 : (0 : Int) ≤ (i : Int) := by omega
      have x2 : (i : Int) < (R : Int) := by omega
      clear hc2
      go_wp2_with fail
      go_loopw [15] (fun v wr => ∃ k : Nat, k ≤ C ∧ v = .int .i64 k ∧ (∀ b, b < k → okO m i b) ∧ Below w.heap.size w wr) (fun v _ => C - (intOf v).toNat)
      case atStart => exact ⟨0, Nat.zero_le _, rfl, fun b h => by omega, hbel⟩
      case round =>
        obtain ⟨wI, rfl⟩ : ∃ x : World, x = wr := ⟨_, rfl⟩
        obtain ⟨k, hk, rfl, hok2, hbi⟩ := hrel
        have HOK2 := Lib.hid hok2; clear hok2 e2
        by_cases hlk : k < C
        case neg =>
          obtain rfl : k = C := by omega
          have HNX := Lib.hid (fun a b (ha : a < i + 1) (hb : b < k) => show okO m a b from by
            by_cases e : a = i
            · rw [e]; exact HOK2.out b hb
            · exact HOK.out a b (by omega) hb)
          go_wp2_with fail
          go_roundw
          case rel => exact ⟨i + 1, by omega, by go_num, HNX.out, hbi⟩
          case measure => simp [intOf]; omega
        case pos =>
          have kX := bcell hbi hl2 (HC2.out k hlk)
          have kA := bcell hbi hl2 (HC2.out 0 (by omega))
          have kP := bcell hbi hl0 (HC0.out k hlk)
          have kQ := bcell hbi hl0 (HC0.out 0 (by omega))
          rw [Nat.add_zero] at kA kQ
          have k0 := bcell hbi hbM HE0.out
          have nX := numB_t (HNUM.out i k hlt hlk)
          have nA := numB_t (HNUM.out i 0 hlt (by omega))
          have nP := numB_t (HNUM.out 0 k (by omega) hlk)
          have nQ := numB_t (HNUM.out 0 0 (by omega) (by omega))
          have hP0 : m i k ≠ 1000000000 → m 0 k ≠ 1000000000 := fun h => by
            by_cases e : i = 0
            · rw [← e]; exact h
            · exact (HOK.out 0 k (by omega) hlk).1
          have HNO := Lib.hid (fun (h : ¬ okO m i k) => show D = false by rw [← HD.out]; exact r1B_f hlt hlk h)
          have HOO := Lib.hid (show okO m i k ↔ (m i k ≠ 1000000000 ∧ m i k - m i 0 = m 0 k - m 0 0) from Iff.rfl)
          have HNX := Lib.hid (fun (h : okO m i k) b (hb : b < k + 1) => show okO m i b from by
            by_cases e : b = k
            · rw [e]; exact h
            · exact HOK2.out b (by omega))
          generalize okO m i k = OK at HNO HOO HNX
          generalize m i k = X at kX nX hP0 HOO
          generalize m i 0 = A at kA nA HOO
          generalize m 0 k = P at kP nP hP0 HOO
          generalize m 0 0 = Q at kQ nQ HOO
          have z1 : (0 : Int) ≤ (k : Int) := by omega
          have z2 : (k : Int) < (C : Int) := by omega
          by_cases hX : X = 1000000000
          · subst hX
            have hDf := HNO.out (fun h => (HOO.out.1 h).1 rfl)
            subst hDf
            clear nX nA nP nQ hP0 HNX
            have CF := Lib.hid (fun w => isFinite_c 1000000000 w)
            rw [show inB 1000000000 (-1000000) 1000000 = false from rfl] at CF
            go_wp2_with fail
            go_quiet ((go_at_call 54; exact Calls.quiet_of_same ((CF.out _).mono (fun e w' h => ⟨h.1, h.2.symm⟩))))
            go_wp2_with fail
            go_ret
            exact ⟨rfl, bdrewN hbi _⟩
          · have hP := hP0 hX
            have gX : (X == 1000000000) = false := beq_eq_false_iff_ne.2 hX
            have gP : (P == 1000000000) = false := beq_eq_false_iff_ne.2 hP
            have e1 : wrap64 (X - A) = X - A := by unfold wrap64; omega
            have e3 : wrap64 (P - Q) = P - Q := by unfold wrap64; omega
            have CF := Lib.hid (fun w => isFinite_c X w)
            rw [show inB X (-1000000) 1000000 = true from inB_t.2 (by omega)] at CF
            by_cases hE : X - A = P - Q
            · have HNN := Lib.hid (HNX.out (HOO.out.2 ⟨hX, hE⟩))
              have gE : (wrap64 (X - A) != wrap64 (P - Q)) = false := by rw [e1, e3, hE]; exact bne_self_eq_false _
              clear nX nA nP nQ hP0 HNX hX hP hE HOO HNO e1 e3
              go_wp2_with fail
              go_quiet ((go_at_call 54; exact Calls.quiet_of_same ((CF.out _).mono (fun e w' h => ⟨h.1, h.2.symm⟩))))
              go_wp2_with fail
              go_roundw
              case rel => exact ⟨k + 1, by omega, by go_num, HNN.out, bdrewN hbi _⟩
              case measure => simp [intOf]; omega
            · have gE : (wrap64 (X - A) != wrap64 (P - Q)) = true := by rw [e1, e3]; exact bne_iff_ne.2 hE
              have hDf := HNO.out (fun h => hE (HOO.out.1 h).2)
              subst hDf
              clear nX nA nP nQ hP0 HNX hX hP hE HOO HNO e1 e3
              go_wp2_with fail
              go_quiet ((go_at_call 54; exact Calls.quiet_of_same ((CF.out _).mono (fun e w' h => ⟨h.1, h.2.symm⟩))))
              go_wp2_with fail
              go_ret
              exact ⟨rfl, bdrewN hbi _⟩

set_option maxHeartbeats 3200000 in
set_option maxRecDepth 100000 in
theorem rkOne_c (R C : Nat) (ad : Option Addr) (cap : Nat) (m : Nat → Nat → Int) (w : World) (hr : RdM w ad (toG R C m)) (hR : 1 ≤ R ∧ R ≤ 6) (hC : 1 ≤ C ∧ C ≤ 6) (hnum : ∀ a b, a < R → b < C → numB (m a b) = true) :
    Calls Try.prog 35 #[.slice ad R cap] w fun e w' => e = .returned (.bool (r1B R C m)) ∧ Below w.heap.size w w' := by
  obtain ⟨bM, oM, rfl, hbM, hrow⟩ := hr.rowG (by omega) (by omega)
  obtain ⟨b0, o0, c0, e0, hl0, hc0⟩ := hrow 0 (by omega)
  rw [Nat.add_zero] at e0
  have HROW := Lib.hid hrow; have HNUM := Lib.hid hnum; have HC0 := Lib.hid hc0; have HE0 := Lib.hid e0
  obtain ⟨D, hD⟩ : ∃ D, r1B R C m = D := ⟨_, rfl⟩
  rw [hD]
  have HD := Lib.hid hD
  have y0 : 0 < R := by omega
  have y1 : 0 < C := by omega
  clear hr hrow hnum hc0 hD e0
  go_enter Try.func35, Try.ntmps35
  go_wp2_with fail
  go_loopw [9] (fun v wr => ∃ i : Nat, i ≤ R ∧ v = .int .i64 i ∧ (∀ a b, a < i → b < C → okO m a b) ∧ Below w.heap.size w wr) (fun v _ => R - (intOf v).toNat)
  case atStart => exact ⟨0, Nat.zero_le _, rfl, fun a b h => by omega, Below.refl _ _⟩
  case round =>
    obtain ⟨wE, rfl⟩ : ∃ x : World, x = wr := ⟨_, rfl⟩
    obtain ⟨i, hi, rfl, hok, hbel⟩ := hrel
    have HOK := Lib.hid hok; clear hok
    by_cases hlt : i < R
    case neg =>
      obtain rfl : i = R := by omega
      have HE := Lib.hid (show D = true by rw [← HD.out]; exact r1B_t.2 HOK.out)
      go_wp2_with fail
      go_ret
      exact ⟨by rw [HE.out]; rfl, hbel⟩
    case pos =>
      obtain ⟨b2, o2, c2, e2, hl2, hc2⟩ := HROW.out i hlt
      have e2 := bcell hbel hbM e2
      have HC2 := Lib.hid hc2
      have x1 : (0 : Int) ≤ (i : Int) := by omega
      have x2 : (i : Int) < (R : Int) := by omega
      clear hc2
      go_wp2_with fail
      go_loopw [15] (fun v wr => ∃ k : Nat, k ≤ C ∧ v = .int .i64 k ∧ (∀ b, b < k → okO m i b) ∧ Below w.heap.size w wr) (fun v _ => C - (intOf v).toNat)
      case atStart => exact ⟨0, Nat.zero_le _, rfl, fun b h => by omega, hbel⟩
      case round =>
        obtain ⟨wI, rfl⟩ : ∃ x : World, x = wr := ⟨_, rfl⟩
        obtain ⟨k, hk, rfl, hok2, hbi⟩ := hrel
        have HOK2 := Lib.hid hok2; clear hok2 e2
        by_cases hlk : k < C
        case neg =>
          obtain rfl : k = C := by omega
          have HNX := Lib.hid (fun a b (ha : a < i + 1) (hb : b < k) => show okO m a b from by
            by_cases e : a = i
            · rw [e]; exact HOK2.out b hb
            · exact HOK.out a b (by omega) hb)
          go_wp2_with fail
          go_roundw
          case rel => exact ⟨i + 1, by omega, by go_num, HNX.out, hbi⟩
          case measure => simp [intOf]; omega
        case pos =>
          have kX := bcell hbi hl2 (HC2.out k hlk)
          have kA := bcell hbi hl2 (HC2.out 0 (by omega))
          have kP := bcell hbi hl0 (HC0.out k hlk)
          have kQ := bcell hbi hl0 (HC0.out 0 (by omega))
          rw [Nat.add_zero] at kA kQ
          have k0 := bcell hbi hbM HE0.out
          have nX := numB_t (HNUM.out i k hlt hlk)
          have nA := numB_t (HNUM.out i 0 hlt (by omega))
          have nP := numB_t (HNUM.out 0 k (by omega) hlk)
          have nQ := numB_t (HNUM.out 0 0 (by omega) (by omega))
          have hP0 : m i k ≠ 1000000000 → m 0 k ≠ 1000000000 := fun h => by
            by_cases e : i = 0
            · rw [← e]; exact h
            · exact (HOK.out 0 k (by omega) hlk).1
          have HNO := Lib.hid (fun (h : ¬ okO m i k) => show D = false by rw [← HD.out]; exact r1B_f hlt hlk h)
          have HOO := Lib.hid (show okO m i k ↔ (m i k ≠ 1000000000 ∧ m i k - m i 0 = m 0 k - m 0 0) from Iff.rfl)
          have HNX := Lib.hid (fun (h : okO m i k) b (hb : b < k + 1) => show okO m i b from by
            by_cases e : b = k
            · rw [e]; exact h
            · exact HOK2.out b (by omega))
          generalize okO m i k = OK at HNO HOO HNX
          generalize m i k = X at kX nX hP0 HOO
          generalize m i 0 = A at kA nA HOO
          generalize m 0 k = P at kP nP hP0 HOO
          generalize m 0 0 = Q at kQ nQ HOO
          have z1 : (0 : Int) ≤ (k : Int) := by omega
          have z2 : (k : Int) < (C : Int) := by omega
          by_cases hX : X = 1000000000
          · subst hX
            have hDf := HNO.out (fun h => (HOO.out.1 h).1 rfl)
            subst hDf
            clear nX nA nP nQ hP0 HNX
            go_wp2_with fail
            go_quiet (fail)
            go_wp2_with fail
            go_ret
            exact ⟨rfl, bdrewN hbi _⟩
          · have hP := hP0 hX
            have gX : (X == 1000000000) = false := beq_eq_false_iff_ne.2 hX
            have gP : (P == 1000000000) = false := beq_eq_false_iff_ne.2 hP
            have e1 : wrap64 (X - A) = X - A := by unfold wrap64; omega
            have e3 : wrap64 (P - Q) = P - Q := by unfold wrap64; omega
            by_cases hE : X - A = P - Q
            · have HNN := Lib.hid (HNX.out (HOO.out.2 ⟨hX, hE⟩))
              have gE : (wrap64 (X - A) != wrap64 (P - Q)) = false := by rw [e1, e3, hE]; exact bne_self_eq_false _
              clear nX nA nP nQ hP0 HNX hX hP hE HOO HNO e1 e3
              go_wp2_with fail
              go_quiet (fail)
              go_wp2_with fail
              go_roundw
              case rel => exact ⟨k + 1, by omega, by go_num, HNN.out, bdrewN hbi _⟩
              case measure => simp [intOf]; omega
            · have gE : (wrap64 (X - A) != wrap64 (P - Q)) = true := by rw [e1, e3]; exact bne_iff_ne.2 hE
              have hDf := HNO.out (fun h => hE (HOO.out.1 h).2)
              subst hDf
              clear nX nA nP nQ hP0 HNX hX hP hE HOO HNO e1 e3
              go_wp2_with fail
              go_quiet (fail)
              go_wp2_with fail
              go_ret
              exact ⟨rfl, bdrewN hbi _⟩

set_option maxHeartbeats 800000 in
theorem iIsRankOne_c (ad : Option Addr) (cap : Nat) (M : List (List Int)) (w : World) (hr : RdM w ad M) (hl : smM M) :
    Calls Try.prog 8 #[.slice ad M.length cap] w fun e w' => e = .returned (.tuple #[.bool (matB M && r1B M.length (colN M) (entM M)), .bool (matB M)]) ∧ Below w.heap.size w w' := by
  have C1 := Lib.hid (isMatrix_c ad cap M w hr (by have := hl.1; omega) (fun i hi => by have := hl.2 i hi; omega))
  have C2 := Lib.hid (fun (h : matB M = true) u (hb : Below w.heap.size w u) => by
    obtain ⟨h1, h2, _, h4, h5⟩ := mat_facts h
    exact isRankOne_c M.length (colN M) ad cap (entM M) u (by rw [h5]; exact hr.below hb) h1 h2 h4)
  clear hr hl
  generalize r1B M.length (colN M) (entM M) = T at C2 ⊢
  generalize matB M = B at C1 C2 ⊢
  generalize M.length = n at C1 C2 ⊢
  cases B
  · clear C2
    rw [Bool.false_and]
    go_enter Try.func8, Try.ntmps8
    go_wp2_with fail
    refine C1.out.mono ?_
    rintro e w1 ⟨rfl, hb1⟩
    go_wp2_with fail
    exact bodyPost_ret (v := .tuple #[.bool false, .bool false]) (by simp [results, Try.results8, go_sem]) rfl ⟨rfl, hb1⟩
  · rw [Bool.true_and]
    go_enter Try.func8, Try.ntmps8
    go_wp2_with fail
    refine C1.out.mono ?_
    rintro e w1 ⟨rfl, hb1⟩
    go_wp2_with fail
    refine (C2.out (by first | rfl | trivial) _ (hb1)).mono ?_
    rintro e w2 ⟨rfl, hb2⟩
    have hb3 := ball hb1 hb2
    go_wp2_with fail
    exact bodyPost_ret (v := .tuple #[.bool T, .bool true]) (by simp [results, Try.results8, go_sem]) rfl ⟨rfl, hb3⟩

set_option maxHeartbeats 800000 in
theorem sIsRankOne_c (ad : Option Addr) (cap : Nat) (M : List (List Int)) (w : World) (hr : RdM w ad M) (hl : smM M) :
    Calls Try.prog 11 #[.slice ad M.length cap] w fun e w' => e = .returned (.tuple #[.bool (matB M && r1B M.length (colN M) (entM M)), .bool (matB M)]) ∧ Below w.heap.size w w' := by
  have C1 := Lib.hid (mxGood_c ad cap M w hr (by have := hl.1; omega) (fun i hi => by have := hl.2 i hi; omega))
  have C2 := Lib.hid (fun (h : matB M = true) u (hb : Below w.heap.size w u) => by
    obtain ⟨h1, h2, _, h4, h5⟩ := mat_facts h
    exact rkOne_c M.length (colN M) ad cap (entM M) u (by rw [h5]; exact hr.below hb) h1 h2 h4)
  clear hr hl
  generalize r1B M.length (colN M) (entM M) = T at C2 ⊢
  generalize matB M = B at C1 C2 ⊢
  generalize M.length = n at C1 C2 ⊢
  cases B
  · clear C2
    rw [Bool.false_and]
    go_enter Try.func11, Try.ntmps11
    go_wp2_with fail
    refine C1.out.mono ?_
    rintro e w1 ⟨rfl, rfl⟩
    go_wp2_with fail
    exact bodyPost_ret (v := .tuple #[.bool false, .bool false]) (by simp [results, Try.results11, go_sem]) rfl ⟨rfl, Below.refl _ _⟩
  · rw [Bool.true_and]
    go_enter Try.func11, Try.ntmps11
    go_wp2_with fail
    refine C1.out.mono ?_
    rintro e w1 ⟨rfl, rfl⟩
    go_wp2_with fail
    refine (C2.out (by first | rfl | trivial) _ (Below.refl _ _)).mono ?_
    rintro e w2 ⟨rfl, hb2⟩
    have hb3 := hb2
    go_wp2_with fail
    exact bodyPost_ret (v := .tuple #[.bool T, .bool true]) (by simp [results, Try.results11, go_sem]) rfl ⟨rfl, hb3⟩
end Go.Proofs.Ytnbenpalneodlaa
