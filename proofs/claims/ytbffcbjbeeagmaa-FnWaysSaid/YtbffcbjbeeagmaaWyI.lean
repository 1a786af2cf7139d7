/-
  Whether numbers are potentials; reduced matrices: program and reference. Printed by gen_wyI.py.
-/
import Derived.Test.YtbffcbjbeeagmaaWyH
namespace Go.Proofs.Ytbffcbjbeeagmaa
open Go.RowKit

def askB (M : List (List Int)) (p : List Int) : Bool := sqB M && (decide (p.length = M.length) && p.all finB)
def ptB (n : Nat) (m : Nat → Nat → Int) (p : List Int) : Bool := (List.range n).all fun i => (List.range n).all fun k => decide (p.getD k 0 ≤ prodZ (p.getD i 0) (m i k))
def hasB (M : List (List Int)) (p : List Int) : Bool := askB M p && ptB M.length (entM M) p
def redM (M : List (List Int)) (p : List Int) : List (List Int) := toM M.length fun i k => prodZ (entM M i k) (p.getD i 0 - p.getD k 0)
def redB (M : List (List Int)) (p : List Int) : Bool := hasB M p && nmB (redM M p)
theorem ptB_t {n : Nat} {m : Nat → Nat → Int} {p : List Int} : ptB n m p = true ↔ ∀ i k, i < n → k < n → p.getD k 0 ≤ prodZ (p.getD i 0) (m i k) := by
  unfold ptB
  rw [List.all_eq_true]
  constructor
  · intro h i k hi hk
    have := List.all_eq_true.1 (h i (List.mem_range.2 hi)) k (List.mem_range.2 hk)
    exact of_decide_eq_true this
  · intro h i hi
    rw [List.all_eq_true]
    intro k hk
    exact decide_eq_true (h i k (List.mem_range.1 hi) (List.mem_range.1 hk))
theorem ptB_f {n : Nat} {m : Nat → Nat → Int} {p : List Int} {i k : Nat} (hi : i < n) (hk : k < n) (h : prodZ (p.getD i 0) (m i k) < p.getD k 0) : ptB n m p = false := by
  rw [Bool.eq_false_iff]
  intro h2
  have := ptB_t.1 h2 i k hi hk
  omega
theorem fin_bd {p : List Int} (h : p.all finB = true) {i : Nat} (hi : i < p.length) : -1000000 ≤ p.getD i 0 ∧ p.getD i 0 ≤ 1000000 := inB_t.1 (List.all_eq_true.1 h _ (getD_memI hi))
theorem ask_facts {M : List (List Int)} {p : List Int} (h : askB M p = true) : sqB M = true ∧ p.length = M.length ∧ p.all finB = true := by
  unfold askB at h
  simp only [Bool.and_eq_true, decide_eq_true_eq] at h
  exact h

set_option maxHeartbeats 3200000 in
set_option maxRecDepth 100000 in
theorem arePotentials_c (n : Nat) (ad : Option Addr) (cap : Nat) (m : Nat → Nat → Int) (adp : Option Addr) (capp : Nat) (p : List Int) (w : World) (hr : RdM w ad (toM n m)) (hp : RdI w adp p) (hn : 1 ≤ n ∧ n ≤ 6) (hpn : p.length = n) (hpf : p.all finB = true) (hnum : ∀ a b, a < n → b < n → numB (m a b) = true) :
    Calls Try.prog 71 #[.slice ad n cap, .slice adp n capp] w fun e w' => e = .returned (.bool (ptB n m p)) ∧ Below w.heap.size w w' := by
  have HR := Lib.hid hr; have HP := Lib.hid hp
  have HF := Lib.hid (fun i (hi : i < n) => fin_bd hpf (i := i) (by rw [hpn]; exact hi))
  have HNUM := Lib.hid hnum; have HPN := Lib.hid hpn
  clear hr hp hpf hnum hpn
  obtain ⟨V, hV⟩ : ∃ V, ptB n m p = V := ⟨_, rfl⟩
  rw [hV]
  have HV := Lib.hid hV; clear hV
  go_enter Try.func71, Try.ntmps71
  go_wp2_with fail
  go_loopw [11] (fun i wr => ∃ a : Nat, a ≤ n ∧ i = .int .i64 a ∧ (∀ i k, i < a → k < n → p.getD k 0 ≤ prodZ (p.getD i 0) (m i k)) ∧ Below w.heap.size w wr) (fun i _ => n - (intOf i).toNat)
  case atStart => exact ⟨0, Nat.zero_le _, rfl, fun i k hi => absurd hi (Nat.not_lt_zero _), Below.refl _ _⟩
  case round =>
    obtain ⟨wE, rfl⟩ : ∃ x : World, x = wr := ⟨_, rfl⟩
    obtain ⟨a, ha, rfl, hlow, hbel⟩ := hrel
    have HL := Lib.hid hlow; clear hlow
    by_cases hla : a < n
    case neg =>
      obtain rfl : a = n := by omega
      obtain rfl : V = true := by rw [← HV.out]; exact ptB_t.2 HL.out
      go_wp2_with fail
      go_ret
      exact ⟨rfl, hbel⟩
    case pos =>
      obtain ⟨bM, oM, rfl, hbM, hrow⟩ := (HR.out).rowF (by omega)
      obtain ⟨b2, o2, c2, e2, hl2, hc2⟩ := hrow a hla
      have e2 := bcell hbel hbM e2
      have HC2 := Lib.hid hc2
      have x1 : (0 : Int) ≤ (a : Int) := by omega
      have x2 : (a : Int) < (n : Int) := by omega
      clear hrow hc2
      go_wp2_with fail
      go_loopw [18] (fun i wr => ∃ j : Nat, j ≤ n ∧ i = .int .i64 j ∧ (∀ k, k < j → p.getD k 0 ≤ prodZ (p.getD a 0) (m a k)) ∧ Below w.heap.size w wr) (fun i _ => n - (intOf i).toNat)
      case atStart => exact ⟨0, Nat.zero_le _, rfl, fun k hk => absurd hk (Nat.not_lt_zero _), hbel⟩
      case round =>
        obtain ⟨wJ, rfl⟩ : ∃ x : World, x = wr := ⟨_, rfl⟩
        obtain ⟨j, hj, rfl, hlow, hbel2⟩ := hrel
        have HL2 := Lib.hid hlow; clear hlow e2
        by_cases hlj : j < n
        case neg =>
          obtain rfl : j = n := by omega
          go_wp2_with fail
          go_roundw
          case rel =>
            refine ⟨a + 1, by omega, by go_num, fun i k hi hk => ?_, hbel2⟩
            by_cases e : i = a
            · subst e; exact HL2.out k hk
            · exact HL.out i k (by omega) hk
          case measure => simp [intOf]; omega
        case pos =>
          have k1 := bcell hbel2 hl2 (HC2.out j hlj)
          obtain ⟨bp, op, rfl, hbp, q1⟩ := HP.out a (by rw [HPN.out]; exact hla)
          have q2 := HP.out.at (j := j) (by rw [HPN.out]; exact hlj)
          have q1 := bcell hbel2 hbp q1
          have q2 := bcell hbel2 hbp q2
          have f1 := HF.out a hla
          have f2 := HF.out j hlj
          have hm := numB_t (HNUM.out a j hla hlj)
          have x3 : (0 : Int) ≤ (j : Int) := by omega
          have x4 : (j : Int) < (n : Int) := by omega
          have HNO := Lib.hid (show prodZ (p.getD a 0) (m a j) < p.getD j 0 → V = false from fun h => by rw [← HV.out]; exact ptB_f hla hlj h)
          have HYES := Lib.hid (show p.getD j 0 ≤ prodZ (p.getD a 0) (m a j) → ∀ k, k < j + 1 → p.getD k 0 ≤ prodZ (p.getD a 0) (m a k) from fun h k hk => by
            by_cases e : k = j
            · subst e; exact h
            · exact HL2.out k (by omega))
          generalize p.getD a 0 = A at q1 f1 HNO HYES ⊢
          generalize p.getD j 0 = B at q2 f2 HNO HYES
          generalize m a j = C at k1 hm HNO HYES
          by_cases hC : C = 1000000000
          case pos =>
            subst hC
            rw [prodZ_inf (Or.inr rfl)] at HNO HYES
            have HY := Lib.hid (HYES.out (by omega))
            clear HNO HYES
            go_wp2_with fail
            go_quiet (fail)
            go_wp2_with fail
            go_roundw
            case rel => exact ⟨j + 1, by omega, by go_num, HY.out, bdrewN hbel2 _⟩
            case measure => simp [intOf]; omega
          case neg =>
            have g1 : (C != 1000000000) = true := bne_iff_ne.2 hC
            have e1 : IntKind.i64.wrap (A + C) = A + C := i64_small (by omega) (by omega)
            rw [prodZ_fin (by omega) hC] at HNO HYES
            by_cases hx : A + C < B
            · obtain rfl := HNO.out hx
              have g2 : decide (A + C < B) = true := decide_eq_true hx
              clear HNO HYES
              go_wp2_with fail
              go_quiet (fail)
              go_wp2_with fail
              go_ret
              exact ⟨rfl, bdrewN hbel2 _⟩
            · have HY := Lib.hid (HYES.out (by omega))
              have g2 : decide (A + C < B) = false := decide_eq_false hx
              clear HNO HYES
              go_wp2_with fail
              go_quiet (fail)
              go_wp2_with fail
              go_roundw
              case rel => exact ⟨j + 1, by omega, by go_num, HY.out, bdrewN hbel2 _⟩
              case measure => simp [intOf]; omega

set_option maxHeartbeats 3200000 in
set_option maxRecDepth 100000 in
theorem wyPotentials_c (n : Nat) (ad : Option Addr) (cap : Nat) (m : Nat → Nat → Int) (adp : Option Addr) (capp : Nat) (p : List Int) (w : World) (hr : RdM w ad (toM n m)) (hp : RdI w adp p) (hn : 1 ≤ n ∧ n ≤ 6) (hpn : p.length = n) (hpf : p.all finB = true) (hnum : ∀ a b, a < n → b < n → numB (m a b) = true) :
    Calls Try.prog 75 #[.slice ad n cap, .slice adp n capp] w fun e w' => e = .returned (.bool (ptB n m p)) ∧ Below w.heap.size w w' := by
  have HR := Lib.hid hr; have HP := Lib.hid hp
  have HF := Lib.hid (fun i (hi : i < n) => fin_bd hpf (i := i) (by rw [hpn]; exact hi))
  have HNUM := Lib.hid hnum; have HPN := Lib.hid hpn
  clear hr hp hpf hnum hpn
  obtain ⟨V, hV⟩ : ∃ V, ptB n m p = V := ⟨_, rfl⟩
  rw [hV]
  have HV := Lib.hid hV; clear hV
  go_enter Try.func75, Try.ntmps75
  go_wp2_with fail
  go_loopw [11] (fun i wr => ∃ a : Nat, a ≤ n ∧ i = .int .i64 a ∧ (∀ i k, i < a → k < n → p.getD k 0 ≤ prodZ (p.getD i 0) (m i k)) ∧ Below w.heap.size w wr) (fun i _ => n - (intOf i).toNat)
  case atStart => exact ⟨0, Nat.zero_le _, rfl, fun i k hi => absurd hi (Nat.not_lt_zero _), Below.refl _ _⟩
  case round =>
    obtain ⟨wE, rfl⟩ : ∃ x : World, x = wr := ⟨_, rfl⟩
    obtain ⟨a, ha, rfl, hlow, hbel⟩ := hrel
    have HL := Lib.hid hlow; clear hlow
    by_cases hla : a < n
    case neg =>
      obtain rfl : a = n := by omega
      obtain rfl : V = true := by rw [← HV.out]; exact ptB_t.2 HL.out
      go_wp2_with fail
      go_ret
      exact ⟨rfl, hbel⟩
    case pos =>
      obtain ⟨bM, oM, rfl, hbM, hrow⟩ := (HR.out).rowF (by omega)
      obtain ⟨b2, o2, c2, e2, hl2, hc2⟩ := hrow a hla
      have e2 := bcell hbel hbM e2
      have HC2 := Lib.hid hc2
      have x1 : (0 : Int) ≤ (a : Int) := by omega
      have x2 : (a : Int) < (n : Int) := by omega
      clear hrow hc2
      go_wp2_with fail
      go_loopw [18] (fun i wr => ∃ j : Nat, j ≤ n ∧ i = .int .i64 j ∧ (∀ k, k < j → p.getD k 0 ≤ prodZ (p.getD a 0) (m a k)) ∧ Below w.heap.size w wr) (fun i _ => n - (intOf i).toNat)
      case atStart => exact ⟨0, Nat.zero_le _, rfl, fun k hk => absurd hk (Nat.not_lt_zero _), hbel⟩
      case round =>
        obtain ⟨wJ, rfl⟩ : ∃ x : World, x = wr := ⟨_, rfl⟩
        obtain ⟨j, hj, rfl, hlow, hbel2⟩ := hrel
        have HL2 := Lib.hid hlow; clear hlow e2
        by_cases hlj : j < n
        case neg =>
          obtain rfl : j = n := by omega
          go_wp2_with fail
          go_roundw
          case rel =>
            refine ⟨a + 1, by omega, by go_num, fun i k hi hk => ?_, hbel2⟩
            by_cases e : i = a
            · subst e; exact HL2.out k hk
            · exact HL.out i k (by omega) hk
          case measure => simp [intOf]; omega
        case pos =>
          have k1 := bcell hbel2 hl2 (HC2.out j hlj)
          obtain ⟨bp, op, rfl, hbp, q1⟩ := HP.out a (by rw [HPN.out]; exact hla)
          have q2 := HP.out.at (j := j) (by rw [HPN.out]; exact hlj)
          have q1 := bcell hbel2 hbp q1
          have q2 := bcell hbel2 hbp q2
          have f1 := HF.out a hla
          have f2 := HF.out j hlj
          have hm := numB_t (HNUM.out a j hla hlj)
          have x3 : (0 : Int) ≤ (j : Int) := by omega
          have x4 : (j : Int) < (n : Int) := by omega
          have HNO := Lib.hid (show prodZ (p.getD a 0) (m a j) < p.getD j 0 → V = false from fun h => by rw [← HV.out]; exact ptB_f hla hlj h)
          have HYES := Lib.hid (show p.getD j 0 ≤ prodZ (p.getD a 0) (m a j) → ∀ k, k < j + 1 → p.getD k 0 ≤ prodZ (p.getD a 0) (m a k) from fun h k hk => by
            by_cases e : k = j
            · subst e; exact h
            · exact HL2.out k (by omega))
          generalize p.getD a 0 = A at q1 f1 HNO HYES ⊢
          generalize p.getD j 0 = B at q2 f2 HNO HYES
          generalize m a j = C at k1 hm HNO HYES
          have CP := Lib.hid (fun w => nuPlus_c A C w (by omega))
          generalize prodZ A C = P at CP HNO HYES
          by_cases hx : P < B
          · obtain rfl := HNO.out hx
            have g2 : decide (P < B) = true := decide_eq_true hx
            clear HNO HYES
            go_wp2_with fail
            go_quiet ((go_at_call 48; exact Calls.quiet_of_same ((CP.out _).mono (fun e w' h => ⟨h.1, h.2.symm⟩))))
            go_wp2_with fail
            go_ret
            exact ⟨rfl, bdrewN hbel2 _⟩
          · have HY := Lib.hid (HYES.out (by omega))
            have g2 : decide (P < B) = false := decide_eq_false hx
            clear HNO HYES
            go_wp2_with fail
            go_quiet ((go_at_call 48; exact Calls.quiet_of_same ((CP.out _).mono (fun e w' h => ⟨h.1, h.2.symm⟩))))
            go_wp2_with fail
            go_roundw
            case rel => exact ⟨j + 1, by omega, by go_num, HY.out, bdrewN hbel2 _⟩
            case measure => simp [intOf]; omega

end Go.Proofs.Ytbffcbjbeeagmaa
