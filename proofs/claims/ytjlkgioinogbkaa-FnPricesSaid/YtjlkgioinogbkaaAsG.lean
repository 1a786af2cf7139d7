/-
  Prices and assignments are tested: the program's. By an AI agent.
-/
import Derived.Test.YtjlkgioinogbkaaAsF
import Derived.Test.YtjlkgioinogbkaaWyG
namespace Go.Proofs.Ytjlkgioinogbkaa
open Go.RowKit

def prcQ (n : Nat) (m : Nat → Nat → Int) (u v : List Int) : Bool := (List.range n).all fun i => (List.range n).all fun k => decide (u.getD i 0 + v.getD k 0 ≤ m i k)
theorem prcQ_t {n : Nat} {m : Nat → Nat → Int} {u v : List Int} : prcQ n m u v = true ↔ ∀ i k, i < n → k < n → u.getD i 0 + v.getD k 0 ≤ m i k := by
  unfold prcQ
  simp only [List.all_eq_true, List.mem_range, decide_eq_true_eq]
  exact ⟨fun h i k hi hk => h i hi k hk, fun h i hi k hk => h i k hi hk⟩

set_option maxHeartbeats 1600000 in
set_option maxRecDepth 100000 in
theorem arePrices_c (n : Nat) (ad : Option Addr) (cap : Nat) (m : Nat → Nat → Int) (adu : Option Addr) (cu : Nat) (u : List Int) (adv : Option Addr) (cv : Nat) (v : List Int) (w : World) (hr : RdM w ad (toM n m)) (hu : RdI w adu u) (hv : RdI w adv v) (hn : 1 ≤ n ∧ n ≤ 6) (hul : u.length = n) (hvl : v.length = n) (hub : ∀ i, i < n → -1000000 ≤ u.getD i 0 ∧ u.getD i 0 ≤ 1000000) (hvb : ∀ i, i < n → -1000000 ≤ v.getD i 0 ∧ v.getD i 0 ≤ 1000000) :
    Calls Try.prog 33 #[.slice ad n cap, .slice adu n cu, .slice adv n cv] w fun e w' => e = .returned (.bool (prcQ n m u v)) ∧ Below w.heap.size w w' := by
  have HR := Lib.hid hr; have HU := Lib.hid hu; have HV := Lib.hid hv; have HUL := Lib.hid hul; have HVL := Lib.hid hvl; have HUB := Lib.hid hub; have HVB := Lib.hid hvb
  have HQ := Lib.hid (prcQ_t (n := n) (m := m) (u := u) (v := v))
  generalize prcQ n m u v = R at HQ ⊢
  clear hr hu hv hul hvl hub hvb
  go_enter Try.func33, Try.ntmps33
  go_wp2_with fail
  go_loopw [13] (fun x wr => ∃ i : Nat, i ≤ n ∧ x = .int .i64 i ∧ (∀ a k, a < i → k < n → u.getD a 0 + v.getD k 0 ≤ m a k) ∧ Below w.heap.size w wr) (fun x _ => n - (intOf x).toNat)
  case atStart => exact ⟨0, Nat.zero_le _, rfl, fun a k ha => by omega, Below.refl _ _⟩
  case round =>
    obtain ⟨wE, rfl⟩ : ∃ x : World, x = wr := ⟨_, rfl⟩
    obtain ⟨i, hin, rfl, hlow, hbel⟩ := hrel
    have HLOW := Lib.hid hlow; clear hlow
    by_cases hli : i < n
    case neg =>
      obtain rfl : i = n := by omega
      obtain rfl : R = true := HQ.out.2 (fun a k ha hk => HLOW.out a k ha hk)
      go_wp2_with fail
      go_ret
      exact ⟨rfl, hbel⟩
    case pos =>
      obtain ⟨bM, oM, rfl, hbM, hrow⟩ := HR.out.rowF (by omega)
      obtain ⟨b4, o4, c4, e4, hl4, hc4⟩ := hrow i hli
      have HC4 := Lib.hid hc4
      have e4 := bcell hbel hbM e4
      have x1 : (0 : Int) ≤ (i : Int) := by omega
      have x2 : (i : Int) < (n : Int) := by omega
      clear hrow hc4
      go_wp2_with fail
      go_loopw [20] (fun x wr => ∃ k : Nat, k ≤ n ∧ x = .int .i64 k ∧ (∀ q, q < k → u.getD i 0 + v.getD q 0 ≤ m i q) ∧ Below w.heap.size w wr) (fun x _ => n - (intOf x).toNat)
      case atStart => exact ⟨0, Nat.zero_le _, rfl, fun q hq => by omega, hbel⟩
      case round =>
        obtain ⟨wF, rfl⟩ : ∃ x : World, x = wr := ⟨_, rfl⟩
        obtain ⟨k, hkn, rfl, hlow, hbF⟩ := hrel
        have HLK := Lib.hid hlow; clear hlow e4
        by_cases hlk : k < n
        case neg =>
          have HUP := Lib.hid (show ∀ a q, a < i + 1 → q < n → u.getD a 0 + v.getD q 0 ≤ m a q from fun a q ha hq => by
            by_cases e : a = i
            · subst e; exact HLK.out q (by omega)
            · exact HLOW.out a q (by omega) hq)
          go_wp2_with fail
          go_roundw
          case rel => exact ⟨i + 1, by omega, by go_num, HUP.out, hbF⟩
          case measure => simp [intOf]; omega
        case pos =>
          have k4 := bcell hbF hl4 (HC4.out k hlk)
          obtain ⟨bu, ou, rfl, hbu, ku⟩ := HU.out i (by rw [HUL.out]; exact hli)
          obtain ⟨bv, ov, rfl, hbv, kv⟩ := HV.out k (by rw [HVL.out]; exact hlk)
          have ku := bcell hbF hbu ku
          have kv := bcell hbF hbv kv
          have b1 := HUB.out i hli
          have b2 := HVB.out k hlk
          have HNO := Lib.hid (show ¬ (u.getD i 0 + v.getD k 0 ≤ m i k) → R = false from fun h => by
            cases hR : R
            · rfl
            · exact absurd (HQ.out.1 hR i k hli hlk) h)
          have HYE := Lib.hid (show u.getD i 0 + v.getD k 0 ≤ m i k → ∀ q, q < k + 1 → u.getD i 0 + v.getD q 0 ≤ m i q from fun h q hq => by
            by_cases e : q = k
            · subst e; exact h
            · exact HLK.out q (by omega))
          generalize u.getD i 0 = X at ku b1 HNO HYE
          generalize v.getD k 0 = Y at kv b2 HNO HYE
          generalize m i k = D at k4 HNO HYE
          have y1 : (0 : Int) ≤ (k : Int) := by omega
          have y2 : (k : Int) < (n : Int) := by omega
          have e1 : IntKind.i64.wrap (X + Y) = X + Y := i64_small (by omega) (by omega)
          obtain ⟨S, hS⟩ : ∃ S, X + Y = S := ⟨_, rfl⟩
          rw [hS] at HNO
          have HSS := Lib.hid hS
          have e2 : Hid (IntKind.i64.wrap (X + Y) = S) := Lib.hid (by rw [e1]; exact hS)
          have e3 := e2.out
          clear b1 b2 e1 e2 hS
          by_cases hx : S ≤ D
          · have HY2 := Lib.hid (HYE.out (by rw [HSS.out]; exact hx))
            have g1 : decide (D < S) = false := decide_eq_false (by omega)
            clear HNO HYE hx
            go_wp2_with fail
            go_quiet (fail)
            go_wp2_with fail
            go_roundw
            case rel => exact ⟨k + 1, by omega, by go_num, HY2.out, bdrewN hbF _⟩
            case measure => simp [intOf]; omega
          · obtain rfl := HNO.out hx
            have g1 : decide (D < S) = true := decide_eq_true (by omega)
            clear HNO HYE hx
            go_wp2_with fail
            go_quiet (fail)
            go_wp2_with fail
            go_ret
            exact ⟨rfl, bdrewN hbF _⟩

def lsm (l : List Int) : Int := smN (fun i => l.getD i 0) l.length
theorem smN_bd {f : Nat → Int} {K : Int} : ∀ {t : Nat}, (∀ i, i < t → -K ≤ f i ∧ f i ≤ K) → -(K * (t : Int)) ≤ smN f t ∧ smN f t ≤ K * (t : Int)
  | 0, _ => by simp [smN]
  | t + 1, h => by
    have h1 := smN_bd (t := t) (fun i hi => h i (by omega))
    have h2 := h t (by omega)
    unfold smN
    rw [Int.natCast_add, Int.mul_add]
    constructor
    · have : K * ((1 : Nat) : Int) = K := by simp
      omega
    · have : K * ((1 : Nat) : Int) = K := by simp
      omega
set_option maxHeartbeats 800000 in
theorem total_c (ad : Option Addr) (cap : Nat) (l : List Int) (w : World) (hr : RdI w ad l) (hl : l.length ≤ 1000) (hb : ∀ i, i < l.length → -2000000000 ≤ l.getD i 0 ∧ l.getD i 0 ≤ 2000000000) :
    Calls Try.prog 36 #[.slice ad l.length cap] w fun e w' => e = .returned (.int .i64 (lsm l)) ∧ w = w' := by
  have HR := Lib.hid hr; have HB := Lib.hid hb
  unfold lsm
  obtain ⟨n, hn⟩ : ∃ n, l.length = n := ⟨_, rfl⟩
  have HN := Lib.hid hn
  rw [hn] at hl HB ⊢
  have HBD := Lib.hid (fun t (ht : t ≤ n) => smN_bd (f := fun i => l.getD i 0) (K := 2000000000) (t := t) (fun i hi => HB.out i (by omega)))
  clear hr hb hn
  go_enter Try.func36, Try.ntmps36
  go_wp2_with fail
  go_loop [3, 8] (fun x i => ∃ k : Nat, k ≤ n ∧ i = .int .i64 k ∧ x = .int .i64 (smN (fun i => l.getD i 0) k)) (fun _ i => n - (intOf i).toNat)
  case atStart => exact ⟨0, Nat.zero_le _, rfl, rfl⟩
  case round =>
    obtain ⟨k, hk, rfl, rfl⟩ := hrel
    by_cases hlt : k < n
    · obtain ⟨b, off, rfl, hbb, c0⟩ := HR.out k (by rw [HN.out]; exact hlt)
      have h1 := HBD.out k hk
      have h2 := HB.out k hlt
      have HS := Lib.hid (show smN (fun i => l.getD i 0) (k + 1) = smN (fun i => l.getD i 0) k + l.getD k 0 from rfl)
      generalize smN (fun i => l.getD i 0) k = S at h1 HS ⊢
      generalize l.getD k 0 = X at c0 h2 HS
      have e1 : IntKind.i64.wrap (S + X) = S + X := i64_small (by omega) (by omega)
      have x1 : (0 : Int) ≤ (k : Int) := by omega
      have x2 : (k : Int) < (n : Int) := by omega
      clear h1 h2
      go_wp2
      go_round
      case rel => exact ⟨k + 1, by omega, by go_num, by rw [HS.out]⟩
      case measure => simp [intOf]; omega
    · obtain rfl : k = n := by omega
      go_wp2
      go_ret
      exact ⟨rfl, rfl⟩
end Go.Proofs.Ytjlkgioinogbkaa
