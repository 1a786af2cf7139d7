/-
  Some texts of this proof in one: AsU AsV AsW. Each part tells what it proves. By an AI agent.
-/
import Derived.Test.YtjlkgioinogbkaaAsT
import Derived.Test.YtjlkgioinogbkaaAsJ

/-
  Prices are tested, numbers are added: the reference's. By an AI agent.
-/
namespace Go.Proofs.Ytjlkgioinogbkaa
open Go.RowKit

set_option maxHeartbeats 1600000 in
set_option maxRecDepth 100000 in
theorem asPrices_c (n : Nat) (ad : Option Addr) (cap : Nat) (m : Nat → Nat → Int) (adu : Option Addr) (cu : Nat) (u : List Int) (adv : Option Addr) (cv : Nat) (v : List Int) (w : World) (hr : RdM w ad (toM n m)) (hu : RdI w adu u) (hv : RdI w adv v) (hn : 1 ≤ n ∧ n ≤ 6) (hul : u.length = n) (hvl : v.length = n) (hub : ∀ i, i < n → -1000000 ≤ u.getD i 0 ∧ u.getD i 0 ≤ 1000000) (hvb : ∀ i, i < n → -1000000 ≤ v.getD i 0 ∧ v.getD i 0 ≤ 1000000) :
    Calls Try.prog 42 #[.slice ad n cap, .slice adu n cu, .slice adv n cv] w fun e w' => e = .returned (.bool (prcQ n m u v)) ∧ Below w.heap.size w w' := by
  have HR := Lib.hid hr; have HU := Lib.hid hu; have HV := Lib.hid hv; have HUL := Lib.hid hul; have HVL := Lib.hid hvl; have HUB := Lib.hid hub; have HVB := Lib.hid hvb
  have HQ := Lib.hid (prcQ_t (n := n) (m := m) (u := u) (v := v))
  generalize prcQ n m u v = R at HQ ⊢
  clear hr hu hv hul hvl hub hvb
  go_enter Try.func42, Try.ntmps42
  go_wp2_with fail
  go_loopw [13] (fun x wr => ∃ i : Nat, i ≤ n ∧ x = .int .i64 i ∧ (∀ a k, a < i → k < n → u.getD a 0 + v.getD k 0 ≤ m a k) ∧ Below w.heap.size w wr) (fun x _ => n - (intOf x).toNat)
  case atStart => exact ⟨0, Nat.zero_le _, rfl, fun a k ha => by omega, Below.refl _ _⟩
  case round =>
    obtain ⟨wE, rfl⟩ : ∃ x : World, x = wr := ⟨_, rfl⟩
    obtain ⟨i, hin, rfl, hlow, hbel⟩ := hrel
    have HLOW := Lib.hid hlow; clear hlow
    by_cases hli : i < n
    case neg =>
      obtain rfl : i = n := by omega
      obtain rfl : R = true := HQ.out.2 (fun a k ha hk => HLOW.out a k ha hk)
      go_wp2_with fail
      go_ret
      exact ⟨rfl, hbel⟩
    case pos =>
      obtain ⟨bM, oM, rfl, hbM, hrow⟩ := HR.out.rowF (by omega)
      obtain ⟨b4, o4, c4, e4, hl4, hc4⟩ := hrow i hli
      have HC4 := Lib.hid hc4
      have e4 := bcell hbel hbM e4
      have x1 : (0 : Int) ≤ (i : Int) := by omega
      have x2 : (i : Int) < (n : Int) := by omega
      clear hrow hc4
      go_wp2_with fail
      go_loopw [20] (fun x wr => ∃ k : Nat, k ≤ n ∧ x = .int .i64 k ∧ (∀ q, q < k → u.getD i 0 + v.getD q 0 ≤ m i q) ∧ Below w.heap.size w wr) (fun x _ => n - (intOf x).toNat)
      case atStart => exact ⟨0, Nat.zero_le _, rfl, fun q hq => by omega, hbel⟩
      case round =>
        obtain ⟨wF, rfl⟩ : ∃ x : World, x = wr := ⟨_, rfl⟩
        obtain ⟨k, hkn, rfl, hlow, hbF⟩ := hrel
        have HLK := Lib.hid hlow; clear hlow e4
        by_cases hlk : k < n
        case neg =>
          have HUP := Lib.hid (show ∀ a q, a < i + 1 → q < n → u.getD a 0 + v.getD q 0 ≤ m a q from fun a q ha hq => by
            by_cases e : a = i
            · subst e; exact HLK.out q (by omega)
            · exact HLOW.out a q (by omega) hq)
          go_wp2_with fail
          go_roundw
          case rel => exact ⟨i + 1, by omega, by go_num, HUP.out, hbF⟩
          case measure => simp [intOf]; omega
        case pos =>
          have k4 := bcell hbF hl4 (HC4.out k hlk)
          obtain ⟨bu, ou, rfl, hbu, ku⟩ := HU.out i (by rw [HUL.out]; exact hli)
          obtain ⟨bv, ov, rfl, hbv, kv⟩ := HV.out k (by rw [HVL.out]; exact hlk)
          have ku := bcell hbF hbu ku
          have kv := bcell hbF hbv kv
          have b1 := HUB.out i hli
          have b2 := HVB.out k hlk
          have HNO := Lib.hid (show ¬ (u.getD i 0 + v.getD k 0 ≤ m i k) → R = false from fun h => by
            cases hR : R
            · rfl
            · exact absurd (HQ.out.1 hR i k hli hlk) h)
          have HYE := Lib.hid (show u.getD i 0 + v.getD k 0 ≤ m i k → ∀ q, q < k + 1 → u.getD i 0 + v.getD q 0 ≤ m i q from fun h q hq => by
            by_cases e : q = k
            · subst e; exact h
            · exact HLK.out q (by omega))
          generalize u.getD i 0 = X at ku b1 HNO HYE
          generalize v.getD k 0 = Y at kv b2 HNO HYE
          generalize m i k = D at k4 HNO HYE
          have y1 : (0 : Int) ≤ (k : Int) := by omega
          have y2 : (k : Int) < (n : Int) := by omega
          have e1 : IntKind.i64.wrap (X + Y) = X + Y := i64_small (by omega) (by omega)
          obtain ⟨S, hS⟩ : ∃ S, X + Y = S := ⟨_, rfl⟩
          rw [hS] at HNO
          have HSS := Lib.hid hS
          have e2 : Hid (IntKind.i64.wrap (X + Y) = S) := Lib.hid (by rw [e1]; exact hS)
          have e3 := e2.out
          clear b1 b2 e1 e2 hS
          by_cases hx : S ≤ D
          · have HY2 := Lib.hid (HYE.out (by rw [HSS.out]; exact hx))
            have g1 : decide (D < S) = false := decide_eq_false (by omega)
            clear HNO HYE hx
            go_wp2_with fail
            go_quiet (fail)
            go_wp2_with fail
            go_roundw
            case rel => exact ⟨k + 1, by omega, by go_num, HY2.out, bdrewN hbF _⟩
            case measure => simp [intOf]; omega
          · obtain rfl := HNO.out hx
            have g1 : decide (D < S) = true := decide_eq_true (by omega)
            clear HNO HYE hx
            go_wp2_with fail
            go_quiet (fail)
            go_wp2_with fail
            go_ret
            exact ⟨rfl, bdrewN hbF _⟩

set_option maxHeartbeats 800000 in
theorem chSum_c (ad : Option Addr) (cap : Nat) (l : List Int) (w : World) (hr : RdI w ad l) (hl : l.length ≤ 1000) (hb : ∀ i, i < l.length → -2000000000 ≤ l.getD i 0 ∧ l.getD i 0 ≤ 2000000000) :
    Calls Try.prog 43 #[.slice ad l.length cap] w fun e w' => e = .returned (.int .i64 (lsm l)) ∧ w = w' := by
  have HR := Lib.hid hr; have HB := Lib.hid hb
  unfold lsm
  obtain ⟨n, hn⟩ : ∃ n, l.length = n := ⟨_, rfl⟩
  have HN := Lib.hid hn
  rw [hn] at hl HB ⊢
  have HBD := Lib.hid (fun t (ht : t ≤ n) => smN_bd (f := fun i => l.getD i 0) (K := 2000000000) (t := t) (fun i hi => HB.out i (by omega)))
  clear hr hb hn
  go_enter Try.func43, Try.ntmps43
  go_wp2_with fail
  go_loop [3, 8] (fun x i => ∃ k : Nat, k ≤ n ∧ i = .int .i64 k ∧ x = .int .i64 (smN (fun i => l.getD i 0) k)) (fun _ i => n - (intOf i).toNat)
  case atStart => exact ⟨0, Nat.zero_le _, rfl, rfl⟩
  case round =>
    obtain ⟨k, hk, rfl, rfl⟩ := hrel
    by_cases hlt : k < n
    · obtain ⟨b, off, rfl, hbb, c0⟩ := HR.out k (by rw [HN.out]; exact hlt)
      have h1 := HBD.out k hk
      have h2 := HB.out k hlt
      have HS := Lib.hid (show smN (fun i => l.getD i 0) (k + 1) = smN (fun i => l.getD i 0) k + l.getD k 0 from rfl)
      generalize smN (fun i => l.getD i 0) k = S at h1 HS ⊢
      generalize l.getD k 0 = X at c0 h2 HS
      have e1 : IntKind.i64.wrap (S + X) = S + X := i64_small (by omega) (by omega)
      have x1 : (0 : Int) ≤ (k : Int) := by omega
      have x2 : (k : Int) < (n : Int) := by omega
      clear h1 h2
      go_wp2
      go_round
      case rel => exact ⟨k + 1, by omega, by go_num, by rw [HS.out]⟩
      case measure => simp [intOf]; omega
    · obtain rfl : k = n := by omega
      go_wp2
      go_ret
      exact ⟨rfl, rfl⟩

theorem finB_all {u : List Int} : u.all finB = allB u (-1000000) 1000000 := rfl

set_option maxHeartbeats 1600000 in
set_option maxRecDepth 100000 in
theorem asNumbers_c (ad : Option Addr) (cap : Nat) (M : List (List Int)) (adu : Option Addr) (cu : Nat) (u : List Int) (adv : Option Addr) (cv : Nat) (v : List Int) (w : World) (hr : RdM w ad M) (hl : smM M) (hu : RdI w adu u) (hul : u.length ≤ 1048576) (hv : RdI w adv v) (hvl : v.length ≤ 1048576) :
    Calls Try.prog 40 #[.slice ad M.length cap, .slice adu u.length cu, .slice adv v.length cv] w fun e w' => e = .returned (.bool (askP M u v)) ∧ w = w' := by
  have C1 := Lib.hid (mxSquare_c ad cap M w hr (by have := hl.1; omega) (fun i hi => by have := hl.2 i hi; omega))
  have C2 := Lib.hid (l1All_any adu cu u (-1000000) 1000000 w hul hu)
  have C3 := Lib.hid (l1All_any adv cv v (-1000000) 1000000 w hvl hv)
  have HA := Lib.hid (show askP M u v = (sqB M && ((decide (u.length = M.length) && allB u (-1000000) 1000000) && (decide (v.length = M.length) && allB v (-1000000) 1000000))) from rfl)
  rw [HA.out]
  have hnb := hl.1
  clear hr hl hu hv HA
  generalize allB u (-1000000) 1000000 = X at C2 ⊢
  generalize allB v (-1000000) 1000000 = Y at C3 ⊢
  generalize sqB M = S at C1 ⊢
  generalize M.length = n at C1 hnb ⊢
  generalize u.length = nu at C2 hul ⊢
  generalize v.length = nv at C3 hvl ⊢
  cases S
  · clear C2 C3
    go_enter Try.func40, Try.ntmps40
    go_wp2_with fail
    refine C1.out.mono ?_
    rintro e w1 ⟨rfl, rfl⟩
    go_wp2_with fail
    go_ret
    exact ⟨ret_bool (by simp), rfl⟩
  · by_cases h1 : nu = n
    · subst h1
      by_cases h2 : nv = nu
      · subst h2
        cases X
        · clear C3
          go_enter Try.func40, Try.ntmps40
          go_wp2_with fail
          refine C1.out.mono ?_
          rintro e w1 ⟨rfl, rfl⟩
          go_wp2_with fail
          refine C2.out.mono ?_
          rintro e w1 ⟨rfl, rfl⟩
          go_wp2_with fail
          go_ret
          exact ⟨ret_bool (by simp), rfl⟩
        · go_enter Try.func40, Try.ntmps40
          go_wp2_with fail
          refine C1.out.mono ?_
          rintro e w1 ⟨rfl, rfl⟩
          go_wp2_with fail
          refine C2.out.mono ?_
          rintro e w1 ⟨rfl, rfl⟩
          go_wp2_with fail
          refine C3.out.mono ?_
          rintro e w1 ⟨rfl, rfl⟩
          go_wp2_with fail
          go_ret
          exact ⟨ret_bool (by simp), rfl⟩
      · have g2 : ((nv : Int) == (nu : Int)) = false := beq_eq_false_iff_ne.2 (by omega)
        rw [decide_eq_false h2]
        clear C2 C3 h2
        go_enter Try.func40, Try.ntmps40
        go_wp2_with fail
        refine C1.out.mono ?_
        rintro e w1 ⟨rfl, rfl⟩
        go_wp2_with fail
        go_ret
        exact ⟨ret_bool (by simp), rfl⟩
    · have g2 : ((nu : Int) == (n : Int)) = false := beq_eq_false_iff_ne.2 (by omega)
      rw [decide_eq_false h1]
      clear C2 C3 h1
      go_enter Try.func40, Try.ntmps40
      go_wp2_with fail
      refine C1.out.mono ?_
      rintro e w1 ⟨rfl, rfl⟩
      go_wp2_with fail
      go_ret
      exact ⟨ret_bool (by simp), rfl⟩
end Go.Proofs.Ytjlkgioinogbkaa

/-
  Whether a list is a possible assignment: the reference's. By an AI agent.
-/
namespace Go.Proofs.Ytjlkgioinogbkaa
open Go.RowKit

def gdF (m : Nat → Nat → Int) (a : List Int) : Nat → Bool
  | 0 => true
  | t + 1 => gdF m a t && (!decide (a.getD t 0 ∈ a.take t) && !decide (m t (vx a t) = 1000000000))
theorem gdF_mono {m : Nat → Nat → Int} {a : List Int} {s t : Nat} (h : s ≤ t) (ht : gdF m a t = true) : gdF m a s = true := by
  induction t with
  | zero => rw [show s = 0 by omega]; rfl
  | succ t ih =>
    by_cases e : s = t + 1
    · rw [e]; exact ht
    · unfold gdF at ht
      rw [Bool.and_eq_true] at ht
      exact ih (by omega) ht.1
theorem gdF_nd {n : Nat} {m : Nat → Nat → Int} {a : List Int} (hin : ∀ t, t < a.length → inB (a.getD t 0) 0 ((n : Int) - 1) = true) : ∀ t, t ≤ a.length → gdF m a t = (ndF n a t && fnB m a t)
  | 0, _ => rfl
  | t + 1, h => by
    unfold gdF ndF fnB
    rw [gdF_nd hin t (by omega), hin t (by omega)]
    have : (a.take t).contains (a.getD t 0) = decide (a.getD t 0 ∈ a.take t) := by simp
    rw [this]
    cases ndF n a t <;> cases fnB m a t <;> simp
theorem good_eq {n : Nat} {m : Nat → Nat → Int} {a : List Int} : (asgB n a && finP m a) = (decide (a.length = n) && (allB a 0 ((n : Int) - 1) && gdF m a a.length)) := by
  unfold asgB finP
  by_cases hl : a.length = n
  · rw [decide_eq_true hl, Bool.true_and, Bool.true_and]
    cases hA : allB a 0 ((n : Int) - 1)
    · rw [Bool.false_and]
      cases hN : ndF n a a.length
      · rfl
      · have hasg : asgB n a = true := by unfold asgB; rw [decide_eq_true hl, hN]; rfl
        obtain ⟨_, h2⟩ := asg_ndp hasg
        have : allB a 0 ((n : Int) - 1) = true := allB_t.2 fun j hj => by
          have := vt_at h2.vt hj
          omega
        rw [hA] at this
        cases this
    · rw [Bool.true_and, gdF_nd (n := n) (fun t ht => inB_t.2 (allB_t.1 hA t ht)) _ (Nat.le_refl _)]
  · rw [decide_eq_false hl, Bool.false_and, Bool.false_and, Bool.false_and]

theorem RdI.takeA {w : World} {ad : Option Addr} {l : List Int} (h : RdI w ad l) (k : Nat) : RdI w ad (l.take k) := fun j hj => by
  have hj' : j < k ∧ j < l.length := by rw [List.length_take] at hj; omega
  obtain ⟨b', off', e, hl, c0⟩ := h j hj'.2
  have e' : (l.take k).getD j 0 = l.getD j 0 := by simp [List.getD_eq_getElem?_getD, hj'.1]
  exact ⟨b', off', e, hl, by rw [e']; exact c0⟩

set_option maxHeartbeats 3200000 in
set_option maxRecDepth 100000 in
theorem asGood_c (n : Nat) (ad : Option Addr) (cap : Nat) (m : Nat → Nat → Int) (adA : Option Addr) (cA : Nat) (a : List Int) (w : World) (hr : RdM w ad (toM n m)) (hA : RdI w adA a) (hn : 1 ≤ n ∧ n ≤ 6) (hcap : a.length ≤ cA) (hal : a.length ≤ 1048576) :
    Calls Try.prog 41 #[.slice ad n cap, .slice adA a.length cA] w fun e w' => e = .returned (.bool (asgB n a && finP m a)) ∧ Below w.heap.size w w' := by
  rw [good_eq]
  have e0 : IntKind.i64.wrap ((n : Int) - 1) = (n : Int) - 1 := i64_small (by omega) (by omega)
  have C1 := Lib.hid (l1All_any adA cA a 0 ((n : Int) - 1) w hal hA)
  by_cases hl : a.length = n
  case neg =>
    rw [decide_eq_false hl, Bool.false_and]
    have hne : ((a.length : Int) == (n : Int)) = false := beq_eq_false_iff_ne.2 (by omega)
    have hne2 : ¬ (a.length : Int) = (n : Int) := by omega
    generalize a.length = q at hne hne2 ⊢
    clear hl C1
    go_enter Try.func41, Try.ntmps41
    go_wp2_with fail
    go_ret
    exact ⟨rfl, Below.refl _ _⟩
  case pos =>
    rw [decide_eq_true hl, Bool.true_and]
    cases hB : allB a 0 ((n : Int) - 1)
    · rw [Bool.false_and]
      rw [hB, hl] at C1
      rw [hl]
      go_enter Try.func41, Try.ntmps41
      go_wp2_with fail
      refine C1.out.mono ?_
      rintro e w1 ⟨rfl, rfl⟩
      go_wp2_with fail
      go_ret
      exact ⟨rfl, Below.refl _ _⟩
    · rw [Bool.true_and, hl]
      rw [hB, hl] at C1
      rw [hl] at hcap
      have HVX := Lib.hid (fun t (ht : t < n) => show a.getD t 0 = (vx a t : Int) ∧ vx a t < n from by
        have h1 := allB_t.1 hB t (by omega)
        unfold vx
        omega)
      have HR := Lib.hid hr; have HRA := Lib.hid hA; have HL := Lib.hid hl
      have HS := Lib.hid (fun t => show gdF m a (t + 1) = (gdF m a t && (!decide (a.getD t 0 ∈ a.take t) && !decide (m t (vx a t) = 1000000000))) from rfl)
      have HM := Lib.hid (fun t (ht : t ≤ n) (h : gdF m a t = false) => show gdF m a n = false by
        cases hh : gdF m a n
        · rfl
        · rw [gdF_mono ht hh] at h; cases h)
      obtain ⟨R, hR⟩ : ∃ R, gdF m a n = R := ⟨_, rfl⟩
      rw [hR] at HM ⊢
      have HRR := Lib.hid hR
      clear hR hr hA hB hl
      go_enter Try.func41, Try.ntmps41
      go_wp2_with fail
      refine C1.out.mono ?_
      rintro e w1 ⟨rfl, rfl⟩
      go_wp2_with fail
      go_loopw [22] (fun x wr => ∃ t : Nat, t ≤ n ∧ x = .int .i64 t ∧ gdF m a t = true ∧ wr = w) (fun x _ => n - (intOf x).toNat)
      case atStart => exact ⟨0, Nat.zero_le _, rfl, rfl, rfl⟩
      case round =>
        obtain ⟨t, htn, rfl, hgd, rfl⟩ := hrel
        have HGD := Lib.hid hgd; clear hgd
        by_cases hlt : t < n
        case neg =>
          obtain rfl : t = n := by omega
          obtain rfl : R = true := by rw [← HRR.out]; exact HGD.out
          go_wp2_with fail
          go_ret
          exact ⟨rfl, Below.refl _ _⟩
        case pos =>
          obtain ⟨v1, u1⟩ := HVX.out t hlt
          obtain ⟨b, off, rfl, hbb, c0⟩ := HRA.out t (by rw [HL.out]; exact hlt)
          have hst := HS.out t
          rw [HGD.out, Bool.true_and] at hst
          have HMT := Lib.hid (HM.out (t + 1) (by omega))
          have CON := Lib.hid (l1HasW (some ⟨b, off, none⟩) cA (a.take t) (a.getD t 0) wr (by rw [List.length_take]; omega) (RdI.takeA HRA.out t))
          rw [show (a.take t).length = t by rw [List.length_take, HL.out]; omega] at CON
          obtain ⟨bM, oM, rfl, hbM, hrow⟩ := HR.out.rowF (by omega)
          obtain ⟨b4, o4, c4, e4, hl4, hc4⟩ := hrow t hlt
          have k4 := hc4 _ u1
          rw [v1] at c0 CON hst
          generalize decide (((vx a t : Nat) : Int) ∈ a.take t) = C at CON hst
          generalize vx a t = q at c0 CON hst u1 k4
          generalize m t q = D at k4 hst
          have x1 : (0 : Int) ≤ (t : Int) := by omega
          have x2 : (t : Int) < (n : Int) := by omega
          have x3 : (0 : Int) ≤ (q : Int) := by omega
          have x4 : (q : Int) < (n : Int) := by omega
          have x5 : (t : Int) ≤ (cA : Int) := by omega
          clear hrow hc4 v1
          cases C
          · by_cases hD : D = 1000000000
            · obtain rfl : R = false := HMT.out (by rw [hst, hD]; rfl)
              subst hD
              clear hst
              go_wp2_with fail
              refine CON.out.mono ?_
              rintro e w1 ⟨rfl, rfl⟩
              go_wp2_with fail
              go_ret
              exact ⟨rfl, Below.refl _ _⟩
            · have HN2 := Lib.hid (show gdF m a (t + 1) = true by rw [hst, decide_eq_false hD]; rfl)
              have gD : (D == 1000000000) = false := beq_eq_false_iff_ne.2 hD
              clear hst
              go_wp2_with fail
              refine CON.out.mono ?_
              rintro e w1 ⟨rfl, rfl⟩
              go_wp2_with fail
              go_roundw
              case rel => exact ⟨t + 1, by omega, by go_num, HN2.out, trivial⟩
              case measure => simp [intOf]; omega
          · obtain rfl : R = false := HMT.out (by rw [hst]; rfl)
            clear hst
            go_wp2_with fail
            refine CON.out.mono ?_
            rintro e w1 ⟨rfl, rfl⟩
            go_wp2_with fail
            go_ret
            exact ⟨rfl, Below.refl _ _⟩
end Go.Proofs.Ytjlkgioinogbkaa

/-
  The reference's ArePrices and IsProvedBest. By an AI agent.
-/
namespace Go.Proofs.Ytjlkgioinogbkaa
open Go.RowKit

set_option maxHeartbeats 1600000 in
set_option maxRecDepth 100000 in
theorem sArePrices_c (ad : Option Addr) (cap : Nat) (M : List (List Int)) (adu : Option Addr) (cu : Nat) (u : List Int) (adv : Option Addr) (cv : Nat) (v : List Int) (w : World) (hr : RdM w ad M) (hl : smM M) (hu : RdI w adu u) (hul : u.length ≤ 1048576) (hv : RdI w adv v) (hvl : v.length ≤ 1048576) :
    Calls Try.prog 20 #[.slice ad M.length cap, .slice adu u.length cu, .slice adv v.length cv] w fun e w' => e = .returned (.tuple #[.bool (prcB M u v), .bool (askP M u v)]) ∧ Below w.heap.size w w' := by
  have C1 := Lib.hid (asNumbers_c ad cap M adu cu u adv cv v w hr hl hu hul hv hvl)
  have C4 := Lib.hid (fun (h : askP M u v = true) => by
    obtain ⟨h1, h2, h3⟩ := askP_t h
    obtain ⟨hn, _, _⟩ := sq_facts h1
    have hr2 := hr
    rw [← sq_toM h1] at hr2
    obtain ⟨g1, g2⟩ := oneP_t h2
    obtain ⟨g3, g4⟩ := oneP_t h3
    have := asPrices_c M.length ad cap (entM M) adu cu u adv cv v w hr2 hu hv hn g1 g3 g2 g4
    exact (show Calls Try.prog 42 #[.slice ad M.length cap, .slice adu u.length cu, .slice adv v.length cv] w _ by rw [g1, g3]; exact this))
  unfold prcB
  clear hr hl hu hul hv hvl
  generalize prcQ M.length (entM M) u v = Q at C4 ⊢
  generalize askP M u v = K at C1 C4 ⊢
  generalize M.length = n at C1 C4 ⊢
  generalize u.length = nu at C1 C4 ⊢
  generalize v.length = nv at C1 C4 ⊢
  cases K
  · clear C4
    rw [Bool.false_and]
    go_enter Try.func20, Try.ntmps20
    go_wp2_with fail
    refine C1.out.mono ?_
    rintro e w1 ⟨rfl, rfl⟩
    go_wp2_with fail
    go_ret2
    exact ⟨rfl, Below.refl _ _⟩
  · have D4 := Lib.hid (C4.out rfl)
    clear C4
    rw [Bool.true_and]
    go_enter Try.func20, Try.ntmps20
    go_wp2_with fail
    refine C1.out.mono ?_
    rintro e w1 ⟨rfl, rfl⟩
    go_wp2_with fail
    refine D4.out.mono ?_
    rintro e w3 ⟨rfl, hb3⟩
    go_wp2_with fail
    go_ret2
    exact ⟨rfl, hb3⟩

theorem fin_sum {M : List (List Int)} {a : List Int} (hs : sqB M = true) (h : asgB M.length a = true) (hf : finP (entM M) a = true) : smN (fun i => entM M i (vx a i)) M.length = costP (entM M) a := by
  obtain ⟨hn, _, hnum⟩ := sq_facts hs
  obtain ⟨h1, h2⟩ := asg_ndp h
  rcases (prm_cost (m := entM M) hnum hn h2 h1).2 with ⟨g1, _⟩ | ⟨_, _, g2, _⟩
  · rw [hf] at g1; cases g1
  · exact g2.symm

set_option maxHeartbeats 3200000 in
set_option maxRecDepth 100000 in
theorem sProvedBest_c (ad : Option Addr) (cap : Nat) (M : List (List Int)) (adA : Option Addr) (cA : Nat) (a : List Int) (adu : Option Addr) (cu : Nat) (u : List Int) (adv : Option Addr) (cv : Nat) (v : List Int) (w : World) (hr : RdM w ad M) (hl : smM M) (hA : RdI w adA a) (hcap : a.length ≤ cA) (hal : a.length ≤ 1048576) (hu : RdI w adu u) (hul : u.length ≤ 1048576) (hv : RdI w adv v) (hvl : v.length ≤ 1048576) :
    Calls Try.prog 17 #[.slice ad M.length cap, .slice adA a.length cA, .slice adu u.length cu, .slice adv v.length cv] w fun e w' => e = .returned (.tuple #[.bool (pvB M a u v), .bool (pvX M a u v)]) ∧ Below w.heap.size w w' := by
  have C1 := Lib.hid (asNumbers_c ad cap M adu cu u adv cv v w hr hl hu hul hv hvl)
  have hrx := fun (h : askP M u v = true) x (hb : Below w.heap.size w x) => (show RdM x ad (toM M.length (entM M)) by
    rw [sq_toM (askP_t h).1]; exact hr.below hb)
  have C2 := Lib.hid (fun (h : askP M u v = true) x (hb : Below w.heap.size w x) => asGood_c M.length ad cap (entM M) adA cA a x (hrx h x hb) (hA.below hb) (sq_facts (askP_t h).1).1 hcap hal)
  have C3 := Lib.hid (fun (h : askP M u v = true) (h2 : (asgB M.length a && finP (entM M) a) = true) x (hb : Below w.heap.size w x) => by
    rw [Bool.and_eq_true] at h2
    obtain ⟨hn, _, hnum⟩ := sq_facts (askP_t h).1
    obtain ⟨g1, g2⟩ := asg_ndp h2.1
    have := asCost_c M.length ad cap (entM M) adA cA a x (hrx h x hb) (hA.below hb) hn g1 g2.vt hnum
    rw [fin_sum (askP_t h).1 h2.1 h2.2] at this
    exact (show Calls Try.prog 44 #[.slice ad M.length cap, .slice adA a.length cA] x _ by rw [g1]; exact this))
  have C4 := Lib.hid (fun (h : askP M u v = true) x (hb : Below w.heap.size w x) => by
    obtain ⟨h1, h2, h3⟩ := askP_t h
    obtain ⟨g1, g2⟩ := oneP_t h2
    obtain ⟨g3, g4⟩ := oneP_t h3
    have := asPrices_c M.length ad cap (entM M) adu cu u adv cv v x (hrx h x hb) (hu.below hb) (hv.below hb) (sq_facts h1).1 g1 g3 g2 g4
    exact (show Calls Try.prog 42 #[.slice ad M.length cap, .slice adu u.length cu, .slice adv v.length cv] x _ by rw [g1, g3]; exact this))
  have hsum : ∀ l : List Int, oneP M l = true → M.length ≤ 6 → (∀ i, i < l.length → -2000000000 ≤ l.getD i 0 ∧ l.getD i 0 ≤ 2000000000) ∧ -6000000 ≤ lsm l ∧ lsm l ≤ 6000000 := fun l h h6 => by
    obtain ⟨g1, g2⟩ := oneP_t h
    have g3 := smN_bd (f := fun i => l.getD i 0) (K := 1000000) (t := l.length) (fun i hi => g2 i (by omega))
    refine ⟨fun i hi => by have := g2 i (by omega); omega, ?_, ?_⟩ <;> (unfold lsm; omega)
  have C5 := Lib.hid (fun (h : askP M u v = true) x (hb : Below w.heap.size w x) => chSum_c adu cu u x (hu.below hb) (by have := (oneP_t (askP_t h).2.1).1; have := (sq_facts (askP_t h).1).1; omega) (hsum u (askP_t h).2.1 (sq_facts (askP_t h).1).1.2).1)
  have C6 := Lib.hid (fun (h : askP M u v = true) x (hb : Below w.heap.size w x) => chSum_c adv cv v x (hv.below hb) (by have := (oneP_t (askP_t h).2.2).1; have := (sq_facts (askP_t h).1).1; omega) (hsum v (askP_t h).2.2 (sq_facts (askP_t h).1).1.2).1)
  have HSM := Lib.hid (fun (h : askP M u v = true) => show (-6000000 ≤ lsm u ∧ lsm u ≤ 6000000) ∧ -6000000 ≤ lsm v ∧ lsm v ≤ 6000000 from ⟨(hsum u (askP_t h).2.1 (sq_facts (askP_t h).1).1.2).2, (hsum v (askP_t h).2.2 (sq_facts (askP_t h).1).1.2).2⟩)
  unfold pvB pvX
  clear hr hl hA hu hul hv hvl hsum hrx hcap hal
  generalize prcQ M.length (entM M) u v = Q at C4 ⊢
  generalize askP M u v = K at C1 C2 C3 C4 C5 C6 HSM ⊢
  generalize costP (entM M) a = X at C3 ⊢
  generalize (asgB M.length a && finP (entM M) a) = G at C2 C3 ⊢
  generalize lsm u = su at C5 HSM ⊢
  generalize lsm v = sv at C6 HSM ⊢
  generalize M.length = n at C1 C2 C3 C4 ⊢
  generalize a.length = na at C2 C3 ⊢
  generalize u.length = nu at C1 C4 C5 ⊢
  generalize v.length = nv at C1 C4 C6 ⊢
  cases K
  · clear C2 C3 C4 C5 C6 HSM
    rw [Bool.false_and, Bool.false_and]
    go_enter Try.func17, Try.ntmps17
    go_wp2_with fail
    refine C1.out.mono ?_
    rintro e w1 ⟨rfl, rfl⟩
    go_wp2_with fail
    go_ret2
    exact ⟨rfl, Below.refl _ _⟩
  · have D2 := Lib.hid (C2.out rfl); have D4 := Lib.hid (C4.out rfl); have D5 := Lib.hid (C5.out rfl); have D6 := Lib.hid (C6.out rfl); have D3 := Lib.hid (C3.out rfl)
    obtain ⟨⟨s1, s2⟩, s3, s4⟩ := HSM.out rfl
    have e1 : IntKind.i64.wrap (su + sv) = su + sv := i64_small (by omega) (by omega)
    clear C2 C3 C4 C5 C6 HSM s1 s2 s3 s4
    rw [Bool.true_and]
    cases G
    · rw [Bool.false_and]
      clear D3 D4 D5 D6
      go_enter Try.func17, Try.ntmps17
      go_wp2_with fail
      refine C1.out.mono ?_
      rintro e w1 ⟨rfl, rfl⟩
      go_wp2_with fail
      refine (D2.out _ (Below.refl _ _)).mono ?_
      rintro e w2 ⟨rfl, hb2⟩
      go_wp2_with fail
      go_ret2
      exact ⟨rfl, hb2⟩
    · have D33 := Lib.hid (D3.out rfl)
      clear D3
      rw [Bool.true_and]
      cases Q
      · rw [Bool.false_and]
        clear D33 D5 D6
        go_enter Try.func17, Try.ntmps17
        go_wp2_with fail
        refine C1.out.mono ?_
        rintro e w1 ⟨rfl, rfl⟩
        go_wp2_with fail
        refine (D2.out _ (Below.refl _ _)).mono ?_
        rintro e w2 ⟨rfl, hb2⟩
        go_wp2_with fail
        refine (D4.out _ hb2).mono ?_
        rintro e w3 ⟨rfl, hb3⟩
        have hb4 := ball hb2 hb3
        go_wp2_with fail
        go_ret2
        exact ⟨rfl, hb4⟩
      · rw [Bool.true_and]
        go_enter Try.func17, Try.ntmps17
        go_wp2_with fail
        refine C1.out.mono ?_
        rintro e w1 ⟨rfl, rfl⟩
        go_wp2_with fail
        refine (D2.out _ (Below.refl _ _)).mono ?_
        rintro e w2 ⟨rfl, hb2⟩
        go_wp2_with fail
        refine (D4.out _ hb2).mono ?_
        rintro e w3 ⟨rfl, hb3⟩
        have hb4 := ball hb2 hb3
        go_wp2_with fail
        refine (D5.out _ hb4).mono ?_
        rintro e w5 ⟨rfl, rfl⟩
        go_wp2_with fail
        refine (D6.out _ hb4).mono ?_
        rintro e w5 ⟨rfl, rfl⟩
        go_wp2_with fail
        refine (D33.out _ hb4).mono ?_
        rintro e w6 ⟨rfl, hb6⟩
        have hb7 := ball hb4 hb6
        go_wp2_with fail
        go_ret2
        refine ⟨?_, hb7⟩
        rw [show (su + sv == X) = decide (su + sv = X) from by by_cases h : su + sv = X <;> simp [h]]
        rfl
end Go.Proofs.Ytjlkgioinogbkaa
