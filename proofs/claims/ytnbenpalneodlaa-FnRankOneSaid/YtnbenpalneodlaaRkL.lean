/-
  Alike columns: the program's and the reference's. By an AI agent.
-/
import Derived.Test.YtnbenpalneodlaaRkK
namespace Go.Proofs.Ytnbenpalneodlaa
open Go.RowKit

set_option maxHeartbeats 3200000 in
set_option maxRecDepth 100000 in
theorem differ_c (R : Nat) (ad : Option Addr) (cap : Nat) (la : List Int) (ad2 : Option Addr) (cap2 : Nat) (lb : List Int) (w : World) (hra : RdI w ad la) (hrb : RdI w ad2 lb) (hla : la.length = R) (hlb : lb.length = R) (hR : R ≤ 6) (hna : ∀ t, t < R → numB (la.getD t 0) = true) (hnb : ∀ t, t < R → numB (lb.getD t 0) = true) :
    Calls Try.prog 59 #[.slice ad R cap, .slice ad2 R cap2] w fun e w' => e = .returned (.bool (alkB R (fun t => la.getD t 0) (fun t => lb.getD t 0))) ∧ w = w' := by
  have HA := Lib.hid hra; have HB := Lib.hid hrb; have HLA := Lib.hid hla; have HLB := Lib.hid hlb; have HNA := Lib.hid hna; have HNB := Lib.hid hnb
  obtain ⟨D, hD⟩ : ∃ D, alkB R (fun t => la.getD t 0) (fun t => lb.getD t 0) = D := ⟨_, rfl⟩
  rw [hD]
  have HD := Lib.hid hD
  clear hra hrb hla hlb hna hnb hD
  go_enter Try.func59, Try.ntmps59
  go_wp2_with fail
  go_loop [5, 6, 11] (fun v x i => ∃ (t : Nat) (s : Bool × Int), t ≤ R ∧ i = .int .i64 t ∧ akF (fun t => la.getD t 0) (fun t => lb.getD t 0) t = some s ∧ v = .int .i64 s.2 ∧ x = .bool s.1) (fun _ _ i => R - (intOf i).toNat)
  case atStart => exact ⟨0, (false, 0), Nat.zero_le _, rfl, rfl, rfl, rfl⟩
  case round =>
    obtain ⟨t, s, ht, rfl, hak, rfl, rfl⟩ := hrel
    obtain ⟨known, by'⟩ := s
    simp only
    by_cases hlt : t < R
    · obtain ⟨b1, o1, rfl, _, c1⟩ := HA.out t (by rw [HLA.out]; exact hlt)
      obtain ⟨b2, o2, rfl, _, c2⟩ := HB.out t (by rw [HLB.out]; exact hlt)
      have n1 := numB_t (HNA.out t hlt)
      have n2 := numB_t (HNB.out t hlt)
      obtain ⟨q1, q2, q3, q4, q5⟩ := akF_eqs hak
      simp only at q1 q2 q3 q4 q5
      have HNO := Lib.hid (fun (h : akF (fun t => la.getD t 0) (fun t => lb.getD t 0) (t + 1) = none) => show D = false by rw [← HD.out]; exact alk_no (by omega) h)
      generalize la.getD t 0 = X at c1 n1 q1 q2 q3 q4 q5
      generalize lb.getD t 0 = Y at c2 n2 q1 q2 q3 q4 q5
      have x1 : (0 : Int) ≤ (t : Int) := by omega
      have x2 : (t : Int) < (R : Int) := by omega
      clear hak
      by_cases hX : X = 1000000000
      · subst hX
        by_cases hY : Y = 1000000000
        · subst hY
          have HK := Lib.hid (q1 rfl rfl)
          clear q1 q2 q3 q4 q5 n1 n2
          go_wp2
          go_round
          case rel => exact ⟨t + 1, (known, by'), by omega, by go_num, HK.out, rfl, rfl⟩
          case measure => simp [intOf]; omega
        · have g2 : (Y == 1000000000) = false := beq_eq_false_iff_ne.2 hY
          have hDf := HNO.out (q2 rfl hY)
          subst hDf
          clear q1 q2 q3 q4 q5 n1 n2 hY
          go_wp2
          go_ret
          exact ⟨rfl, rfl⟩
      · have g1 : (X == 1000000000) = false := beq_eq_false_iff_ne.2 hX
        by_cases hY : Y = 1000000000
        · subst hY
          have hDf := HNO.out (q3 hX rfl)
          subst hDf
          clear q1 q2 q3 q4 q5 n1 n2 hX
          go_wp2
          go_ret
          exact ⟨rfl, rfl⟩
        · have g2 : (Y == 1000000000) = false := beq_eq_false_iff_ne.2 hY
          have b1 : -1000000 ≤ X ∧ X ≤ 1000000 := by omega
          have b2 : -1000000 ≤ Y ∧ Y ≤ 1000000 := by omega
          have q4 := q4 hX hY
          have q5 := q5 hX hY
          clear q1 q2 q3 n1 n2 hX hY
          cases known
          · have HK := Lib.hid (q5 (fun h => by cases h))
            clear q4 q5
            go_wp2
            go_round
            case rel => exact ⟨t + 1, (true, Y - X), by omega, by go_num, HK.out, rfl, rfl⟩
            case measure => simp [intOf]; omega
          · by_cases hz : Y - X = by'
            · have g3 : (Y - X != by') = false := by rw [hz]; exact bne_self_eq_false _
              have HK := Lib.hid (q5 (fun _ => hz))
              clear q4 q5 hz
              go_wp2
              go_round
              case rel => exact ⟨t + 1, (true, Y - X), by omega, by go_num, HK.out, rfl, rfl⟩
              case measure => simp [intOf]; omega
            · have g3 : (Y - X != by') = true := bne_iff_ne.2 hz
              have hDf := HNO.out (q4 rfl hz)
              subst hDf
              clear q4 q5 hz
              go_wp2
              go_ret
              exact ⟨rfl, rfl⟩
    · obtain rfl : t = R := by omega
      have HE := Lib.hid (show D = true by rw [← HD.out]; unfold alkB; rw [hak]; rfl)
      clear hak
      go_wp2
      go_ret
      exact ⟨by rw [HE.out]; rfl, rfl⟩

set_option maxHeartbeats 3200000 in
set_option maxRecDepth 100000 in
theorem rkAlike_c (R C p q : Nat) (ad : Option Addr) (cap : Nat) (m : Nat → Nat → Int) (w : World) (hr : RdM w ad (toG R C m)) (hR : 1 ≤ R ∧ R ≤ 6) (hC : 1 ≤ C ∧ C ≤ 6) (hp : p < C) (hq : q < C) (hnum : ∀ a b, a < R → b < C → numB (m a b) = true) :
    Calls Try.prog 61 #[.slice ad R cap, .int .i64 (p : Int), .int .i64 (q : Int)] w fun e w' => e = .returned (.bool (alkB R (fun t => m t p) (fun t => m t q))) ∧ Below w.heap.size w w' := by
  obtain ⟨bM, oM, rfl, hbM, hrow⟩ := hr.rowG (by omega) (by omega)
  have HROW := Lib.hid hrow; have HNUM := Lib.hid hnum
  obtain ⟨D, hD⟩ : ∃ D, alkB R (fun t => m t p) (fun t => m t q) = D := ⟨_, rfl⟩
  rw [hD]
  have HD := Lib.hid hD
  have p1 : (0 : Int) ≤ (p : Int) := by omega
  have p2 : (p : Int) < (C : Int) := by omega
  have p3 : (0 : Int) ≤ (q : Int) := by omega
  have p4 : (q : Int) < (C : Int) := by omega
  clear hr hrow hnum hD
  go_enter Try.func61, Try.ntmps61
  go_wp2_with fail
  go_loopw [7, 8, 15] (fun x v i wr => ∃ (t : Nat) (s : Bool × Int), t ≤ R ∧ i = .int .i64 t ∧ akF (fun t => m t p) (fun t => m t q) t = some s ∧ v = .int .i64 s.2 ∧ x = .bool s.1 ∧ Below w.heap.size w wr) (fun _ _ i _ => R - (intOf i).toNat)
  case atStart => exact ⟨0, (false, 0), Nat.zero_le _, rfl, rfl, rfl, rfl, Below.refl _ _⟩
  case round =>
    obtain ⟨wE, rfl⟩ : ∃ x : World, x = wr := ⟨_, rfl⟩
    obtain ⟨t, s, ht, rfl, hak, rfl, rfl, hbel⟩ := hrel
    obtain ⟨known, by'⟩ := s
    simp only
    by_cases hlt : t < R
    · obtain ⟨b2, o2, c2, e2, hl2, hc2⟩ := HROW.out t hlt
      have e3 := bcell hbel hbM e2
      have c1 := bcell hbel hl2 (hc2 p hp)
      have c3 := bcell hbel hl2 (hc2 q hq)
      have n1 := numB_t (HNUM.out t p hlt hp)
      have n2 := numB_t (HNUM.out t q hlt hq)
      obtain ⟨q1, q2, q3, q4, q5⟩ := akF_eqs hak
      simp only at q1 q2 q3 q4 q5
      have HNO := Lib.hid (fun (h : akF (fun t => m t p) (fun t => m t q) (t + 1) = none) => show D = false by rw [← HD.out]; exact alk_no (by omega) h)
      generalize m t p = X at c1 n1 q1 q2 q3 q4 q5
      generalize m t q = Y at c3 n2 q1 q2 q3 q4 q5
      have x1 : (0 : Int) ≤ (t : Int) := by omega
      have x2 : (t : Int) < (R : Int) := by omega
      clear hak hc2 e2
      by_cases hX : X = 1000000000
      · subst hX
        by_cases hY : Y = 1000000000
        · subst hY
          have HK := Lib.hid (q1 rfl rfl)
          clear q1 q2 q3 q4 q5 n1 n2
          go_wp2_with fail
          go_quiet (fail)
          go_wp2_with fail
          go_roundw
          case rel => exact ⟨t + 1, (known, by'), by omega, by go_num, HK.out, rfl, rfl, bdrewN hbel _⟩
          case measure => simp [intOf]; omega
        · have g2 : (Y == 1000000000) = false := beq_eq_false_iff_ne.2 hY
          have hDf := HNO.out (q2 rfl hY)
          subst hDf
          clear q1 q2 q3 q4 q5 n1 n2 hY
          go_wp2_with fail
          go_quiet (fail)
          go_wp2_with fail
          go_ret
          exact ⟨rfl, bdrewN hbel _⟩
      · have g1 : (X == 1000000000) = false := beq_eq_false_iff_ne.2 hX
        by_cases hY : Y = 1000000000
        · subst hY
          have hDf := HNO.out (q3 hX rfl)
          subst hDf
          clear q1 q2 q3 q4 q5 n1 n2 hX
          go_wp2_with fail
          go_quiet (fail)
          go_wp2_with fail
          go_ret
          exact ⟨rfl, bdrewN hbel _⟩
        · have g2 : (Y == 1000000000) = false := beq_eq_false_iff_ne.2 hY
          have b1 : -1000000 ≤ X ∧ X ≤ 1000000 := by omega
          have b2 : -1000000 ≤ Y ∧ Y ≤ 1000000 := by omega
          have q4 := q4 hX hY
          have q5 := q5 hX hY
          clear q1 q2 q3 n1 n2 hX hY
          cases known
          · have HK := Lib.hid (q5 (fun h => by cases h))
            clear q4 q5
            go_wp2_with fail
            go_quiet (fail)
            go_wp2_with fail
            go_roundw
            case rel => exact ⟨t + 1, (true, Y - X), by omega, by go_num, HK.out, rfl, rfl, bdrewN hbel _⟩
            case measure => simp [intOf]; omega
          · by_cases hz : Y - X = by'
            · have g3 : (Y - X != by') = false := by rw [hz]; exact bne_self_eq_false _
              have HK := Lib.hid (show akF (fun t => m t p) (fun t => m t q) (t + 1) = some (true, by') by rw [q5 (fun _ => hz), hz])
              clear q4 q5 hz
              go_wp2_with fail
              go_quiet (fail)
              go_wp2_with fail
              go_roundw
              case rel => exact ⟨t + 1, (true, by'), by omega, by go_num, HK.out, rfl, rfl, bdrewN hbel _⟩
              case measure => simp [intOf]; omega
            · have g3 : (Y - X != by') = true := bne_iff_ne.2 hz
              have hDf := HNO.out (q4 rfl hz)
              subst hDf
              clear q4 q5 hz
              go_wp2_with fail
              go_quiet (fail)
              go_wp2_with fail
              go_ret
              exact ⟨rfl, bdrewN hbel _⟩
    · obtain rfl : t = R := by omega
      have HE := Lib.hid (show D = true by rw [← HD.out]; unfold alkB; rw [hak]; rfl)
      clear hak
      go_wp2_with fail
      go_ret
      exact ⟨by rw [HE.out]; rfl, hbel⟩
end Go.Proofs.Ytnbenpalneodlaa
