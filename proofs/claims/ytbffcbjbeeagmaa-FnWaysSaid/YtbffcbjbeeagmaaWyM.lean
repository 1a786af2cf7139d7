/-
  Ways in a matrix: whether lists are ways, what they cost, whether potentials prove them. By an AI agent.
-/
import Derived.Test.YtbffcbjbeeagmaaWyL
namespace Go.Proofs.Ytbffcbjbeeagmaa
open Go.RowKit

def cowX (M : List (List Int)) (l : List Int) : Int := coF (entM M) l (l.length - 1)
def cowW (M : List (List Int)) (l : List Int) : Bool := sqB M && wayB M.length (entM M) l
def prB (m : Nat → Nat → Int) (p l : List Int) : Nat → Bool
  | 0 => true
  | t + 1 => prB m p l t && decide (p.getD (vx l (t + 1)) 0 = p.getD (vx l t) 0 + m (vx l t) (vx l (t + 1)))
theorem prB_t {m : Nat → Nat → Int} {p l : List Int} : ∀ {t : Nat}, prB m p l t = true ↔ ∀ s, s < t → p.getD (vx l (s + 1)) 0 = p.getD (vx l s) 0 + m (vx l s) (vx l (s + 1))
  | 0 => ⟨fun _ s hs => absurd hs (Nat.not_lt_zero _), fun _ => rfl⟩
  | t + 1 => by
    unfold prB
    rw [Bool.and_eq_true, prB_t, decide_eq_true_eq]
    constructor
    · rintro ⟨h1, h2⟩ s hs
      by_cases e : s = t
      · subst e; exact h2
      · exact h1 s (by omega)
    · exact fun h => ⟨fun s hs => h s (by omega), h t (by omega)⟩
theorem stB_t {m : Nat → Nat → Int} {l : List Int} : ∀ {t : Nat}, stB m l t = true ↔ ∀ s, s < t → m (vx l s) (vx l (s + 1)) ≠ 1000000000
  | 0 => ⟨fun _ s hs => absurd hs (Nat.not_lt_zero _), fun _ => rfl⟩
  | t + 1 => by
    unfold stB
    rw [Bool.and_eq_true, stB_t, Bool.not_eq_true', decide_eq_false_iff_not]
    constructor
    · rintro ⟨h1, h2⟩ s hs
      by_cases e : s = t
      · subst e; exact h2
      · exact h1 s (by omega)
    · exact fun h => ⟨fun s hs => h s (by omega), h t (by omega)⟩

set_option maxHeartbeats 1600000 in
set_option maxRecDepth 100000 in
theorem isWay_c (n : Nat) (ad : Option Addr) (cap : Nat) (m : Nat → Nat → Int) (adw : Option Addr) (capw : Nat) (l : List Int) (w : World) (hr : RdM w ad (toM n m)) (hw : RdI w adw l) (hn : 1 ≤ n ∧ n ≤ 6) (hl : l.length ≤ 1048576) (hnum : ∀ a b, a < n → b < n → numB (m a b) = true) :
    Calls Try.prog 49 #[.slice ad n cap, .slice adw l.length capw] w fun e w' => e = .returned (.bool (wayB n m l)) ∧ Below w.heap.size w w' := by
  have C1 := Lib.hid (fun w => within_any l.length 1 20 w)
  have C2 := Lib.hid (fun u (hb : Below w.heap.size w u) => areVertices_c ad n cap adw capw l u (by omega) hl (hw.below hb))
  have C3 := Lib.hid (fun (h1 : inB l.length 1 20 = true) (h2 : vtB n l = true) u (hb : Below w.heap.size w u) => costOfSteps_c n ad cap m adw capw l u (hr.below hb) (hw.below hb) hn (by have := inB_t.1 h1; omega) h2 hnum)
  have HB := Lib.hid (fun (h1 : inB l.length 1 20 = true) (h2 : vtB n l = true) => by
    have h3 := inB_t.1 h1
    have h4 := co_bd hnum h2 (by omega) (l.length - 1) (by omega)
    exact (show (stB m l (l.length - 1) = false ∧ coF m l (l.length - 1) = 1000000000) ∨ (stB m l (l.length - 1) = true ∧ -20000000 ≤ coF m l (l.length - 1) ∧ coF m l (l.length - 1) ≤ 20000000) from h4.imp id (fun h => ⟨h.1, by omega, by omega⟩)))
  clear hr hw hn hl hnum
  unfold wayB
  generalize inB l.length 1 20 = A at C1 C3 HB ⊢
  generalize vtB n l = B at C2 C3 HB ⊢
  generalize stB m l (l.length - 1) = S at HB ⊢
  generalize coF m l (l.length - 1) = C at C3 HB ⊢
  generalize l.length = N at C1 C2 C3 HB ⊢
  cases A
  · clear C2 C3 HB
    go_enter Try.func49, Try.ntmps49
    go_wp2_with fail
    refine (C1.out _).mono ?_
    rintro e w1 ⟨rfl, rfl⟩
    go_wp2_with fail
    go_ret
    exact ⟨rfl, Below.refl _ _⟩
  · cases B
    · clear C3 HB
      go_enter Try.func49, Try.ntmps49
      go_wp2_with fail
      refine (C1.out _).mono ?_
      rintro e w1 ⟨rfl, rfl⟩
      go_wp2_with fail
      refine (C2.out _ (Below.refl _ _)).mono ?_
      rintro e w1 ⟨rfl, hb1⟩
      go_wp2_with fail
      go_ret
      exact ⟨rfl, hb1⟩
    · have C4 := Lib.hid (C3.out rfl rfl)
      have hS : (C != 1000000000) = S := by
        rcases HB.out rfl rfl with ⟨h1, h2⟩ | ⟨h1, h2, h3⟩
        · rw [h1, h2]; rfl
        · rw [h1]; exact bne_iff_ne.2 (by omega)
      clear C3 HB
      go_enter Try.func49, Try.ntmps49
      go_wp2_with fail
      refine (C1.out _).mono ?_
      rintro e w1 ⟨rfl, rfl⟩
      go_wp2_with fail
      refine (C2.out _ (Below.refl _ _)).mono ?_
      rintro e w1 ⟨rfl, hb1⟩
      go_wp2_with fail
      refine (C4.out _ hb1).mono ?_
      rintro e w2 ⟨rfl, hb2⟩
      go_wp2_with fail
      go_ret
      exact ⟨rfl, ball hb1 hb2⟩

set_option maxHeartbeats 1600000 in
set_option maxRecDepth 100000 in
theorem iCostOfWay_c (ad : Option Addr) (cap : Nat) (M : List (List Int)) (adw : Option Addr) (capw : Nat) (l : List Int) (w : World) (hr : RdM w ad M) (hm : smM M) (hw : RdI w adw l) (hl : l.length ≤ 1048576) :
    Calls Try.prog 13 #[.slice ad M.length cap, .slice adw l.length capw] w fun e w' => e = .returned (pairV (if cowW M l = true then toldZ (cowX M l) else 0) (cowW M l && numB (cowX M l))) ∧ Below w.heap.size w w' := by
  have C1 := Lib.hid (isSquare_c ad cap M w hr (by have := hm.1; omega) (fun i hi => by have := hm.2 i hi; omega))
  have C2 := Lib.hid (fun (h : sqB M = true) u (hb : Below w.heap.size w u) => by
    obtain ⟨hn, _, hnum⟩ := sq_facts h
    have hr2 := hr.below hb
    rw [← sq_toM h] at hr2
    exact isWay_c M.length ad cap (entM M) adw capw l u hr2 (hw.below hb) hn hl hnum)
  have C3 := Lib.hid (fun (h : sqB M = true) (h2 : wayB M.length (entM M) l = true) u (hb : Below w.heap.size w u) => by
    obtain ⟨hn, _, hnum⟩ := sq_facts h
    have hr2 := hr.below hb
    rw [← sq_toM h] at hr2
    unfold wayB at h2
    simp only [Bool.and_eq_true] at h2
    have h1 := inB_t.1 h2.1
    exact costOfSteps_c M.length ad cap (entM M) adw capw l u hr2 (hw.below hb) hn (by omega) h2.2.1 hnum)
  have C4 := Lib.hid (fun w => told_c (cowX M l) w)
  have h0 : coF (entM M) l (l.length - 1) = cowX M l := rfl
  rw [h0] at C3
  clear hr hm hw hl h0
  unfold cowW pairV at *
  generalize cowX M l = X at C3 C4 ⊢
  generalize toldZ X = T at C4 ⊢
  generalize numB X = U at C4 ⊢
  generalize wayB M.length (entM M) l = W at C2 C3 ⊢
  generalize sqB M = S at C1 C2 C3 ⊢
  generalize l.length = nl at C2 C3 ⊢
  generalize M.length = n at C1 C2 C3 ⊢
  cases S
  · clear C2 C3
    go_enter Try.func13, Try.ntmps13
    go_wp2_with fail
    refine C1.out.mono ?_
    rintro e w1 ⟨rfl, hb1⟩
    go_wp2_with fail
    go_ret2
    exact ⟨rfl, hb1⟩
  · have D2 := Lib.hid (C2.out rfl)
    have D3 := Lib.hid (C3.out rfl)
    clear C2 C3
    cases W
    · clear D3
      go_enter Try.func13, Try.ntmps13
      go_wp2_with fail
      refine C1.out.mono ?_
      rintro e w1 ⟨rfl, hb1⟩
      go_wp2_with fail
      refine (D2.out _ hb1).mono ?_
      rintro e w2 ⟨rfl, hb2⟩
      go_wp2_with fail
      go_ret2
      exact ⟨rfl, ball hb1 hb2⟩
    · have D4 := Lib.hid (D3.out rfl)
      clear D3
      go_enter Try.func13, Try.ntmps13
      go_wp2_with fail
      refine C1.out.mono ?_
      rintro e w1 ⟨rfl, hb1⟩
      go_wp2_with fail
      refine (D2.out _ hb1).mono ?_
      rintro e w2 ⟨rfl, hb2⟩
      go_wp2_with fail
      refine (D4.out _ (ball hb1 hb2)).mono ?_
      rintro e w3 ⟨rfl, hb3⟩
      go_wp2_with fail
      refine (C4.out _).mono ?_
      rintro e w4 ⟨rfl, rfl⟩
      go_wp2_with fail
      go_ret2
      exact ⟨rfl, ball (ball hb1 hb2) hb3⟩

set_option maxHeartbeats 1600000 in
set_option maxRecDepth 100000 in
theorem wyWay_c (n : Nat) (ad : Option Addr) (cap : Nat) (m : Nat → Nat → Int) (adw : Option Addr) (capw : Nat) (l : List Int) (w : World) (hr : RdM w ad (toM n m)) (hw : RdI w adw l) (hn : 1 ≤ n ∧ n ≤ 6) (hl : l.length ≤ 1048576) :
    Calls Try.prog 60 #[.slice ad n cap, .slice adw l.length capw] w fun e w' => e = .returned (.bool (wayB n m l)) ∧ Below w.heap.size w w' := by
  have C1 := Lib.hid (fun w => l1In_any l.length 1 20 w)
  have C2 := Lib.hid (l1All_any adw capw l 0 ((n : Int) - 1) w hl hw)
  rw [show allB l 0 ((n : Int) - 1) = vtB n l from rfl] at C2
  obtain ⟨N1, hN1⟩ : ∃ N1, (n : Int) - 1 = N1 := ⟨_, rfl⟩
  have e0 : IntKind.i64.wrap ((n : Int) - 1) = N1 := by rw [i64_small (by omega) (by omega)]; exact hN1
  rw [hN1] at C2
  clear hN1
  have HIN := Lib.hid (fun (h : inB l.length 1 20 = true) => inB_t.1 h)
  have HVT := Lib.hid (fun (h : vtB n l = true) t (ht : t < l.length) => vt_at h ht)
  have HST := Lib.hid (stB_t (m := m) (l := l) (t := l.length - 1))
  have HR := Lib.hid hr; have HP := Lib.hid hw
  clear hr hw
  unfold wayB
  obtain ⟨N, hN⟩ : ∃ N, l.length = N := ⟨_, rfl⟩
  have HN := Lib.hid hN
  rw [hN] at C1 C2 HIN HVT HST hl ⊢
  clear hN
  generalize inB N 1 20 = A at C1 HIN ⊢
  generalize vtB n l = B at C2 HVT ⊢
  generalize stB m l (N - 1) = S at HST ⊢
  cases A
  · clear C2 HIN HVT HST
    go_enter Try.func60, Try.ntmps60
    go_wp2_with fail
    refine (C1.out _).mono ?_
    rintro e w1 ⟨rfl, rfl⟩
    go_wp2_with fail
    go_ret
    exact ⟨rfl, Below.refl _ _⟩
  · cases B
    · clear HIN HVT HST
      go_enter Try.func60, Try.ntmps60
      go_wp2_with fail
      refine (C1.out _).mono ?_
      rintro e w1 ⟨rfl, rfl⟩
      go_wp2_with fail
      refine C2.out.mono ?_
      rintro e w1 ⟨rfl, rfl⟩
      go_wp2_with fail
      go_ret
      exact ⟨rfl, Below.refl _ _⟩
    · have hN20 := HIN.out rfl
      have HV := Lib.hid (HVT.out rfl)
      clear HIN HVT hl
      rw [Bool.true_and, Bool.true_and]
      go_enter Try.func60, Try.ntmps60
      go_wp2_with fail
      refine (C1.out _).mono ?_
      rintro e w1 ⟨rfl, rfl⟩
      go_wp2_with fail
      refine C2.out.mono ?_
      rintro e w1 ⟨rfl, rfl⟩
      go_wp2_with fail
      go_loopw [5] (fun i wr => ∃ s : Nat, 1 ≤ s ∧ s ≤ N ∧ i = .int .i64 s ∧ (∀ t, t + 1 < s → m (vx l t) (vx l (t + 1)) ≠ 1000000000) ∧ Below w.heap.size w wr) (fun i _ => N - (intOf i).toNat)
      case atStart => exact ⟨1, Nat.le_refl _, by omega, rfl, fun t ht => by omega, Below.refl _ _⟩
      case round =>
        obtain ⟨wE, rfl⟩ : ∃ x : World, x = wr := ⟨_, rfl⟩
        obtain ⟨s, hs1, hs, rfl, hlow, hbel⟩ := hrel
        have HL := Lib.hid hlow; clear hlow
        by_cases hls : s < N
        case neg =>
          obtain rfl : s = N := by omega
          obtain rfl : S = true := HST.out.2 (fun t ht => HL.out t (by omega))
          go_wp2_with fail
          go_ret
          exact ⟨rfl, hbel⟩
        case pos =>
          obtain ⟨t, ht⟩ : ∃ t, s = t + 1 := ⟨s - 1, by omega⟩
          obtain ⟨v1, u1⟩ := HV.out t (by omega)
          obtain ⟨v2, u2⟩ := HV.out s hls
          obtain ⟨bp, op, rfl, hbp, q1⟩ := HP.out t (by have := HN.out; omega)
          have q2 := HP.out.at (j := s) (by have := HN.out; omega)
          rw [v1] at q1
          rw [v2] at q2
          have q1 := bcell hbel hbp q1
          have q2 := bcell hbel hbp q2
          obtain ⟨bM, oM, rfl, hbM, hrow⟩ := HR.out.rowF (by omega)
          obtain ⟨b2, o2, c2, e2, hl2, hc2⟩ := hrow _ u1
          have e2 := bcell hbel hbM e2
          have k1 := bcell hbel hl2 (hc2 _ u2)
          have HNO := Lib.hid (show m (vx l t) (vx l s) = 1000000000 → S = false from fun h => by
            cases hS : S
            · rfl
            · exact absurd (by rw [← ht]; exact h) (HST.out.1 hS t (by omega)))
          have HYES := Lib.hid (show m (vx l t) (vx l s) ≠ 1000000000 → ∀ t', t' + 1 < s + 1 → m (vx l t') (vx l (t' + 1)) ≠ 1000000000 from fun h t' ht' => by
            by_cases e : t' = t
            · subst e; rw [← ht]; exact h
            · exact HL.out t' (by omega))
          have e1 : IntKind.i64.wrap ((s : Int) - 1) = (t : Int) := by rw [i64_small (by omega) (by omega)]; omega
          have x1 : (0 : Int) ≤ (s : Int) := by omega
          have x2 : (s : Int) < (N : Int) := by omega
          have x3 : (0 : Int) ≤ (t : Int) := by omega
          have x4 : (t : Int) < (N : Int) := by omega
          have x5 : (0 : Int) ≤ (vx l t : Int) := by omega
          have x6 : (vx l t : Int) < (n : Int) := by omega
          have x7 : (0 : Int) ≤ (vx l s : Int) := by omega
          have x8 : (vx l s : Int) < (n : Int) := by omega
          clear hrow hc2 v1 v2 ht
          generalize m (vx l t) (vx l s) = D at k1 HNO HYES
          generalize vx l t = a at q1 u1 e2 x5 x6
          generalize vx l s = b at q2 u2 k1 x7 x8
          by_cases hx : D = 1000000000
          · obtain rfl := HNO.out hx
            subst hx
            clear HNO HYES
            go_wp2_with fail
            go_quiet (fail)
            go_wp2_with fail
            go_ret
            exact ⟨rfl, bdrewN hbel _⟩
          · have HY := Lib.hid (HYES.out hx)
            have g2 : (D == 1000000000) = false := beq_eq_false_iff_ne.2 hx
            clear HNO HYES hx
            go_wp2_with fail
            go_quiet (fail)
            go_wp2_with fail
            go_roundw
            case rel => exact ⟨s + 1, by omega, by omega, by go_num, HY.out, bdrewN hbel _⟩
            case measure => simp [intOf]; omega
end Go.Proofs.Ytbffcbjbeeagmaa
