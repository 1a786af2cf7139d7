/-
  Some texts of this proof in one: CeA CeB CeC. Each part tells what it proves. By an AI agent.
-/
import Derived.Test.YtcionneopgdebaaGreatCeM
import Derived.Test.YtcionneopgdebaaGreatLaws
import Derived.Deep.RegionHeld3
import Derived.Deep.QuietTactic

/-
  Plane polynomials: isPlane and compareTerms of the program. By an AI agent.
-/
namespace Go.Proofs.YtcionneopgdebaaGreat
open Go.RowKit

def termB (t : Tm) : Bool := inB t.i 0 6 && (inB t.j 0 (6 - t.i) && inB t.c (-1000000) 1000000)
def befT (p q : Tm) : Bool := decide (p.i < q.i) || (decide (p.i = q.i) && decide (p.j < q.j))
def plnK (L : List Tm) : Nat → Bool
  | 0 => true
  | k + 1 => plnK L k && (termB (tmAt L k) && (decide (k = 0) || befT (tmAt L (k - 1)) (tmAt L k)))
def planeB (L : List Tm) : Bool := inB (L.length : Int) 1 12 && plnK L L.length
theorem termB_t {t : Tm} (h : termB t = true) : (0 ≤ t.i ∧ t.i ≤ 6) ∧ (0 ≤ t.j ∧ t.j ≤ 6 - t.i) ∧ (-1000000 ≤ t.c ∧ t.c ≤ 1000000) := by
  unfold termB at h
  simp only [Bool.and_eq_true, inB_t] at h
  omega
theorem plnK_le {L : List Tm} {k : Nat} (h : plnK L k = true) : ∀ {j : Nat}, j ≤ k → plnK L j = true := by
  induction k with
  | zero => intro j hj; rw [show j = 0 by omega]; rfl
  | succ k ih =>
    intro j hj
    by_cases e : j = k + 1
    · rw [e]; exact h
    · unfold plnK at h
      rw [Bool.and_eq_true] at h
      exact ih h.1 (by omega)
theorem plnK_term {L : List Tm} {k j : Nat} (h : plnK L k = true) (hj : j < k) : termB (tmAt L j) = true := by
  have h := plnK_le h (show j + 1 ≤ k by omega)
  unfold plnK at h
  simp only [Bool.and_eq_true] at h
  exact h.2.1
theorem plane_no {L : List Tm} {k : Nat} (hk : k < L.length) (h : plnK L (k + 1) = false) : planeB L = false := by
  cases e : planeB L with
  | false => rfl
  | true =>
    unfold planeB at e
    rw [Bool.and_eq_true] at e
    rw [plnK_le e.2 (show k + 1 ≤ L.length by omega)] at h
    cases h

set_option maxHeartbeats 400000 in
theorem compareTerms_c (p q : Tm) (w : World) (hp : termB p = true) (hq : termB q = true) :
    Calls Tryz.prog 56 #[.agg #[.int .i64 p.i, .int .i64 p.j, .int .i64 p.c], .agg #[.int .i64 q.i, .int .i64 q.j, .int .i64 q.c]] w fun e w' => (∃ r : Int, e = .returned (.int .i64 r) ∧ decide (0 ≤ r) = !befT p q) ∧ Below w.heap.size w w' := by
  have h1 := termB_t hp
  have h2 := termB_t hq
  obtain ⟨a, b, c⟩ := p
  obtain ⟨d, e, f⟩ := q
  simp only at h1 h2 ⊢
  have e1 : IntKind.i64.wrap (a - d) = a - d := i64_small (by omega) (by omega)
  have e2 : IntKind.i64.wrap (b - e) = b - e := i64_small (by omega) (by omega)
  have hb := ((Below.refl w.heap.size w).alloc (Nat.le_refl _) (.cells #[.int .i64 a, .int .i64 b, .int .i64 c] 73)).alloc (by simp) (.cells #[.int .i64 d, .int .i64 e, .int .i64 f] 73)
  clear hp hq
  by_cases h : a = d
  · subst h
    have HR := Lib.hid (show decide (0 ≤ b - e) = !befT ⟨a, b, c⟩ ⟨a, e, f⟩ from by
      unfold befT
      simp only [Int.lt_irrefl, decide_false, Bool.false_or, decide_true, Bool.true_and]
      by_cases g : b < e
      · rw [decide_eq_true g, decide_eq_false (by omega)]; rfl
      · rw [decide_eq_false g, decide_eq_true (by omega)]; rfl)
    go_enter Tryz.func56, Tryz.ntmps56
    go_wp2_with fail
    go_ret
    exact ⟨⟨_, rfl, HR.out⟩, hb⟩
  · have h' : (a == d) = false := by simpa using h
    have HR := Lib.hid (show decide (0 ≤ a - d) = !befT ⟨a, b, c⟩ ⟨d, e, f⟩ from by
      unfold befT
      simp only [decide_eq_false h, Bool.false_and, Bool.or_false]
      by_cases g : a < d
      · rw [decide_eq_true g, decide_eq_false (by omega)]; rfl
      · rw [decide_eq_false g, decide_eq_true (by omega)]; rfl)
    go_enter Tryz.func56, Tryz.ntmps56
    go_wp2_with fail
    go_ret
    exact ⟨⟨_, rfl, HR.out⟩, hb⟩
theorem finI_c (n : Int) (w : World) :
    Calls Tryz.prog 55 #[.int .i64 n] w fun e w' => e = .returned (.bool (inB n (-1000000) 1000000)) ∧ w = w' := by
  by_cases h : -1000000 ≤ n
  · have h1 : decide (-1000000 ≤ n) = true := decide_eq_true h
    have HR := Lib.hid (show inB n (-1000000) 1000000 = decide (n ≤ 1000000) from by unfold inB; rw [h1]; rfl)
    generalize decide (n ≤ 1000000) = q at HR
    go_enter Tryz.func55, Tryz.ntmps55
    go_wp2_with fail
    go_ret
    exact ⟨by unfold inB; rw [h1]; rfl, rfl⟩
  · have h1 : decide (-1000000 ≤ n) = false := decide_eq_false h
    go_enter Tryz.func55, Tryz.ntmps55
    go_wp2_with fail
    go_ret
    exact ⟨by unfold inB; rw [h1]; rfl, rfl⟩
end Go.Proofs.YtcionneopgdebaaGreat

/-
  Plane polynomials: isPlane of the program. By an AI agent.
-/
namespace Go.Proofs.YtcionneopgdebaaGreat
open Go.RowKit

theorem plnK_step {L : List Tm} {k : Nat} (h : plnK L k = true) {u v : Bool} (hu : termB (tmAt L k) = u) (hv : (decide (k = 0) || befT (tmAt L (k - 1)) (tmAt L k)) = v) : plnK L (k + 1) = (u && v) := by
  subst hu; subst hv
  show (plnK L k && _) = _
  rw [h, Bool.true_and]

set_option maxHeartbeats 3200000 in
set_option maxRecDepth 100000 in
theorem isPlane_c (ad : Option Addr) (cap : Nat) (L : List Tm) (w : World) (hr : RdT w ad L) (hl : L.length ≤ 1048576) :
    Calls Tryz.prog 31 #[.slice ad L.length cap] w fun e w' => e = .returned (.bool (planeB L)) ∧ Below w.heap.size w w' := by
  have HR := Lib.hid hr; clear hr
  have CW := Lib.hid (within_any (L.length : Int) 1 12 w)
  obtain ⟨n, hn⟩ : ∃ n, L.length = n := ⟨_, rfl⟩
  have HN := Lib.hid hn
  rw [hn] at CW hl ⊢
  clear hn
  by_cases hin : inB (n : Int) 1 12 = true
  case neg =>
    rw [eq_false_of_ne_true hin] at CW
    have HE := Lib.hid (show planeB L = false from by unfold planeB; rw [HN.out, eq_false_of_ne_true hin]; rfl)
    go_enter Tryz.func31, Tryz.ntmps31
    go_wp2_with fail
    refine CW.out.mono ?_
    rintro e w1 ⟨rfl, rfl⟩
    go_wp2_with fail
    go_ret
    exact ⟨by rw [HE.out]; rfl, Below.refl _ _⟩
  case pos =>
    rw [hin] at CW
    have HIN := Lib.hid hin
    have hn12 := inB_t.1 hin
    clear hin
    go_enter Tryz.func31, Tryz.ntmps31
    go_wp2_with fail
    refine CW.out.mono ?_
    rintro e w1 ⟨rfl, rfl⟩
    clear CW
    go_wp2_with fail
    go_loopw [11] (fun i wr => ∃ k : Nat, k ≤ n ∧ i = .int .i64 k ∧ plnK L k = true ∧ Below w.heap.size w wr) (fun i _ => n - (intOf i).toNat)
    case atStart => exact ⟨0, Nat.zero_le _, rfl, rfl, Below.refl _ _⟩
    case round =>
      obtain ⟨wE, rfl⟩ : ∃ x : World, x = wr := ⟨_, rfl⟩
      obtain ⟨k, hk, rfl, hpl, hbel⟩ := hrel
      have HPL := Lib.hid hpl; clear hpl
      have hsz := hbel.size
      by_cases hlt : k < n
      case neg =>
        obtain rfl : k = n := by omega
        have HE := Lib.hid (show planeB L = true from by unfold planeB; rw [HN.out, HIN.out, HPL.out]; rfl)
        go_wp2_with fail
        go_ret
        exact ⟨by rw [HE.out]; rfl, hbel⟩
      case pos =>
        obtain ⟨bp, op, rfl, hbp, c0, c1, c2⟩ := HR.out k (by rw [HN.out]; exact hlt)
        have c0 := bcell hbel hbp c0
        have c1 := bcell hbel hbp c1
        have c2 := bcell hbel hbp c2
        have x1 : (0 : Int) ≤ (k : Int) := by omega
        have x2 : (k : Int) < (n : Int) := by omega
        obtain ⟨T, hT⟩ : ∃ T, tmAt L k = T := ⟨_, rfl⟩
        have hT2 : L.getD k default = T := hT
        rw [hT2] at c0 c1 c2
        have HT := Lib.hid hT
        clear hT hT2
        have hbA := bal_alloc (o := .cells #[.int .i64 T.i, .int .i64 T.j, .int .i64 T.c] 73) hbel
        have HNO := Lib.hid (fun (h : termB T = false) => show planeB L = false from plane_no (by rw [HN.out]; exact hlt) (by rw [plnK_step HPL.out (u := false) (v := _) (by rw [HT.out]; exact h) rfl]; rfl))
        by_cases htb : termB T = true
        case neg =>
          have htf := eq_false_of_ne_true htb
          have HE := Lib.hid (HNO.out htf)
          clear HNO
          have CF := Lib.hid (fun w => finI_c T.c w)
          unfold termB at htf
          obtain ⟨X, Y, C⟩ := T
          simp only at htf c0 c1 c2 CF hbA
          have hcases : X < 0 ∨ (¬ X < 0 ∧ Y < 0) ∨ (¬ X < 0 ∧ ¬ Y < 0 ∧ 6 < X) ∨ (¬ X < 0 ∧ ¬ Y < 0 ∧ ¬ 6 < X ∧ 6 < Y) ∨ ((¬ X < 0 ∧ ¬ Y < 0 ∧ ¬ 6 < X ∧ ¬ 6 < Y) ∧ 6 < X + Y) ∨ ((¬ X < 0 ∧ ¬ Y < 0 ∧ ¬ 6 < X ∧ ¬ 6 < Y) ∧ ¬ 6 < X + Y ∧ inB C (-1000000) 1000000 = false) := by
            by_cases a1 : X < 0
            · exact Or.inl a1
            · by_cases a2 : Y < 0
              · exact Or.inr (Or.inl ⟨a1, a2⟩)
              · by_cases a3 : 6 < X
                · exact Or.inr (Or.inr (Or.inl ⟨a1, a2, a3⟩))
                · by_cases a4 : 6 < Y
                  · exact Or.inr (Or.inr (Or.inr (Or.inl ⟨a1, a2, a3, a4⟩)))
                  · by_cases a5 : 6 < X + Y
                    · exact Or.inr (Or.inr (Or.inr (Or.inr (Or.inl ⟨⟨a1, a2, a3, a4⟩, a5⟩))))
                    · rw [inB_t.2 (show 0 ≤ X ∧ X ≤ 6 by omega), inB_t.2 (show 0 ≤ Y ∧ Y ≤ 6 - X by omega), Bool.true_and, Bool.true_and] at htf
                      exact Or.inr (Or.inr (Or.inr (Or.inr (Or.inr ⟨⟨a1, a2, a3, a4⟩, a5, htf⟩))))
          clear htf htb
          rcases hcases with h | ⟨h1, h⟩ | ⟨h1, h2, h⟩ | ⟨h1, h2, h3, h⟩ | ⟨⟨h1, h2, h3, h4⟩, h⟩ | ⟨⟨h1, h2, h3, h4⟩, h5, h⟩
          · have d1 : decide (X < 0) = true := decide_eq_true h
            go_wp2_with fail
            go_ret
            exact ⟨by rw [HE.out]; rfl, hbA⟩
          · have d1 : decide (X < 0) = false := decide_eq_false h1
            have d2 : decide (Y < 0) = true := decide_eq_true h
            go_wp2_with fail
            go_ret
            exact ⟨by rw [HE.out]; rfl, hbA⟩
          · have d1 : decide (X < 0) = false := decide_eq_false h1
            have d2 : decide (Y < 0) = false := decide_eq_false h2
            have d3 : decide (6 < X) = true := decide_eq_true h
            go_wp2_with fail
            go_ret
            exact ⟨by rw [HE.out]; rfl, hbA⟩
          · have d1 : decide (X < 0) = false := decide_eq_false h1
            have d2 : decide (Y < 0) = false := decide_eq_false h2
            have d3 : decide (6 < X) = false := decide_eq_false h3
            have d4 : decide (6 < Y) = true := decide_eq_true h
            go_wp2_with fail
            go_ret
            exact ⟨by rw [HE.out]; rfl, hbA⟩
          · have d1 : decide (X < 0) = false := decide_eq_false h1
            have d2 : decide (Y < 0) = false := decide_eq_false h2
            have d3 : decide (6 < X) = false := decide_eq_false h3
            have d4 : decide (6 < Y) = false := decide_eq_false h4
            have w5 : IntKind.i64.wrap (X + Y) = X + Y := i64_small (by omega) (by omega)
            have d5 : decide (6 < X + Y) = true := decide_eq_true h
            go_wp2_with fail
            go_ret
            exact ⟨by rw [HE.out]; rfl, hbA⟩
          · have d1 : decide (X < 0) = false := decide_eq_false h1
            have d2 : decide (Y < 0) = false := decide_eq_false h2
            have d3 : decide (6 < X) = false := decide_eq_false h3
            have d4 : decide (6 < Y) = false := decide_eq_false h4
            have w5 : IntKind.i64.wrap (X + Y) = X + Y := i64_small (by omega) (by omega)
            have d5 : decide (6 < X + Y) = false := decide_eq_false h5
            rw [h] at CF
            go_wp2_with fail
            refine (CF.out _).mono ?_
            rintro e w3 ⟨rfl, rfl⟩
            go_wp2_with fail
            go_ret
            exact ⟨by rw [HE.out]; rfl, hbA⟩
        case pos =>
          have ht3 := termB_t htb
          have CF := Lib.hid (fun w => finI_c T.c w)
          rw [inB_t.2 ht3.2.2] at CF
          have HTB := Lib.hid htb
          clear htb HNO
          have d1 : decide (T.i < 0) = false := decide_eq_false (by omega)
          have d2 : decide (T.j < 0) = false := decide_eq_false (by omega)
          have d3 : decide (6 < T.i) = false := decide_eq_false (by omega)
          have d4 : decide (6 < T.j) = false := decide_eq_false (by omega)
          have w5 : IntKind.i64.wrap (T.i + T.j) = T.i + T.j := i64_small (by omega) (by omega)
          have d5 : decide (6 < T.i + T.j) = false := decide_eq_false (by omega)
          clear ht3
          go_wp2_with fail
          refine (CF.out _).mono ?_
          rintro e w3 ⟨rfl, rfl⟩
          clear d1 d2 d3 d4 w5 d5 CF
          by_cases h0 : k = 0
          case pos =>
            subst h0
            have HS := Lib.hid (show plnK L (0 + 1) = true from by rw [plnK_step HPL.out (u := true) (v := true) (by rw [HT.out]; exact HTB.out) rfl]; rfl)
            go_wp2_with fail
            go_quiet (fail)
            go_wp2_with fail
            go_roundw
            case rel => exact ⟨0 + 1, by omega, by go_num, HS.out, bdrewN hbA _⟩
            case measure => simp [intOf]; omega
          case neg =>
            obtain ⟨j, rfl⟩ : ∃ j, k = j + 1 := ⟨k - 1, by omega⟩
            obtain ⟨c3, c4, c5⟩ := RdT.at (HR.out) (j := j) (by rw [HN.out]; omega)
            have c3 := bcell hbA hbp c3
            have c4 := bcell hbA hbp c4
            have c5 := bcell hbA hbp c5
            obtain ⟨U, hU⟩ : ∃ U, tmAt L j = U := ⟨_, rfl⟩
            have hU2 : L.getD j default = U := hU
            rw [hU2] at c3 c4 c5
            have hUB : termB U = true := by rw [← hU]; exact plnK_term HPL.out (by omega)
            have HS := Lib.hid (show plnK L (j + 1 + 1) = befT U T from by rw [plnK_step HPL.out (u := true) (v := befT U T) (by rw [HT.out]; exact HTB.out) (by rw [Nat.add_sub_cancel, hU, HT.out, decide_eq_false (show ¬ j + 1 = 0 by omega)]; rfl)]; rfl)
            have CC := Lib.hid (fun w => compareTerms_c U T w hUB HTB.out)
            have x3 : (0 : Int) < ((j + 1 : Nat) : Int) := by omega
            have x4 : ((j + 1 : Nat) : Int) - 1 = (j : Int) := by omega
            have x5 : IntKind.i64.wrap (j : Int) = (j : Int) := i64_small (by omega) (by omega)
            have x6 : (0 : Int) ≤ (j : Int) := by omega
            have x7 : (j : Int) < (n : Int) := by omega
            clear hU hU2 hUB
            have o0 := (Own.newA wE #[.int .i64 T.i, .int .i64 T.j, .int .i64 T.c] 73 rfl)
            have hbpA : bp < (wE.alloc (.cells #[.int .i64 T.i, .int .i64 T.j, .int .i64 T.c] 73)).heap.size := by simp; omega
            have m0 := o0.cell? (i := 0) rfl
            have m1 := o0.cell? (i := 1) rfl
            have m2 := o0.cell? (i := 2) rfl
            go_wp2_with fail
            go_region_held3 (fun w' => (w'.cell? ⟨bp, op + j * 3, none⟩ = some (.int .i64 U.i) ∧ w'.cell? ⟨bp, op + j * 3 + 1, none⟩ = some (.int .i64 U.j) ∧ w'.cell? ⟨bp, op + j * 3 + 2, none⟩ = some (.int .i64 U.c)) ∧ w'.cell? ⟨wE.heap.size, 0, none⟩ = some (.int .i64 T.i) ∧ w'.cell? ⟨wE.heap.size, 1, none⟩ = some (.int .i64 T.j) ∧ w'.cell? ⟨wE.heap.size, 2, none⟩ = some (.int .i64 T.c)) (exact ⟨⟨by assumption, by assumption, by assumption⟩, by assumption, by assumption, by assumption⟩)
              (first
                | (go_at_call 56; (with_reducible refine (CC.out _).mono ?_); rintro e W1 ⟨⟨r, rfl, hr⟩, hw1⟩; have n3 := bcell hw1 hbpA c3; have n4 := bcell hw1 hbpA c4; have n5 := bcell hw1 hbpA c5; have n0 := bcell hw1 o0.lt m0; have n1 := bcell hw1 o0.lt m1; have n2 := bcell hw1 o0.lt m2))
            have hbW := hbA.trans (((Below.refl _ _).drew.trans hw1).mono hbA.size)
            clear n0 n1 n2 n3 n4 n5 m0 m1 m2 c3 c4 c5
            have HR9 := Lib.hid hr; clear hr
            cases hbe : befT U T with
            | false =>
              rw [hbe] at HR9
              have HE := Lib.hid (show planeB L = false from plane_no (by rw [HN.out]; exact hlt) (by rw [HS.out]; exact hbe))
              have d1 : decide (0 ≤ r) = true := HR9.out
              go_wp2_with fail
              go_ret
              exact ⟨by rw [HE.out]; rfl, hbW⟩
            | true =>
              rw [hbe] at HR9
              have HS2 := Lib.hid (HS.out.trans hbe)
              have d1 : decide (0 ≤ r) = false := HR9.out
              clear hbe
              go_wp2_with fail
              go_roundw
              case rel => exact ⟨j + 1 + 1, by omega, by go_num, HS2.out, hbW⟩
              case measure => simp [intOf]; omega
end Go.Proofs.YtcionneopgdebaaGreat

/-
  Plane polynomials: plTerm and plBefore of the reference. By an AI agent.
-/
namespace Go.Proofs.YtcionneopgdebaaGreat
open Go.RowKit

theorem finS_c (n : Int) (w : World) :
    Calls Tryz.prog 80 #[.int .i64 n] w fun e w' => e = .returned (.bool (inB n (-1000000) 1000000)) ∧ w = w' := by
  have C1 := Lib.hid (l1In_any n (-1000000) 1000000 w)
  go_enter Tryz.func80, Tryz.ntmps80
  go_wp2_with fail
  refine C1.out.mono ?_
  rintro e w1 ⟨rfl, rfl⟩
  go_wp2_with fail
  go_ret
  exact ⟨rfl, rfl⟩
set_option maxHeartbeats 800000 in
theorem plTerm_c (t : Tm) (w : World) :
    Calls Tryz.prog 49 #[.agg #[.int .i64 t.i, .int .i64 t.j, .int .i64 t.c]] w fun e w' => e = .returned (.bool (termB t)) ∧ Below w.heap.size w w' := by
  obtain ⟨a, b, c⟩ := t
  simp only
  have hb := (Below.refl w.heap.size w).alloc (Nat.le_refl _) (.cells #[.int .i64 a, .int .i64 b, .int .i64 c] 73)
  have C1 := Lib.hid (fun w => l1In_any a 0 6 w)
  have C2 := Lib.hid (fun w => l1In_any b 0 (6 - a) w)
  have C3 := Lib.hid (fun w => finS_c c w)
  by_cases h1 : inB a 0 6 = true
  case neg =>
    have h1 := eq_false_of_ne_true h1
    have HE := Lib.hid (show termB ⟨a, b, c⟩ = false from by unfold termB; rw [h1]; rfl)
    rw [h1] at C1
    go_enter Tryz.func49, Tryz.ntmps49
    go_wp2_with fail
    refine (C1.out _).mono ?_
    rintro e w1 ⟨rfl, rfl⟩
    go_wp2_with fail
    go_ret
    exact ⟨by rw [HE.out]; rfl, hb⟩
  case pos =>
    have ha := inB_t.1 h1
    rw [h1] at C1
    have e1 : IntKind.i64.wrap (6 - a) = 6 - a := i64_small (by omega) (by omega)
    by_cases h2 : inB b 0 (6 - a) = true
    case neg =>
      have h2 := eq_false_of_ne_true h2
      have HE := Lib.hid (show termB ⟨a, b, c⟩ = false from by unfold termB; rw [h2]; simp)
      rw [h2] at C2
      go_enter Tryz.func49, Tryz.ntmps49
      go_wp2_with fail
      refine (C1.out _).mono ?_
      rintro e w1 ⟨rfl, rfl⟩
      go_wp2_with fail
      refine (C2.out _).mono ?_
      rintro e w1 ⟨rfl, rfl⟩
      go_wp2_with fail
      go_ret
      exact ⟨by rw [HE.out]; rfl, hb⟩
    case pos =>
      rw [h2] at C2
      have HE := Lib.hid (show termB ⟨a, b, c⟩ = inB c (-1000000) 1000000 from by unfold termB; rw [h1, h2]; rfl)
      generalize inB c (-1000000) 1000000 = q at C3 HE
      go_enter Tryz.func49, Tryz.ntmps49
      go_wp2_with fail
      refine (C1.out _).mono ?_
      rintro e w1 ⟨rfl, rfl⟩
      go_wp2_with fail
      refine (C2.out _).mono ?_
      rintro e w1 ⟨rfl, rfl⟩
      go_wp2_with fail
      refine (C3.out _).mono ?_
      rintro e w1 ⟨rfl, rfl⟩
      go_wp2_with fail
      go_ret
      exact ⟨by rw [HE.out]; rfl, hb⟩
set_option maxHeartbeats 800000 in
theorem plBefore_c (p q : Tm) (w : World) :
    Calls Tryz.prog 50 #[.agg #[.int .i64 p.i, .int .i64 p.j, .int .i64 p.c], .agg #[.int .i64 q.i, .int .i64 q.j, .int .i64 q.c]] w fun e w' => e = .returned (.bool (befT p q)) ∧ Below w.heap.size w w' := by
  obtain ⟨a, b, c⟩ := p
  obtain ⟨d, e, f⟩ := q
  simp only
  have hb := ((Below.refl w.heap.size w).alloc (Nat.le_refl _) (.cells #[.int .i64 a, .int .i64 b, .int .i64 c] 73)).alloc (by simp) (.cells #[.int .i64 d, .int .i64 e, .int .i64 f] 73)
  rcases Int.lt_trichotomy a d with h | h | h
  · have d1 : decide (a < d) = true := decide_eq_true h
    have HE := Lib.hid (show befT ⟨a, b, c⟩ ⟨d, e, f⟩ = true from by unfold befT; simp only [d1, Bool.true_or])
    go_enter Tryz.func50, Tryz.ntmps50
    go_wp2_with fail
    go_ret
    exact ⟨by rw [HE.out]; rfl, hb⟩
  · subst h
    have d1 : decide (a < a) = false := decide_eq_false (by omega)
    obtain ⟨u, hu⟩ : ∃ u, decide (b < e) = u := ⟨_, rfl⟩
    have HE := Lib.hid (show befT ⟨a, b, c⟩ ⟨a, e, f⟩ = u from by unfold befT; simp only [d1, Bool.false_or, decide_true, Bool.true_and]; exact hu)
    go_enter Tryz.func50, Tryz.ntmps50
    go_wp2_with fail
    go_ret
    exact ⟨by rw [HE.out, ← hu]; rfl, hb⟩
  · have d1 : decide (a < d) = false := decide_eq_false (by omega)
    have d2 : (a == d) = false := beq_eq_false_iff_ne.2 (by omega)
    have HE := Lib.hid (show befT ⟨a, b, c⟩ ⟨d, e, f⟩ = false from by unfold befT; simp only [d1, Bool.false_or, decide_eq_false (show ¬ a = d by omega), Bool.false_and])
    go_enter Tryz.func50, Tryz.ntmps50
    go_wp2_with fail
    go_ret
    exact ⟨by rw [HE.out]; rfl, hb⟩
end Go.Proofs.YtcionneopgdebaaGreat
