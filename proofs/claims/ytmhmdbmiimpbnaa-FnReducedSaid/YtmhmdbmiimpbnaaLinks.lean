/-
  Sets of vertices and the edges out of them: reference and program.
-/
import Derived.Test.YtmhmdbmiimpbnaaFire
namespace Go.Proofs.Ytmhmdbmiimpbnaa
open Go.RowKit

def risAt (l : List Int) (lo hi : Int) (i : Nat) : Bool := inB (l.getD i 0) lo hi && (i == 0 || decide (l.getD (i - 1) 0 < l.getD i 0))
def risB (l : List Int) (lo hi : Int) : Bool := (List.range l.length).all (risAt l lo hi)
theorem risB_t {l : List Int} {lo hi : Int} (h : ∀ j, j < l.length → risAt l lo hi j = true) : risB l lo hi = true := by
  unfold risB
  rw [List.all_eq_true]
  exact fun j hj => h j (by simpa using hj)
theorem risB_at {l : List Int} {lo hi : Int} (h : risB l lo hi = true) {j : Nat} (hj : j < l.length) : risAt l lo hi j = true := by
  unfold risB at h
  rw [List.all_eq_true] at h
  exact h j (by simpa using hj)
theorem risB_f {l : List Int} {lo hi : Int} {j : Nat} (hj : j < l.length) (h : risAt l lo hi j = false) : risB l lo hi = false := by
  unfold risB
  rw [List.all_eq_false]
  exact ⟨j, by simpa using hj, by simpa using h⟩
theorem risAt_bad {l : List Int} {lo hi x : Int} {k : Nat} (hx : l.getD k 0 = x) (h : inB x lo hi = false) : risAt l lo hi k = false := by unfold risAt; rw [hx, h]; rfl
theorem risAt_head {l : List Int} {lo hi x : Int} {k : Nat} (hx : l.getD k 0 = x) (h : inB x lo hi = true) (hk : k = 0) : risAt l lo hi k = true := by unfold risAt; rw [hx, h, hk]; rfl
theorem risAt_next {l : List Int} {lo hi x p : Int} {k : Nat} (hx : l.getD k 0 = x) (hp : l.getD (k - 1) 0 = p) (h : inB x lo hi = true) (hk : k ≠ 0) : risAt l lo hi k = decide (p < x) := by unfold risAt; rw [hx, hp, h]; simp [hk]
theorem risB_bounds {l : List Int} {lo hi : Int} (h : risB l lo hi = true) {j : Nat} (hj : j < l.length) : lo ≤ l.getD j 0 ∧ l.getD j 0 ≤ hi := by
  have := risB_at h hj
  simp only [risAt, Bool.and_eq_true] at this
  exact inB_t.1 this.1
theorem risB_lt {l : List Int} {lo hi : Int} (h : risB l lo hi = true) {i : Nat} : ∀ {j : Nat}, i < j → j < l.length → l.getD i 0 < l.getD j 0
  | 0, h0, _ => by omega
  | j + 1, h0, hj => by
    have s := risB_at h hj
    simp only [risAt, Bool.and_eq_true, Bool.or_eq_true, decide_eq_true_eq] at s
    have s2 : l.getD j 0 < l.getD (j + 1) 0 := by
      rcases s.2 with q | q
      · simp at q
      · simpa using q
    by_cases e : i = j
    · subst e; exact s2
    · have := risB_lt h (i := i) (j := j) (by omega) (by omega)
      omega

def outF (bet : Nat → Nat → Int) (m : List Int) (v : Nat) (k : Nat) : Int := isum ((List.range k).map fun u => if m.getD u 0 = 0 then bet v u else 0)
theorem outF_succ (bet : Nat → Nat → Int) (m : List Int) (v k : Nat) : outF bet m v (k + 1) = outF bet m v k + (if m.getD k 0 = 0 then bet v k else 0) := by
  unfold outF; rw [List.range_succ, List.map_append, List.map_singleton, isum_snoc]
theorem outF_bound {bet : Nat → Nat → Int} {m : List Int} {N v : Nat} (hb : ∀ j, j < N → 0 ≤ bet v j ∧ bet v j ≤ 5) : ∀ k, k ≤ N → 0 ≤ outF bet m v k ∧ outF bet m v k ≤ 5 * k
  | 0, _ => by simp [outF, isum_nil]
  | k + 1, hk => by
    have ih := outF_bound (m := m) hb k (by omega)
    have := hb k (by omega)
    rw [outF_succ]
    split <;> omega

set_option maxHeartbeats 400000 in
theorem l1Has_any (ad : Option Addr) (cap : Nat) (xs : List Int) (y : Int) (w : World) (hl : xs.length ≤ 1048576) (hr : RdI w ad xs) :
    Calls Try.prog 72 #[.slice ad xs.length cap, .int .i64 y] w fun e w' => e = .returned (.bool (decide (y ∈ xs))) ∧ w = w' := by
  have HR := Lib.hid hr; clear hr
  go_enter Try.func72, Try.ntmps72
  go_wp2
  go_loop [9] (fun i => ∃ k : Nat, k ≤ xs.length ∧ i = .int .i64 k ∧ ∀ j, j < k → xs.getD j 0 ≠ y) (fun i => xs.length - (intOf i).toNat)
  case atStart => exact ⟨0, Nat.zero_le _, rfl, fun j hj => by omega⟩
  case round =>
    obtain ⟨k, hk, rfl, hj⟩ := hrel
    have HJ := Lib.hid hj; clear hj
    by_cases hlt : k < xs.length
    · obtain ⟨b, off, rfl, hb, c⟩ := HR.out k hlt
      generalize hx : xs.getD k 0 = x at c
      have HX := Lib.hid hx; clear hx
      by_cases h1 : x = y
      · have h1' : (x == y) = true := by simpa using h1
        have H1 := Lib.hid h1; clear h1
        go_wp2
        go_ret
        refine ⟨ret_bool ?_, rfl⟩
        symm
        rw [decide_eq_true_iff, ← H1.out, ← HX.out]
        simp [List.getD, hlt]
      · have h1' : (x == y) = false := by simpa using h1
        have H1 := Lib.hid h1; clear h1
        go_wp2
        go_round
        case rel =>
          refine ⟨k + 1, by omega, by go_num, fun j hj => ?_⟩
          by_cases e : j = k
          · subst e; rw [HX.out]; exact H1.out
          · exact HJ.out j (by omega)
        case measure => simp [intOf]; omega
    · have he : k = xs.length := by omega
      subst he
      go_wp2
      go_ret
      refine ⟨ret_bool ?_, rfl⟩
      symm
      rw [decide_eq_false_iff_not]
      intro hc
      obtain ⟨j, hj, e⟩ := List.getElem_of_mem hc
      exact HJ.out j hj (by simp [List.getD, hj, e])

set_option maxHeartbeats 800000 in
theorem l1Ris_any (ad : Option Addr) (cap : Nat) (xs : List Int) (hi : Int) (w : World) (hl : xs.length ≤ 1048576) (hr : RdI w ad xs) :
    Calls Try.prog 71 #[.slice ad xs.length cap, .int .i64 0, .int .i64 hi] w fun e w' => e = .returned (.bool (risB xs 0 hi)) ∧ w = w' := by
  have HR := Lib.hid hr; clear hr
  go_enter Try.func71, Try.ntmps71
  go_wp2
  go_loop [11] (fun i => ∃ k : Nat, k ≤ xs.length ∧ i = .int .i64 k ∧ ∀ j, j < k → risAt xs 0 hi j = true) (fun i => xs.length - (intOf i).toNat)
  case atStart => exact ⟨0, Nat.zero_le _, rfl, fun j hj => by omega⟩
  case round =>
    obtain ⟨k, hk, rfl, hj⟩ := hrel
    have HJ := Lib.hid hj; clear hj
    by_cases hlt : k < xs.length
    · obtain ⟨b, off, rfl, hb, c⟩ := HR.out k hlt
      generalize hx : xs.getD k 0 = x at c
      have HX := Lib.hid hx; clear hx
      by_cases h1 : inB x 0 hi = true
      · by_cases hk0 : k = 0
        · have hk1 : k ≤ 0 := by omega
          have hkd : decide (0 < k) = false := by simp [hk0]
          have HK0 := Lib.hid hk0; clear hk0
          go_wp2_with (go_at_call 105; refine (l1In_any _ _ _ _).mono ?_; rintro e w' ⟨rfl, rfl⟩)
          go_round
          case rel =>
            refine ⟨k + 1, by omega, by go_num, fun j hj => ?_⟩
            by_cases e : j = k
            · subst e; exact risAt_head HX.out h1 HK0.out
            · exact HJ.out j (by omega)
          case measure => simp [intOf]; omega
        · have hk1 : 0 < k := by omega
          have hk2 : (1 : Int) ≤ k := by omega
          have p0 := HR.out.at (j := k - 1) (by omega)
          generalize hp : xs.getD (k - 1) 0 = p at p0
          have HP := Lib.hid hp; clear hp
          have HK0 := Lib.hid hk0; clear hk0
          by_cases hpx : p < x
          · have hpd : decide (x ≤ p) = false := by simp; omega
            go_wp2_with (go_at_call 105; refine (l1In_any _ _ _ _).mono ?_; rintro e w' ⟨rfl, rfl⟩)
            go_round
            case rel =>
              refine ⟨k + 1, by omega, by go_num, fun j hj => ?_⟩
              by_cases e : j = k
              · subst e; rw [risAt_next HX.out HP.out h1 HK0.out]; simpa using hpx
              · exact HJ.out j (by omega)
            case measure => simp [intOf]; omega
          · have hpd : x ≤ p := by omega
            go_wp2_with (go_at_call 105; refine (l1In_any _ _ _ _).mono ?_; rintro e w' ⟨rfl, rfl⟩)
            go_ret
            exact ⟨ret_bool (risB_f hlt (by rw [risAt_next HX.out HP.out h1 HK0.out]; simpa using hpd)).symm, rfl⟩
      · have h1' := Bool.eq_false_iff.2 h1
        go_wp2_with (go_at_call 105; refine (l1In_any _ _ _ _).mono ?_; rintro e w' ⟨rfl, rfl⟩)
        go_ret
        exact ⟨ret_bool (risB_f hlt (risAt_bad HX.out h1')).symm, rfl⟩
    · have he : k = xs.length := by omega
      subst he
      go_wp2
      go_ret
      exact ⟨ret_bool (risB_t HJ.out).symm, rfl⟩

set_option maxHeartbeats 800000 in
theorem areInd_any (ad : Option Addr) (cap : Nat) (xs : List Int) (N : Nat) (w : World) (hl : xs.length ≤ 1048576) (h0 : 0 < xs.length) (hN : 1 ≤ N ∧ N ≤ 8) (hr : RdI w ad xs) :
    Calls Try.prog 110 #[.slice ad xs.length cap, .int .i64 N] w fun e w' => e = .returned (.bool (risB xs 0 ((N : Int) - 1))) ∧ w = w' := by
  have HR := Lib.hid hr; clear hr
  go_enter Try.func110, Try.ntmps110
  go_wp2
  go_loop [9] (fun i => ∃ k : Nat, k ≤ xs.length ∧ i = .int .i64 k ∧ ∀ j, j < k → risAt xs 0 ((N : Int) - 1) j = true) (fun i => xs.length - (intOf i).toNat)
  case atStart => exact ⟨0, Nat.zero_le _, rfl, fun j hj => by omega⟩
  case round =>
    obtain ⟨k, hk, rfl, hj⟩ := hrel
    have HJ := Lib.hid hj; clear hj
    by_cases hlt : k < xs.length
    · obtain ⟨b, off, rfl, hb, c⟩ := HR.out k hlt
      generalize hx : xs.getD k 0 = x at c
      have HX := Lib.hid hx; clear hx
      by_cases h1 : inB x 0 ((N : Int) - 1) = true
      · by_cases hk0 : k = 0
        · have hk1 : k ≤ 0 := by omega
          have hkd : decide (0 < k) = false := by simp [hk0]
          have HK0 := Lib.hid hk0; clear hk0
          go_wp2_with (go_at_call 107; refine (within_any _ _ _ _).mono ?_; rintro e w' ⟨rfl, rfl⟩)
          go_round
          case rel =>
            refine ⟨k + 1, by omega, by go_num, fun j hj => ?_⟩
            by_cases e : j = k
            · subst e; exact risAt_head HX.out h1 HK0.out
            · exact HJ.out j (by omega)
          case measure => simp [intOf]; omega
        · have hk1 : 0 < k := by omega
          have hk2 : (1 : Int) ≤ k := by omega
          have p0 := HR.out.at (j := k - 1) (by omega)
          generalize hp : xs.getD (k - 1) 0 = p at p0
          have HP := Lib.hid hp; clear hp
          have HK0 := Lib.hid hk0; clear hk0
          by_cases hpx : p < x
          · have hpd : decide (x ≤ p) = false := by simp; omega
            go_wp2_with (go_at_call 107; refine (within_any _ _ _ _).mono ?_; rintro e w' ⟨rfl, rfl⟩)
            go_round
            case rel =>
              refine ⟨k + 1, by omega, by go_num, fun j hj => ?_⟩
              by_cases e : j = k
              · subst e; rw [risAt_next HX.out HP.out h1 HK0.out]; simpa using hpx
              · exact HJ.out j (by omega)
            case measure => simp [intOf]; omega
          · have hpd : x ≤ p := by omega
            go_wp2_with (go_at_call 107; refine (within_any _ _ _ _).mono ?_; rintro e w' ⟨rfl, rfl⟩)
            go_ret
            exact ⟨ret_bool (risB_f hlt (by rw [risAt_next HX.out HP.out h1 HK0.out]; simpa using hpd)).symm, rfl⟩
      · have h1' := Bool.eq_false_iff.2 h1
        go_wp2_with (go_at_call 107; refine (within_any _ _ _ _).mono ?_; rintro e w' ⟨rfl, rfl⟩)
        go_ret
        exact ⟨ret_bool (risB_f hlt (risAt_bad HX.out h1')).symm, rfl⟩
    · have he : k = xs.length := by omega
      subst he
      go_wp2
      go_ret
      exact ⟨ret_bool (risB_t HJ.out).symm, rfl⟩

set_option maxHeartbeats 400000 in
theorem isSet_any (G gb gv capb : Nat) (rb : Nat → Nat) (N : Nat) (bet : Nat → Nat → Int) (val : Nat → Int) (ed : Int) (ad : Option Addr) (cap : Nat) (xs : List Int) (w : World) (hG : GrAt w G gb gv capb rb N bet val ed) (hN : 1 ≤ N ∧ N ≤ 8) (hl : xs.length ≤ 1048576) (hr : RdI w ad xs) :
    Calls Try.prog 68 #[.pointer (some ⟨G, 0, none⟩), .slice ad xs.length cap] w fun e w' => e = .returned (.bool (risB xs 0 (N - 1))) ∧ w = w' := by
  have c0 := hG.c0
  clear hG
  by_cases h0 : xs.length = 0
  · have hd : ((xs.length : Int) == 0) = true := by simpa using h0
    have hR : Hid (risB xs 0 (N - 1) = true) := risB_t fun j hj => by omega
    have H0 := Lib.hid h0; clear h0
    go_enter Try.func68, Try.ntmps68
    go_wp2
    go_ret
    exact ⟨ret_bool hR.out.symm, rfl⟩
  · have hd : ((xs.length : Int) == 0) = false := by simpa using h0
    have h1 : 0 < xs.length := by omega
    have H0 := Lib.hid h0; clear h0
    go_enter Try.func68, Try.ntmps68
    go_wp2_with fail
    refine (areInd_any ad cap xs N _ hl h1 (by omega) hr).mono ?_
    rintro e w' ⟨rfl, rfl⟩
    go_wp2
    go_ret
    exact ⟨rfl, rfl⟩

set_option maxHeartbeats 400000 in
theorem outside_any (G gb gv capb : Nat) (rb : Nat → Nat) (N : Nat) (bet : Nat → Nat → Int) (val : Nat → Int) (ed : Int) (v : Nat) (ad : Option Addr) (cap : Nat) (m : List Int) (w : World) (hG : GrAt w G gb gv capb rb N bet val ed) (hN : N ≤ 8) (hv : v < N) (hm : m.length = N) (hr : RdI w ad m)
    (hb : ∀ j, j < N → 0 ≤ bet v j ∧ bet v j ≤ 5) :
    Calls Try.prog 70 #[.pointer (some ⟨G, 0, none⟩), .int .i64 v, .slice ad N cap] w fun e w' => e = .returned (.int .i64 (outF bet m v N)) ∧ w = w' := by
  have c1 := hG.c1
  have r1 := hG.row hv
  have HG := Lib.hid hG; clear hG
  have HR := Lib.hid hr; clear hr
  have HM := Lib.hid hm; clear hm
  have HB := Lib.hid hb; clear hb
  go_enter Try.func70, Try.ntmps70
  go_wp2_with fail
  go_loop [7, 18] (fun s i => ∃ k : Nat, k ≤ N ∧ i = .int .i64 k ∧ s = .int .i64 (outF bet m v k)) (fun _ i => N - (intOf i).toNat)
  case atStart => exact ⟨0, Nat.zero_le _, rfl, rfl⟩
  case round =>
    obtain ⟨k, hk, rfl, rfl⟩ := hrel
    have bd := outF_bound (m := m) HB.out k hk
    by_cases hlt : k < N
    · obtain ⟨b, off, rfl, hbb, c⟩ := HR.out k (by rw [HM.out]; exact hlt)
      have cb := HG.out.cb hv hlt
      have b1 := HB.out k hlt
      have st := outF_succ bet m v k
      have HST := Lib.hid st; clear st
      generalize outF bet m v k = s at bd HST ⊢
      generalize bet v k = y at cb b1 HST
      generalize m.getD k 0 = x at c HST
      by_cases h0 : x = 0
      · have h0' : (x == 0) = true := by simpa using h0
        have H0 := Lib.hid h0; clear h0
        go_wp2
        go_round
        case rel => exact ⟨k + 1, by omega, by go_num, by rw [HST.out, if_pos H0.out]⟩
        case measure => simp [intOf]; omega
      · have h0' : (x == 0) = false := by simpa using h0
        have H0 := Lib.hid h0; clear h0
        go_wp2
        go_round
        case rel => exact ⟨k + 1, by omega, by go_num, by rw [HST.out, if_neg H0.out, Int.add_zero]⟩
        case measure => simp [intOf]; omega
    · have he : k = N := by omega
      subst he
      go_wp2
      go_ret
      exact ⟨rfl, rfl⟩

end Go.Proofs.Ytmhmdbmiimpbnaa
