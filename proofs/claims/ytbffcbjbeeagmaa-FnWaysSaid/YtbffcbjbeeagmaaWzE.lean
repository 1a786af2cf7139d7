/-
  Circuits: membership, and what a circuit costs; the program's. By an AI agent.
-/
import Derived.Test.YtbffcbjbeeagmaaWzP
import Derived.Test.YtbffcbjbeeagmaaWzB
namespace Go.Proofs.Ytbffcbjbeeagmaa
open Go.RowKit

set_option maxHeartbeats 800000 in
theorem index0W (ad : Option Addr) (cap : Nat) (xs : List Int) (y : Int) (w : World) (hl : xs.length ≤ 1048576) (hr : RdI w ad xs) :
    Calls Try.prog 118 #[.slice ad xs.length cap, .int .i64 y] w fun e w' => (∃ r : Int, e = .returned (.int .i64 r) ∧ ((0 ≤ r ∧ y ∈ xs) ∨ (r = -1 ∧ y ∉ xs))) ∧ w = w' := by
  have HR := Lib.hid hr; clear hr
  go_enter Try.func118, Try.ntmps118
  go_wp2
  go_loop [8] (fun i => ∃ k : Nat, k ≤ xs.length ∧ i = .int .i64 k ∧ ∀ j, j < k → xs.getD j 0 ≠ y) (fun i => xs.length - (intOf i).toNat)
  case atStart => exact ⟨0, Nat.zero_le _, rfl, fun j hj => by omega⟩
  case round =>
    obtain ⟨k, hk, rfl, hlow⟩ := hrel
    have HLow := Lib.hid hlow; clear hlow
    by_cases hlt : k < xs.length
    · obtain ⟨b, off, rfl, hbb, c0⟩ := HR.out k hlt
      obtain ⟨x, hx⟩ : ∃ x, xs.getD k 0 = x := ⟨_, rfl⟩
      rw [hx] at c0
      have hmem : x ∈ xs := by rw [← hx, List.getD_eq_getElem?_getD, List.getElem?_eq_getElem hlt]; exact List.getElem_mem hlt
      have HMEM := Lib.hid hmem; clear hmem
      have HX := Lib.hid hx; clear hx
      by_cases h1 : y = x
      · have h1' : (y == x) = true := by simpa using h1
        have H1 := Lib.hid h1; clear h1
        go_wp2
        go_ret
        exact ⟨⟨k, rfl, Or.inl ⟨by omega, by rw [H1.out]; exact HMEM.out⟩⟩, rfl⟩
      · have h1' : (y == x) = false := by simpa using h1
        have H1 := Lib.hid h1; clear h1
        go_wp2
        go_round
        case rel =>
          refine ⟨k + 1, by omega, by go_num, fun j hj => ?_⟩
          by_cases e : j = k
          · subst e; rw [HX.out]; exact fun e => H1.out e.symm
          · exact HLow.out j (by omega)
        case measure => simp [intOf]; omega
    · have he : k = xs.length := by omega
      subst he
      go_wp2
      go_ret
      refine ⟨⟨-1, rfl, Or.inr ⟨rfl, fun hm => ?_⟩⟩, rfl⟩
      obtain ⟨j, hj, e⟩ := List.getElem_of_mem hm
      exact HLow.out j hj (by rw [List.getD_eq_getElem?_getD, List.getElem?_eq_getElem hj]; exact e)

set_option maxHeartbeats 400000 in
theorem containsW (ad : Option Addr) (cap : Nat) (xs : List Int) (y : Int) (w : World) (hl : xs.length ≤ 1048576) (hr : RdI w ad xs) :
    Calls Try.prog 102 #[.slice ad xs.length cap, .int .i64 y] w fun e w' => e = .returned (.bool (decide (y ∈ xs))) ∧ w = w' := by
  go_enter Try.func102, Try.ntmps102
  go_wp2_with fail
  refine (index0W ad cap xs y _ hl hr).mono ?_
  rintro e w' ⟨⟨r, rfl, hr'⟩, rfl⟩
  have hd : Hid (decide (0 ≤ r) = decide (y ∈ xs)) := by
    show _ = _
    rcases hr' with ⟨h1, h2⟩ | ⟨rfl, h2⟩
    · simp [h1, h2]
    · simp [h2]
  clear hr'
  go_wp2_with fail
  go_ret
  exact ⟨ret_bool hd.out, rfl⟩

set_option maxHeartbeats 400000 in
theorem l1HasW (ad : Option Addr) (cap : Nat) (xs : List Int) (y : Int) (w : World) (hl : xs.length ≤ 1048576) (hr : RdI w ad xs) :
    Calls Try.prog 103 #[.slice ad xs.length cap, .int .i64 y] w fun e w' => e = .returned (.bool (decide (y ∈ xs))) ∧ w = w' := by
  have HR := Lib.hid hr; clear hr
  go_enter Try.func103, Try.ntmps103
  go_wp2
  go_loop [9] (fun i => ∃ k : Nat, k ≤ xs.length ∧ i = .int .i64 k ∧ ∀ j, j < k → xs.getD j 0 ≠ y) (fun i => xs.length - (intOf i).toNat)
  case atStart => exact ⟨0, Nat.zero_le _, rfl, fun j hj => by omega⟩
  case round =>
    obtain ⟨k, hk, rfl, hj⟩ := hrel
    have HJ := Lib.hid hj; clear hj
    by_cases hlt : k < xs.length
    · obtain ⟨b, off, rfl, hb, c⟩ := HR.out k hlt
      generalize hx : xs.getD k 0 = x at c
      have HX := Lib.hid hx; clear hx
      by_cases h1 : x = y
      · have h1' : (x == y) = true := by simpa using h1
        have H1 := Lib.hid h1; clear h1
        go_wp2
        go_ret
        refine ⟨ret_bool ?_, rfl⟩
        symm
        rw [decide_eq_true_iff, ← H1.out, ← HX.out]
        simp [List.getD, hlt]
      · have h1' : (x == y) = false := by simpa using h1
        have H1 := Lib.hid h1; clear h1
        go_wp2
        go_round
        case rel =>
          refine ⟨k + 1, by omega, by go_num, fun j hj => ?_⟩
          by_cases e : j = k
          · subst e; rw [HX.out]; exact H1.out
          · exact HJ.out j (by omega)
        case measure => simp [intOf]; omega
    · have he : k = xs.length := by omega
      subst he
      go_wp2
      go_ret
      refine ⟨ret_bool ?_, rfl⟩
      symm
      rw [decide_eq_false_iff_not]
      intro hc
      obtain ⟨j, hj, e⟩ := List.getElem_of_mem hc
      exact HJ.out j hj (by simp [List.getD, hj, e])

set_option maxHeartbeats 1600000 in
set_option maxRecDepth 100000 in
theorem costOfCircuit_c (n : Nat) (ad : Option Addr) (cap : Nat) (m : Nat → Nat → Int) (adw : Option Addr) (capw : Nat) (l : List Int) (w : World) (hr : RdM w ad (toM n m)) (hw : RdI w adw l) (hn : 1 ≤ n ∧ n ≤ 6) (hp : Pth n m l) (hnum : ∀ a b, a < n → b < n → numB (m a b) = true) :
    Calls Try.prog 56 #[.slice ad n cap, .slice adw l.length capw] w fun e w' => e = .returned (.int .i64 (cyC m l)) ∧ Below w.heap.size w w' := by
  have hl := hp.len
  have hl1 := hp.pos
  have CS := Lib.hid (costOfSteps_c n ad cap m adw capw l w.drew (hr.below (Below.refl _ _).drew) (hw.below (Below.refl _ _).drew) hn ⟨hl1, by omega⟩ hp.vt hnum)
  have hbd := co_bd hnum hp.vt (by omega) (l.length - 1) (by omega)
  have hm := numB_t (hnum (laV l) (vx l 0) hp.la hp.hd)
  obtain ⟨v1, u1⟩ := vt_at hp.vt (t := l.length - 1) (by omega)
  obtain ⟨v2, u2⟩ := vt_at hp.vt (t := 0) (by omega)
  obtain ⟨bp, op, rfl, hbp, q1⟩ := hw (l.length - 1) (by omega)
  have q2 := hw.at (j := 0) (by omega)
  rw [v1] at q1
  rw [v2] at q2
  rw [Nat.add_zero] at q2
  obtain ⟨bM, oM, rfl, hbM, hrow⟩ := hr.rowF (by omega)
  obtain ⟨b2, o2, c2, e2, hl2, hc2⟩ := hrow _ u1
  have k1 := hc2 _ u2
  have CP := Lib.hid (fun w => product_c (coF m l (l.length - 1)) (m (laV l) (vx l 0)) w (by
    rcases hbd with ⟨_, h⟩ | ⟨_, h1, h2⟩
    · rw [h]; omega
    · omega))
  unfold cyC at *
  unfold laV at *
  generalize hN : l.length = N at hl hl1 q1 e2 k1 u1 CS CP ⊢
  obtain ⟨t, ht⟩ : ∃ t, N - 1 = t := ⟨_, rfl⟩
  rw [ht] at q1 e2 k1 u1 CS CP ⊢
  have e1 : IntKind.i64.wrap ((N : Int) - 1) = (t : Int) := by rw [i64_small (by omega) (by omega)]; omega
  have x3 : (0 : Int) ≤ (t : Int) := by omega
  have x4 : (t : Int) < (N : Int) := by omega
  have x1 : 0 < N := by omega
  clear hr hw hp hnum hbd hm v1 v2 hrow hc2 ht hN
  generalize prodZ (coF m l t) (m (vx l t) (vx l 0)) = P at CP ⊢
  generalize coF m l t = C at CS CP
  generalize m (vx l t) (vx l 0) = D at k1 CP
  generalize vx l t = a at q1 e2 u1
  generalize vx l 0 = b at q2 k1 u2
  have x5 : (0 : Int) ≤ (a : Int) := by omega
  have x6 : (a : Int) < (n : Int) := by omega
  have x7 : (0 : Int) ≤ (b : Int) := by omega
  have x8 : (b : Int) < (n : Int) := by omega
  go_enter Try.func56, Try.ntmps56
  go_wp2_with fail
  go_region_held3 (fun w' => w'.cell? ⟨bp, op + t, none⟩ = some (.int .i64 (a : Int)) ∧ w'.cell? ⟨bp, op, none⟩ = some (.int .i64 (b : Int)) ∧ w'.cell? ⟨bM, oM + a, none⟩ = some (.slice (some ⟨b2, o2, none⟩) n c2) ∧ w'.cell? ⟨b2, o2 + b, none⟩ = some (.int .i64 D)) (exact ⟨by assumption, by assumption, by assumption, by assumption⟩)
    (first
      | (go_at_call 45; (with_reducible refine (CP.out _).mono ?_); rintro e W1 ⟨rfl, rfl⟩)
      | (go_at_call 51; (with_reducible refine (CS.out).mono ?_); rintro e W1 ⟨rfl, hb1⟩; have m0 := bcell hb1 hbp q1; have m1 := bcell hb1 hbp q2; have m2 := bcell hb1 hbM e2; have m3 := bcell hb1 hl2 k1)
      | fail)
  go_wp2_with fail
  go_ret
  exact ⟨rfl, ball (Below.refl _ _).drew hb1⟩
end Go.Proofs.Ytbffcbjbeeagmaa
