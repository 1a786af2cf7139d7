/-
  The reference's BestAssignment. By an AI agent.
-/
import Derived.Test.YtjlkgioinogbkaaAsM
namespace Go.Proofs.Ytjlkgioinogbkaa
open Go.RowKit

theorem asl_pos {n : Nat} {m : Nat → Nat → Int} (hm : ∀ a b, a < n → b < n → numB (m a b) = true) (hn : 1 ≤ n ∧ n ≤ 6) : decide (0 < (aslA n m).length) = !decide ((bstA n m).2 = []) := by
  rcases best_spec (m := m) hm hn with ⟨h1, h2⟩ | ⟨h1, h2, h3, _⟩
  · have : aslA n m = [] := by
      rw [aslA_eq, List.filter_eq_nil_iff]
      intro c hc
      obtain ⟨g1, g2⟩ := prmA_mem.1 hc
      rw [h2 c g1 g2]
      simp
    rw [this, h1]
    simp
  · have h4 : (bstA n m).2 ∈ aslA n m := by
      rw [aslA_eq, List.mem_filter]
      exact ⟨prmA_mem.2 ⟨h1, h2⟩, h3⟩
    have h5 : 0 < (aslA n m).length := List.length_pos_of_mem h4
    have h6 : (bstA n m).2 ≠ [] := fun e => by rw [e] at h2; simp at h2; omega
    rw [decide_eq_true h5, decide_eq_false h6]
    rfl

set_option maxHeartbeats 1600000 in
set_option maxRecDepth 100000 in
theorem asAsked_c (ad : Option Addr) (cap : Nat) (M : List (List Int)) (w : World) (hr : RdM w ad M) (hl : smM M) :
    Calls Try.prog 25 #[.slice ad M.length cap] w fun e w' => e = .returned (.bool (bsB M)) ∧ Below w.heap.size w w' := by
  have C1 := Lib.hid (mxSquare_c ad cap M w hr (by have := hl.1; omega) (fun i hi => by have := hl.2 i hi; omega))
  have C2 := Lib.hid (fun (h : sqB M = true) => by
    obtain ⟨hn, _, hnum⟩ := sq_facts h
    have h3 := hr
    rw [← sq_toM h] at h3
    exact (show Calls Try.prog 50 #[.slice ad M.length cap, .slice none 0 0] w (AllR w.heap.size (aslA M.length (entM M)) w) from asAll_c M.length ad cap (entM M) w h3 hn M.length [] none 0 w w.heap.size hn.2 (Ndp.nil _) (by simp) ⟨none, 0, rfl, Nat.le_refl _, Or.inl ⟨rfl, rfl⟩⟩ (Nat.le_refl _) (Below.refl _ _)))
  have HPO := Lib.hid (fun (h : sqB M = true) => show decide (0 < (aslA M.length (entM M)).length) = !decide ((bstA M.length (entM M)).2 = []) from by
    obtain ⟨hn, _, hnum⟩ := sq_facts h
    exact asl_pos hnum hn)
  unfold bsB
  unfold AllR at C2
  clear hr hl
  generalize decide ((bstA M.length (entM M)).2 = []) = Z at HPO ⊢
  generalize (aslA M.length (entM M)) = L at C2 HPO
  generalize sqB M = S at C1 C2 HPO ⊢
  generalize M.length = n at C1 C2 ⊢
  cases S
  · clear C2 HPO
    go_enter Try.func25, Try.ntmps25
    go_wp2_with fail
    refine C1.out.mono ?_
    rintro e w1 ⟨rfl, rfl⟩
    go_wp2_with fail
    go_ret
    exact ⟨rfl, Below.refl _ _⟩
  · have hpo := Lib.hid (HPO.out rfl)
    have c2 := Lib.hid (C2.out rfl)
    clear C2 HPO
    rw [Bool.true_and, ← hpo.out]
    go_enter Try.func25, Try.ntmps25
    go_wp2_with fail
    refine C1.out.mono ?_
    rintro e w1 ⟨rfl, rfl⟩
    go_wp2_with fail
    refine c2.out.mono ?_
    rintro e w2 ⟨a2, cp2, rfl, _, hb2⟩
    go_wp2_with fail
    go_ret
    exact ⟨ret_bool (by simp), hb2⟩

theorem asR_of {M : List (List Int)} (h : bsB M = true) : 0 < (asR M.length (entM M)).1.length ∧ (asR M.length (entM M)).1.getD 0 [] = bsL M ∧ (asR M.length (entM M)).2 = bsC M := by
  unfold bsB at h
  simp only [Bool.and_eq_true, Bool.not_eq_true', decide_eq_false_iff_not] at h
  obtain ⟨hn, _, hnum⟩ := sq_facts h.1
  rcases best_rel (m := entM M) hnum hn with ⟨h1, _⟩ | ⟨_, _, h2, h3⟩
  · rw [h1] at h; exact absurd rfl h.2
  · generalize (asR M.length (entM M)).1 = R at h3
    cases R with
    | nil => cases h3
    | cons x R =>
      injection h3 with h3
      exact ⟨by simp, h3, h2⟩
theorem bsL_len {M : List (List Int)} (h : bsB M = true) : (bsL M).length = M.length := (bst_of h).1.len
theorem asBestB_c (ad : Option Addr) (cap : Nat) (M : List (List Int)) (w : World) (hr : RdM w ad M) (h : bsB M = true) : ∀ u, Below w.heap.size w u → Calls Try.prog 29 #[.slice ad M.length cap] u fun e w' => ∃ g n cap', e = .returned (.tuple #[.slice (some ⟨g, 0, none⟩) n cap', .int .i64 (bsC M)]) ∧ 0 < n ∧ g < w'.heap.size ∧ (∃ a c, w'.cell? ⟨g, 0, none⟩ = some (.slice a M.length c) ∧ CellO w' u.heap.size (.slice a M.length c) (bsL M)) ∧ Below u.heap.size u w' := by
  intro u hb
  have hs : sqB M = true := by unfold bsB at h; rw [Bool.and_eq_true] at h; exact h.1
  obtain ⟨hn, _, hnum⟩ := sq_facts hs
  have h3 := hr.below hb
  rw [← sq_toM hs] at h3
  refine (asBest_c M.length ad cap (entM M) u h3 hn hnum).mono ?_
  rintro e w' ⟨ad', cap', rfl, ⟨vs, hm⟩, hbl⟩
  obtain ⟨g1, g2, g3⟩ := asR_of h
  obtain ⟨g, a, c, rfl, hg, hc, hce⟩ := hm.at g1
  rw [g2, bsL_len h] at hc hce
  rw [← bsL_len h] at hce
  rw [g3]
  exact ⟨g, _, cap', rfl, g1, hg, ⟨a, c, hc, by rw [← bsL_len h]; exact hce⟩, hbl⟩

/-- BestAssignment's answer, its list within its capacity. -/
def BesO (B : Bool) (A : List Int) (c : Int) (w : World) (e : Ending) (w' : World) : Prop := ∃ ad cap, e = .returned (.tuple #[.slice ad (onL B A).length cap, .int .i64 (if B = true then c else 0), .bool B]) ∧ CellO w' w.heap.size (.slice ad (onL B A).length cap) (onL B A) ∧ Below w.heap.size w w'

set_option maxHeartbeats 3200000 in
set_option maxRecDepth 100000 in
theorem sBestO_c (ad : Option Addr) (cap : Nat) (M : List (List Int)) (w : World) (hr : RdM w ad M) (hl : smM M) :
    Calls Try.prog 11 #[.slice ad M.length cap] w (BesO (baB M) (bsL M) (bsC M) w) := by
  have C1 := Lib.hid (asAsked_c ad cap M w hr hl)
  have C2 := Lib.hid (fun h => asBestB_c ad cap M w hr h)
  have CN := Lib.hid (fun w => nuGood_c (bsC M) w)
  have HLN := Lib.hid (fun (h : bsB M = true) => bsL_len h)
  unfold baB
  clear hr hl
  generalize bsC M = X at C2 CN ⊢
  generalize bsL M = L at C2 HLN ⊢
  generalize numB X = U at CN ⊢
  generalize bsB M = B at C1 C2 HLN ⊢
  generalize M.length = n at C1 C2 HLN ⊢
  cases B
  · clear C2 HLN CN
    go_enter Try.func11, Try.ntmps11
    go_wp2_with fail
    refine C1.out.mono ?_
    rintro e w1 ⟨rfl, hb1⟩
    go_wp2_with fail
    exact bodyPost_ret (v := .tuple #[.slice none 0 0, .int .i64 0, .bool false]) (by simp [results, Try.results11, go_sem]) rfl ⟨none, 0, rfl, ⟨none, 0, rfl, Nat.le_refl _, Or.inl ⟨rfl, rfl⟩⟩, hb1⟩
  · have c2 := Lib.hid (C2.out rfl)
    have hln := HLN.out rfl
    clear C2 HLN
    cases U
    · go_enter Try.func11, Try.ntmps11
      go_wp2_with fail
      refine C1.out.mono ?_
      rintro e w1 ⟨rfl, hb1⟩
      go_wp2_with fail
      refine (c2.out _ hb1).mono ?_
      rintro e w2 ⟨g, N, cp, rfl, hN, hg, ⟨a, c, hc, hrd⟩, hb2⟩
      have hb3 := ball hb1 hb2
      go_wp2_with fail
      refine (CN.out _).mono ?_
      rintro e w3 ⟨rfl, rfl⟩
      go_wp2_with fail
      exact bodyPost_ret (v := .tuple #[.slice none 0 0, .int .i64 0, .bool false]) (by simp [results, Try.results11, go_sem]) rfl ⟨none, 0, rfl, ⟨none, 0, rfl, Nat.le_refl _, Or.inl ⟨rfl, rfl⟩⟩, hb3⟩
    · go_enter Try.func11, Try.ntmps11
      go_wp2_with fail
      refine C1.out.mono ?_
      rintro e w1 ⟨rfl, hb1⟩
      go_wp2_with fail
      refine (c2.out _ hb1).mono ?_
      rintro e w2 ⟨g, N, cp, rfl, hN, hg, ⟨a, c, hc, hrd⟩, hb2⟩
      have hb3 := ball hb1 hb2
      have HRD := Lib.hid hrd
      clear hrd
      go_wp2_with fail
      refine (CN.out _).mono ?_
      rintro e w3 ⟨rfl, rfl⟩
      go_wp2_with fail
      refine bodyPost_ret (v := .tuple #[.slice a n c, .int .i64 X, .bool true]) (by simp [results, Try.results11, go_sem]) rfl ?_
      exact ⟨a, c, by rw [Bool.and_self, show (onL true L).length = _ from hln, if_pos rfl], by rw [Bool.and_self, show (onL true L).length = _ from hln]; exact HRD.out.mono hb1.size, hb3⟩
theorem sBest_c (ad : Option Addr) (cap : Nat) (M : List (List Int)) (w : World) (hr : RdM w ad M) (hl : smM M) :
    Calls Try.prog 11 #[.slice ad M.length cap] w (BesR (baB M) (bsL M) (bsC M) w) :=
  (sBestO_c ad cap M w hr hl).mono fun _ _ ⟨ad', cap', h1, h2, h4⟩ => ⟨ad', cap', h1, h2.rd, h4⟩
end Go.Proofs.Ytjlkgioinogbkaa
