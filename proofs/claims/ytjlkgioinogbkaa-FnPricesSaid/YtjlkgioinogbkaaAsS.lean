/-
  The reference's RowPrices and ColumnPrices. By an AI agent.
-/
import Derived.Test.YtjlkgioinogbkaaAsO
import Derived.Test.YtjlkgioinogbkaaAsF
namespace Go.Proofs.Ytjlkgioinogbkaa
open Go.RowKit

theorem allB_num {l : List Int} (h : ∀ i, i < l.length → l.getD i 0 < 1000000000) : allB l (-1000000) 1000000 = l.all numB := by
  unfold allB
  induction l with
  | nil => rfl
  | cons x l ih =>
    have h0 := h 0 (by simp)
    have ih := ih (fun i hi => by have := h (i + 1) (by simp; omega); simpa using this)
    simp only [List.getD_cons_zero] at h0
    rw [List.all_cons, List.all_cons, ih]
    congr 1
    unfold numB
    have : (x == 1000000000) = false := beq_eq_false_iff_ne.2 (by omega)
    rw [this, Bool.or_false]
theorem bsB_sq {M : List (List Int)} (h : bsB M = true) : sqB M = true := by unfold bsB at h; rw [Bool.and_eq_true] at h; exact h.1
theorem asRowsB_c (ad : Option Addr) (cap : Nat) (M : List (List Int)) (w : World) (hr : RdM w ad M) (h : bsB M = true) (u : World) (hb : Below w.heap.size w u) :
    Calls Try.prog 26 #[.slice ad M.length cap] u fun e w' => ∃ ad5 cap5 aA cA, e = .returned (.tuple #[.slice ad5 M.length cap5, .slice aA M.length cA]) ∧ RowI w' u.heap.size (.slice ad5 M.length cap5) (rpL M) ∧ RdI w' aA (bsL M) ∧ Below u.heap.size u w' := by
  have h3 := hr.below hb
  rw [← sq_toM (bsB_sq h)] at h3
  exact asRows_c M.length ad cap (entM M) (bsL M) (bsC M) u h3 (bst_of h).1 ((asBestB_c ad cap M w hr h u hb).mono fun _ _ ⟨g, n, cp, h1, h2, h3, ⟨a, c, h4, h5⟩, h6⟩ => ⟨g, n, cp, h1, h2, h3, ⟨a, c, h4, h5.rd⟩, h6⟩)

set_option maxHeartbeats 3200000 in
set_option maxRecDepth 100000 in
theorem sRow_c (ad : Option Addr) (cap : Nat) (M : List (List Int)) (w : World) (hr : RdM w ad M) (hl : smM M) :
    Calls Try.prog 7 #[.slice ad M.length cap] w (LisR (rpB M) (rpL M) w) := by
  have C1 := Lib.hid (asAsked_c ad cap M w hr hl)
  have C2 := Lib.hid (fun h => asRowsB_c ad cap M w hr h)
  have HRL := Lib.hid (show (rpL M).length = M.length from tab_length _ _)
  have HAB := Lib.hid (fun (h : bsB M = true) => allB_num (l := rpL M) (fun i hi => by
    unfold rpL at hi ⊢
    rw [tab_length] at hi
    rw [tab_getD hi]
    have := (bst_of h).1.U hi
    rw [show bstA M.length (entM M) = (bsC M, bsL M) from rfl] at this
    simp only at this
    omega))
  have hnb := hl.1
  unfold rpB
  clear hr hl
  generalize bsL M = L at C2
  generalize rpL M = R at C2 HRL HAB ⊢
  generalize bsB M = B at C1 C2 HAB ⊢
  generalize M.length = n at C1 C2 HRL hnb ⊢
  cases B
  · clear C2
    go_enter Try.func7, Try.ntmps7
    go_wp2_with fail
    refine C1.out.mono ?_
    rintro e w1 ⟨rfl, hb1⟩
    go_wp2_with fail
    exact bodyPost_ret (v := .tuple #[.slice none 0 0, .bool false]) (by simp [results, Try.results7, go_sem]) rfl (by rw [Bool.false_and]; exact LisR.no _ hb1)
  · have c2 := Lib.hid (C2.out rfl)
    have hab := HAB.out rfl
    obtain ⟨U, hU⟩ : ∃ U, R.all numB = U := ⟨_, rfl⟩
    rw [hU] at hab
    have HU := Lib.hid hU
    have HA := Lib.hid hab
    clear C2 HAB hU hab
    go_enter Try.func7, Try.ntmps7
    go_wp2_with fail
    refine C1.out.mono ?_
    rintro e w1 ⟨rfl, hb1⟩
    go_wp2_with fail
    refine (c2.out _ hb1).mono ?_
    rintro e w2 ⟨ad5, cap5, aA, cA, rfl, hrow, _, hb2⟩
    have hb3 := ball hb1 hb2
    have hrd : RdI w2 ad5 R := by
      obtain ⟨a, c, e, h⟩ := hrow.shape
      injection e with e _ _
      subst e
      exact h
    have HRD := Lib.hid hrd
    have CL := l1All_any ad5 cap5 R (-1000000) 1000000 w2 (by rw [HRL.out]; omega) hrd
    rw [HA.out, HRL.out] at CL
    have HCL := Lib.hid CL
    clear hrow hrd CL
    cases U
    · go_wp2_with fail
      refine HCL.out.mono ?_
      rintro e w5 ⟨rfl, rfl⟩
      go_wp2_with fail
      exact bodyPost_ret (v := .tuple #[.slice none 0 0, .bool false]) (by simp [results, Try.results7, go_sem]) rfl (by rw [Bool.true_and, HU.out]; exact LisR.no _ hb3)
    · go_wp2_with fail
      refine HCL.out.mono ?_
      rintro e w5 ⟨rfl, rfl⟩
      go_wp2_with fail
      exact bodyPost_ret (v := .tuple #[.slice ad5 n cap5, .bool true]) (by simp [results, Try.results7, go_sem]) rfl (by rw [Bool.true_and, HU.out]; exact LisR.yes HRD.out HRL.out hb3)
end Go.Proofs.Ytjlkgioinogbkaa
