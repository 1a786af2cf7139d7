/-
  'laws.FnExactBoundaryPoints' returns true at every input and leaves its arguments as they were: no condition.
-/
import Derived.Test.YtpnnmdkhkjenmaaPolyT
import Derived.Test.YtpnnmdkhkjenmaaLawP
namespace Go.Proofs.Ytpnnmdkhkjenmaa
open Go.ChangeShapes Go.WideShapes Go.ChangeAt Go.RowKit

set_option maxHeartbeats 3200000 in
set_option maxRecDepth 100000 in
theorem lawBoundaryPoints_any (ad1 : Option Addr) (cap1 : Nat) (ls1 : List Pt) (w : World) (hm1 : ls1.length ≤ 9223372036854775807) (hr1 : RdP w ad1 ls1) :
    Calls Try.prog 3 #[.slice ad1 ls1.length cap1] w fun e w' => e = .returned (.bool true) ∧ Below w.heap.size w w' := by
  by_cases hl1 : ls1.length ≤ 1048576
  case neg =>
    go_enter Try.func3, Try.ntmps3
    go_wp2_with fail
    refine (szPointS_big ad1 ls1.length cap1 1048576 _ (by omega) (by omega) hm1 (by omega)).mono ?_
    rintro e w' ⟨rfl, rfl⟩
    go_wp2
    go_ret
    exact ⟨rfl, Below.refl _ _⟩
  case pos =>
    have HR1 := Lib.hid hr1; clear hr1
    have ci := fun ad cap w hr => iBoundaryPoints_c ad cap ls1 w hr hl1
    have cs := fun ad cap w hr => sBoundaryPoints_c ad cap ls1 w hr hl1
    unfold bpV at ci cs
    generalize (if polyB ls1 = true then bndP ls1 else 0) = z at ci cs
    generalize polyB ls1 = b at ci cs
    have CI := Lib.hid ci; have CS := Lib.hid cs; clear ci cs
    go_enter Try.func3, Try.ntmps3
    go_wp2_with fail
    refine (szPointS_ok ad1 ls1.length cap1 1048576 _ (by omega) (by omega)).mono ?_
    rintro e w' ⟨rfl, rfl⟩
    have hs1 : (0 : Int) ≤ 1048576 - ls1.length := by omega
    go_wp2_with fail
    refine (toPointS_any ad1 cap1 ls1 _ hl1 HR1.out).mono ?_
    rintro e w1 ⟨g1, rfl, hg1, ho1, hb1⟩
    have HO1 := Lib.hid ho1; clear ho1
    go_wp2_with fail
    refine (CS.out _ _ _ HO1.out.rdP).mono ?_
    rintro e w2 ⟨rfl, hb2⟩
    go_wp2_with fail
    refine (toPointS_any ad1 cap1 ls1 _ hl1 (HR1.out.below (ball hb1 hb2))).mono ?_
    rintro e w3 ⟨g2, rfl, hg2, ho2, hb3⟩
    have HO2 := Lib.hid ho2; clear ho2
    go_wp2_with fail
    refine (CI.out _ _ _ HO2.out.rdP).mono ?_
    rintro e w4 ⟨rfl, hb4⟩
    go_wp2_with fail
    refine (toPointS_any ad1 cap1 ls1 _ hl1 (HR1.out.below (ball (ball (ball hb1 hb2) hb3) hb4))).mono ?_
    rintro e w5 ⟨g3, rfl, hg3, ho3, hb5⟩
    have HO3 := Lib.hid ho3; clear ho3
    go_wp2_with fail
    refine (eqPointS_same _ _ _ _ ls1 _ hl1 (HO2.out.belowAll (ball hb4 hb5)).rdP HO3.out.rdP).mono ?_
    rintro e w6 ⟨rfl, hb6⟩
    go_wp2
    go_ret
    exact ⟨rfl, (ball (ball (ball (ball (ball hb1 hb2) hb3) hb4) hb5) hb6)⟩

set_option maxRecDepth 100000 in
theorem boundaryPoints_lifted (os : Os) (started : os.Started) (H : Type) (enc : TypeId × Value → H) :
    ReturnsInHanded {} Try.checked os 3 .any (Rows.fnExactBoundaryPointsSpec.pre6 enc Try.prog Try.f3 Rows.fnExactBoundaryPointsRow.domain false) (Rows.fnExactBoundaryPointsSpec.post enc Try.prog Try.f3 false true false false) := by
  refine returnsInHanded_of_change (C := Try.checked) Try.own started (by kernel_rfl) Try.func3
    (ChangeSpec.witness6 (enc := enc) (C := Try.checked) false ⟨#[], #[.slice none 0 0], []⟩ 8 (by kernel_rfl) (by kernel_rfl) (by kernel_rfl) (by kernel_rfl)) ?_
  intro W base args ds gs before hval0 hW hcnd _
  have hval : ∀ (j : Nat) t v, Try.f3.params[j]? = some t → args[j]? = some v → Value.okWide Try.prog W .any base t v := hval0
  have hW' := hW
  obtain ⟨p1, q, hA0, hV, rfl, hfz, hnd⟩ := hW
  have hA : DataW.TrodAll enc Try.prog W 0 (fun _ => true) true Try.f3.params.toList args.toList ds p1 := hA0
  rw [Try.params3] at hA hval
  obtain ⟨v1, d1, rfl, rfl, h1⟩ := trodAll_one hA
  obtain ⟨rfl, rfl⟩ := trodVars_none hV
  obtain ⟨a1, len1, cap1, rfl⟩ := okWide_slice Try.underlying22 (hval 0 22 v1 rfl rfl)
  clear hA0 hval0
  simp only [List.append_nil] at hW'
  have lt1 : ∀ x ∈ p1, x.block < W.heap.size := fun x hx => hW'.lt x (by simp [hx])
  have k1 : ∀ (W' : World), Below W.heap.size W W' → DataW.Trod enc Try.prog W' 0 (fun b => decide (b < W.heap.size)) true 22 (.slice a1 len1 cap1) d1 p1 :=
    fun W' hn => Below.trod Try.laidOut (by kernel_rfl) (of_decide_eq_true (by kernel_rfl)) h1 hn lt1
  obtain ⟨hm1, ls1, rfl, hr1⟩ := open_rdP h1
  refine (lawBoundaryPoints_any a1 cap1 ls1 W hm1 hr1).mono fun e W' ⟨he, hw⟩ => ?_
  subst he
  refine ⟨_, rfl, _, _, _, [], p1, [], hW', ?_, ?_, rfl, hw.frame _, fun h => by cases h⟩
  · exact trodAll_mk1 (shut_bool Try.underlying4 true)
  · exact trodAll_mk1 (k1 W' hw)

theorem boundaryPoints_holds : Rows.FnExactBoundaryPointsSaid :=
  OpenClaim.holds_of_wide 3 Try.f3 rfl rfl rfl rfl rfl rfl rfl ⟨rfl, rfl, rfl, rfl, rfl⟩ rfl rfl rfl rfl rfl (by kernel_rfl) Try.func3 (by kernel_rfl)
    (of_decide_eq_true (by kernel_rfl)) (by unfold Func.isWrapper; first | (rw [if_pos (by decide +kernel)]; kernel_rfl) | (rw [if_neg (by decide +kernel)]; exact ⟨rfl, rfl⟩))
    (fun os started H enc _ => boundaryPoints_lifted os started H enc)

end Go.Proofs.Ytpnnmdkhkjenmaa
