/-
  'laws.FnExactIsSmooth' returns true at every input and leaves its arguments as they were: no condition.
-/
import Derived.Test.YtbnlfpcgcpdbhaaCeW
import Derived.Test.YtbnlfpcgcpdbhaaOpen
namespace Go.Proofs.Ytbnlfpcgcpdbhaa
open Go.ChangeShapes Go.WideShapes Go.ChangeAt Go.RowKit

set_option maxHeartbeats 3200000 in
set_option maxRecDepth 100000 in
theorem lawIsSmooth_any (ad0 : Option Addr) (cap0 : Nat) (ls0 : List Tm) (w : World) (hm0 : ls0.length ≤ 9223372036854775807) (hr0 : RdT w ad0 ls0) :
    Calls Try.prog 3 #[.slice ad0 ls0.length cap0] w fun e w' => e = .returned (.bool true) ∧ Below w.heap.size w w' := by
  by_cases hl0 : ls0.length ≤ 1048576
  case neg =>
    go_enter Try.func3, Try.ntmps3
    go_wp2_with fail
    refine (szTermS_big ad0 ls0.length cap0 1048576 _ (by omega) (by omega) hm0 (by omega)).mono ?_
    rintro e w' ⟨rfl, rfl⟩
    go_wp2
    go_ret
    exact ⟨rfl, Below.refl _ _⟩
  case pos =>
    have HR0 := Lib.hid hr0; clear hr0
    go_enter Try.func3, Try.ntmps3
    go_wp2_with fail
    refine (szTermS_ok ad0 ls0.length cap0 1048576 _ (by omega) (by omega)).mono ?_
    rintro e w' ⟨rfl, rfl⟩
    have hs0 : (0 : Int) ≤ 1048576 - ls0.length := by omega
    go_wp2_with fail
    refine (toTermS_any ad0 cap0 ls0 _ hl0 HR0.out).mono ?_
    rintro e w1 ⟨g1, rfl, hg1, ho1, hb1⟩
    have HO1 := Lib.hid ho1; clear ho1
    go_wp2_with fail
    refine (specSmo_c _ _ ls0 _ hl0 HO1.out.rdT).mono ?_
    rintro e w2 ⟨rfl, hb2⟩
    go_wp2_with fail
    refine (toTermS_any ad0 cap0 ls0 _ hl0 (HR0.out.below (ball (ball (Below.refl _ _) hb1) hb2))).mono ?_
    rintro e w3 ⟨g2, rfl, hg2, ho2, hb3⟩
    have HO2 := Lib.hid ho2; clear ho2
    go_wp2_with fail
    refine (implSmo_c _ _ ls0 _ hl0 HO2.out.rdT).mono ?_
    rintro e w4 ⟨rfl, hb4⟩
    go_wp2_with fail
    refine (toTermS_any ad0 cap0 ls0 _ hl0 (HR0.out.below (ball (ball (ball (ball (Below.refl _ _) hb1) hb2) hb3) hb4))).mono ?_
    rintro e w5 ⟨g3, rfl, hg3, ho3, hb5⟩
    have HO3 := Lib.hid ho3; clear ho3
    go_wp2_with fail
    refine (eqTermS_same _ _ _ _ ls0 _ hl0 (HO2.out.belowAll (ball (ball (Below.refl _ _) hb4) hb5)).rdT HO3.out.rdT).mono ?_
    rintro e w6 ⟨rfl, hb6⟩
    go_wp2
    go_ret
    exact ⟨rfl, (ball (ball (ball (ball (ball (ball (Below.refl _ _) hb1) hb2) hb3) hb4) hb5) hb6)⟩

set_option maxRecDepth 100000 in
theorem isSmooth_lifted (os : Os) (started : os.Started) (H : Type) (enc : TypeId × Value → H) :
    ReturnsInHanded {} Try.checked os 3 .any (Rows.fnExactIsSmoothSpec.pre6 enc Try.prog Try.f3 Rows.fnExactIsSmoothRow.domain false) (Rows.fnExactIsSmoothSpec.post enc Try.prog Try.f3 false true false false) := by
  refine returnsInHanded_of_change (C := Try.checked) Try.own started (by kernel_rfl) Try.func3
    (ChangeSpec.witness6 (enc := enc) (C := Try.checked) false ⟨#[], #[.slice none 0 0], []⟩ 8 (by kernel_rfl) (by kernel_rfl) (by kernel_rfl) (by kernel_rfl)) ?_
  intro W base args ds gs before hval0 hW hcnd _
  have hval : ∀ (j : Nat) t v, Try.f3.params[j]? = some t → args[j]? = some v → Value.okWide Try.prog W .any base t v := hval0
  have hW' := hW
  obtain ⟨p0, q, hA0, hV, rfl, hfz, hnd⟩ := hW
  have hA : DataW.TrodAll enc Try.prog W 0 (fun _ => true) true Try.f3.params.toList args.toList ds p0 := hA0
  rw [Try.params3] at hA hval
  obtain ⟨v0, d0, rfl, rfl, h0⟩ := trodAll_one hA
  obtain ⟨rfl, rfl⟩ := trodVars_none hV
  obtain ⟨a0, len0, cap0, rfl⟩ := okWide_slice Try.underlying22 (hval 0 22 v0 rfl rfl)
  clear hA0 hval0
  simp only [List.append_nil] at hW'
  have lt0 : ∀ x ∈ p0, x.block < W.heap.size := fun x hx => hW'.lt x (by simp [hx])
  have k0 : ∀ (W' : World), Below W.heap.size W W' → DataW.Trod enc Try.prog W' 0 (fun b => decide (b < W.heap.size)) true 22 (.slice a0 len0 cap0) d0 p0 :=
    fun W' hn => Below.trod Try.laidOut (by kernel_rfl) (of_decide_eq_true (by kernel_rfl)) h0 hn lt0
  obtain ⟨hm0, ls0, rfl, hr0⟩ := open_rdT h0
  refine (lawIsSmooth_any a0 cap0 ls0 W hm0 hr0).mono fun e W' ⟨he, hw⟩ => ?_
  subst he
  refine ⟨_, rfl, _, _, _, [], p0, [], hW', ?_, ?_, rfl, hw.frame _, fun h => by cases h⟩
  · exact trodAll_mk1 (shut_bool Try.underlying4 true)
  · exact trodAll_mk1 (k0 W' hw)

theorem isSmooth_holds : Rows.FnExactIsSmoothSaid :=
  OpenClaim.holds_of_wide 3 Try.f3 rfl rfl rfl rfl rfl rfl rfl ⟨rfl, rfl, rfl, rfl, rfl⟩ rfl rfl rfl rfl rfl (by kernel_rfl) Try.func3 (by kernel_rfl)
    (of_decide_eq_true (by kernel_rfl)) (by unfold Func.isWrapper; first | (rw [if_pos (by decide +kernel)]; kernel_rfl) | (rw [if_neg (by decide +kernel)]; exact ⟨rfl, rfl⟩))
    (fun os started H enc _ => isSmooth_lifted os started H enc)

end Go.Proofs.Ytbnlfpcgcpdbhaa
