/-
  'laws.FnExactCellAreas' returns true at every input and leaves its arguments as they were: no condition.
-/
import Derived.Test.YtbnlfpcgcpdbhaaCeW
import Derived.Test.YtbnlfpcgcpdbhaaOpen
namespace Go.Proofs.Ytbnlfpcgcpdbhaa
open Go.ChangeShapes Go.WideShapes Go.ChangeAt Go.RowKit

set_option maxHeartbeats 3200000 in
set_option maxRecDepth 100000 in
theorem lawCellAreas_any (ad0 : Option Addr) (cap0 : Nat) (ls0 : List Tm) (w : World) (hm0 : ls0.length ≤ 9223372036854775807) (hr0 : RdT w ad0 ls0) :
    Calls Try.prog 4 #[.slice ad0 ls0.length cap0] w fun e w' => e = .returned (.bool true) ∧ Below w.heap.size w w' := by
  by_cases hl0 : ls0.length ≤ 1048576
  case neg =>
    go_enter Try.func4, Try.ntmps4
    go_wp2_with fail
    refine (szTermS_big ad0 ls0.length cap0 1048576 _ (by omega) (by omega) hm0 (by omega)).mono ?_
    rintro e w' ⟨rfl, rfl⟩
    go_wp2
    go_ret
    exact ⟨rfl, Below.refl _ _⟩
  case pos =>
    have HR0 := Lib.hid hr0; clear hr0
    go_enter Try.func4, Try.ntmps4
    go_wp2_with fail
    refine (szTermS_ok ad0 ls0.length cap0 1048576 _ (by omega) (by omega)).mono ?_
    rintro e w' ⟨rfl, rfl⟩
    have hs0 : (0 : Int) ≤ 1048576 - ls0.length := by omega
    have hlr0 : ((areR ls0).1).length ≤ 1048576 := areR_len _
    go_wp2_with fail
    refine (toTermS_any ad0 cap0 ls0 _ hl0 HR0.out).mono ?_
    rintro e w1 ⟨g1, rfl, hg1, ho1, hb1⟩
    have HO1 := Lib.hid ho1; clear ho1
    go_wp2_with fail
    refine (specAre_c _ _ ls0 _ hl0 HO1.out.rdT).mono ?_
    rintro e w2 ⟨v1, rfl, hv1, hb2⟩
    have HV1 := Lib.hid hv1; clear hv1
    go_wp2_with fail
    refine (toTermS_any ad0 cap0 ls0 _ hl0 (HR0.out.below (ball (ball (Below.refl _ _) hb1) hb2))).mono ?_
    rintro e w3 ⟨g2, rfl, hg2, ho2, hb3⟩
    have HO2 := Lib.hid ho2; clear ho2
    have ltg2 := HO2.out.lt
    go_wp2_with fail
    refine (implAre_c _ _ ls0 _ hl0 HO2.out.rdT).mono ?_
    rintro e w4 ⟨v2, rfl, hv2, hb4⟩
    have HV2 := Lib.hid hv2; clear hv2
    go_wp2_with fail
    refine (eqIntS_v _ _ (areR ls0).1 _ hlr0 HV2.out.rdV (HV1.out.below (ball (ball (Below.refl _ _) hb3) hb4)).rdV).mono ?_
    rintro e w5 ⟨rfl, hb5⟩
    go_wp2_with fail
    refine (toTermS_any ad0 cap0 ls0 _ hl0 (HR0.out.below (ball (ball (ball (ball (ball (Below.refl _ _) hb1) hb2) hb3) hb4) hb5))).mono ?_
    rintro e w6 ⟨g3, rfl, hg3, ho3, hb6⟩
    have HO3 := Lib.hid ho3; clear ho3
    go_wp2_with fail
    refine (eqTermS_same _ _ _ _ ls0 _ hl0 (HO2.out.belowAll (ball (ball (ball (Below.refl _ _) hb4) hb5) hb6)).rdT HO3.out.rdT).mono ?_
    rintro e w7 ⟨rfl, hb7⟩
    go_wp2_with fail
    refine (markTermS_own g2 _ ls0 _ _ hl0 (by omega) (by omega) (HO2.out.belowAll (ball (ball (ball (ball (Below.refl _ _) hb4) hb5) hb6) hb7))).mono ?_
    rintro e w8 ⟨rfl, hc8⟩
    have HNv28 := Lib.hid ((HV2.out.below (ball (ball (ball (Below.refl _ _) hb5) hb6) hb7)).chg hc8 ltg2)
    go_wp2_with fail
    refine (eqIntS_v _ _ (areR ls0).1 _ hlr0 HNv28.out.rdV (HV1.out.below (bchg (ball (ball (ball (ball (ball (Below.refl _ _) hb3) hb4) hb5) hb6) hb7) hc8 hg2 (Nat.le_trans (Nat.le_trans (Nat.le_trans (Nat.le_trans hb3.size hb4.size) hb5.size) hb6.size) hb7.size))).rdV).mono ?_
    rintro e w9 ⟨rfl, hb9⟩
    go_wp2_with fail
    refine (markIntS_res w3.heap.size v2 (areR ls0).1 _ _ hlr0 (by omega) (by omega) (Nat.le_trans (Nat.le_trans (Nat.le_trans (Nat.le_trans (Nat.le_trans hb4.size hb5.size) hb6.size) hb7.size) hc8.size) hb9.size) (HNv28.out.below (ball (Below.refl _ _) hb9))).mono ?_
    rintro e w10 ⟨rfl, hq10, hb10⟩
    have HQ10 := Lib.hid hq10; clear hq10
    go_wp2_with fail
    refine (heldIntS_v v2 (areR ls0).1.length 1 _ hlr0 (by omega) (by omega) HQ10.out.rdV).mono ?_
    rintro e w' ⟨rfl, rfl⟩
    go_wp2_with fail
    refine (toTermS_any ad0 cap0 ls0 _ hl0 (HR0.out.below ((ball (bchg (ball (ball (ball (ball (ball (ball (ball (Below.refl _ _) hb1) hb2) hb3) hb4) hb5) hb6) hb7) hc8 (Nat.le_trans (Nat.le_trans hb1.size hb2.size) hg2) (Nat.le_trans (Nat.le_trans (Nat.le_trans (Nat.le_trans (Nat.le_trans (Nat.le_trans hb1.size hb2.size) hb3.size) hb4.size) hb5.size) hb6.size) hb7.size)) hb9).trans (hb10.mono (Nat.le_trans (Nat.le_trans hb1.size hb2.size) hb3.size))))).mono ?_
    rintro e w11 ⟨g4, rfl, hg4, ho4, hb11⟩
    have HO4 := Lib.hid ho4; clear ho4
    go_wp2_with fail
    refine (implAre_c _ _ ls0 _ hl0 HO4.out.rdT).mono ?_
    rintro e w12 ⟨v3, rfl, hv3, hb12⟩
    have HV3 := Lib.hid hv3; clear hv3
    go_wp2_with fail
    refine (eqIntS_v _ _ (areR ls0).1 _ hlr0 HV3.out.rdV (HV1.out.below (ball (ball ((ball (bchg (ball (ball (ball (ball (ball (Below.refl _ _) hb3) hb4) hb5) hb6) hb7) hc8 hg2 (Nat.le_trans (Nat.le_trans (Nat.le_trans (Nat.le_trans hb3.size hb4.size) hb5.size) hb6.size) hb7.size)) hb9).trans (hb10.mono hb3.size)) hb11) hb12)).rdV).mono ?_
    rintro e w13 ⟨rfl, hb13⟩
    go_wp2_with fail
    refine (heldIntS_v v2 (areR ls0).1.length 1 _ hlr0 (by omega) (by omega) (HQ10.out.below (ball (ball (ball (Below.refl _ _) hb11) hb12) hb13)).rdV).mono ?_
    rintro e w' ⟨rfl, rfl⟩
    go_wp2
    go_ret
    exact ⟨rfl, (ball (ball (ball ((ball (bchg (ball (ball (ball (ball (ball (ball (ball (Below.refl _ _) hb1) hb2) hb3) hb4) hb5) hb6) hb7) hc8 (Nat.le_trans (Nat.le_trans hb1.size hb2.size) hg2) (Nat.le_trans (Nat.le_trans (Nat.le_trans (Nat.le_trans (Nat.le_trans (Nat.le_trans hb1.size hb2.size) hb3.size) hb4.size) hb5.size) hb6.size) hb7.size)) hb9).trans (hb10.mono (Nat.le_trans (Nat.le_trans hb1.size hb2.size) hb3.size))) hb11) hb12) hb13)⟩

set_option maxRecDepth 100000 in
theorem cellAreas_lifted (os : Os) (started : os.Started) (H : Type) (enc : TypeId × Value → H) :
    ReturnsInHanded {} Try.checked os 4 .any (Rows.fnExactCellAreasSpec.pre6 enc Try.prog Try.f4 Rows.fnExactCellAreasRow.domain false) (Rows.fnExactCellAreasSpec.post enc Try.prog Try.f4 false true false false) := by
  refine returnsInHanded_of_change (C := Try.checked) Try.own started (by kernel_rfl) Try.func4
    (ChangeSpec.witness6 (enc := enc) (C := Try.checked) false ⟨#[], #[.slice none 0 0], []⟩ 8 (by kernel_rfl) (by kernel_rfl) (by kernel_rfl) (by kernel_rfl)) ?_
  intro W base args ds gs before hval0 hW hcnd _
  have hval : ∀ (j : Nat) t v, Try.f4.params[j]? = some t → args[j]? = some v → Value.okWide Try.prog W .any base t v := hval0
  have hW' := hW
  obtain ⟨p0, q, hA0, hV, rfl, hfz, hnd⟩ := hW
  have hA : DataW.TrodAll enc Try.prog W 0 (fun _ => true) true Try.f4.params.toList args.toList ds p0 := hA0
  rw [Try.params4] at hA hval
  obtain ⟨v0, d0, rfl, rfl, h0⟩ := trodAll_one hA
  obtain ⟨rfl, rfl⟩ := trodVars_none hV
  obtain ⟨a0, len0, cap0, rfl⟩ := okWide_slice Try.underlying22 (hval 0 22 v0 rfl rfl)
  clear hA0 hval0
  simp only [List.append_nil] at hW'
  have lt0 : ∀ x ∈ p0, x.block < W.heap.size := fun x hx => hW'.lt x (by simp [hx])
  have k0 : ∀ (W' : World), Below W.heap.size W W' → DataW.Trod enc Try.prog W' 0 (fun b => decide (b < W.heap.size)) true 22 (.slice a0 len0 cap0) d0 p0 :=
    fun W' hn => Below.trod Try.laidOut (by kernel_rfl) (of_decide_eq_true (by kernel_rfl)) h0 hn lt0
  obtain ⟨hm0, ls0, rfl, hr0⟩ := open_rdT h0
  refine (lawCellAreas_any a0 cap0 ls0 W hm0 hr0).mono fun e W' ⟨he, hw⟩ => ?_
  subst he
  refine ⟨_, rfl, _, _, _, [], p0, [], hW', ?_, ?_, rfl, hw.frame _, fun h => by cases h⟩
  · exact trodAll_mk1 (shut_bool Try.underlying4 true)
  · exact trodAll_mk1 (k0 W' hw)

theorem cellAreas_holds : Rows.FnExactCellAreasSaid :=
  OpenClaim.holds_of_wide 4 Try.f4 rfl rfl rfl rfl rfl rfl rfl ⟨rfl, rfl, rfl, rfl, rfl⟩ rfl rfl rfl rfl rfl (by kernel_rfl) Try.func4 (by kernel_rfl)
    (of_decide_eq_true (by kernel_rfl)) (by unfold Func.isWrapper; first | (rw [if_pos (by decide +kernel)]; kernel_rfl) | (rw [if_neg (by decide +kernel)]; exact ⟨rfl, rfl⟩))
    (fun os started H enc _ => cellAreas_lifted os started H enc)

end Go.Proofs.Ytbnlfpcgcpdbhaa
