/-
  'laws.FnExactLaplacianOf' returns true at every input and leaves its arguments as they were: no condition.
-/
import Derived.Test.YtcajnfhgpacpcaaLapl
import Derived.Test.YtcajnfhgpacpcaaOpen
namespace Go.Proofs.Ytcajnfhgpacpcaa
open Go.ChangeShapes Go.WideShapes Go.ChangeAt Go.RowKit

set_option maxHeartbeats 3200000 in
set_option maxRecDepth 100000 in
theorem lawLaplacianOf_any (x0 : Int) (ad1 : Option Addr) (cap1 : Nat) (ls1 : List Lk) (w : World) (hm1 : ls1.length ≤ 9223372036854775807) (hr1 : RdL w ad1 ls1) :
    Calls Try.prog 11 #[.int .i64 x0, .slice ad1 ls1.length cap1] w fun e w' => e = .returned (.bool true) ∧ Below w.heap.size w w' := by
  by_cases hl1 : ls1.length ≤ 1048576
  case neg =>
    go_enter Try.func11, Try.ntmps11
    go_wp2_with fail
    refine (szLinkS_big ad1 ls1.length cap1 1048576 _ (by omega) (by omega) hm1 (by omega)).mono ?_
    rintro e w' ⟨rfl, rfl⟩
    go_wp2
    go_ret
    exact ⟨rfl, Below.refl _ _⟩
  case pos =>
    have HR1 := Lib.hid hr1; clear hr1
    go_enter Try.func11, Try.ntmps11
    go_wp2_with fail
    refine (szLinkS_ok ad1 ls1.length cap1 1048576 _ (by omega) (by omega)).mono ?_
    rintro e w' ⟨rfl, rfl⟩
    have hs1 : (0 : Int) ≤ 1048576 - ls1.length := by omega
    have hlr0 : smallR (laplR x0 ls1).1 := laplR_small _ _
    go_wp2_with fail
    refine (toLinkS_any ad1 cap1 ls1 _ hl1 HR1.out).mono ?_
    rintro e w1 ⟨g1, rfl, hg1, ho1, hb1⟩
    have HO1 := Lib.hid ho1; clear ho1
    go_wp2_with fail
    refine (specLapl_c x0 _ _ ls1 _ hl1 HO1.out.rdL).mono ?_
    rintro e w2 ⟨v1, rfl, hv1, hb2⟩
    have HV1 := Lib.hid hv1; clear hv1
    go_wp2_with fail
    refine (toLinkS_any ad1 cap1 ls1 _ hl1 (HR1.out.below (ball (ball (Below.refl _ _) hb1) hb2))).mono ?_
    rintro e w3 ⟨g2, rfl, hg2, ho2, hb3⟩
    have HO2 := Lib.hid ho2; clear ho2
    have ltg2 := HO2.out.lt
    go_wp2_with fail
    refine (implLapl_c x0 _ _ ls1 _ hl1 HO2.out.rdL).mono ?_
    rintro e w4 ⟨v2, rfl, hv2, hb4⟩
    have HV2 := Lib.hid hv2; clear hv2
    go_wp2_with fail
    refine (eqIntSS_v _ _ (laplR x0 ls1).1 _ hlr0 HV2.out.rdR (HV1.out.below (ball (ball (Below.refl _ _) hb3) hb4)).rdR).mono ?_
    rintro e w5 ⟨rfl, hb5⟩
    go_wp2_with fail
    refine (toLinkS_any ad1 cap1 ls1 _ hl1 (HR1.out.below (ball (ball (ball (ball (ball (Below.refl _ _) hb1) hb2) hb3) hb4) hb5))).mono ?_
    rintro e w6 ⟨g3, rfl, hg3, ho3, hb6⟩
    have HO3 := Lib.hid ho3; clear ho3
    go_wp2_with fail
    refine (eqLinkS_same _ _ _ _ ls1 _ hl1 (HO2.out.belowAll (ball (ball (ball (Below.refl _ _) hb4) hb5) hb6)).rdL HO3.out.rdL).mono ?_
    rintro e w7 ⟨rfl, hb7⟩
    go_wp2_with fail
    refine (markLinkS_own g2 _ ls1 _ _ hl1 (by omega) (by omega) (HO2.out.belowAll (ball (ball (ball (ball (Below.refl _ _) hb4) hb5) hb6) hb7))).mono ?_
    rintro e w8 ⟨rfl, hc8⟩
    have HNv28 := Lib.hid ((HV2.out.below (ball (ball (ball (Below.refl _ _) hb5) hb6) hb7)).chg hc8 ltg2)
    go_wp2_with fail
    refine (eqIntSS_v _ _ (laplR x0 ls1).1 _ hlr0 HNv28.out.rdR (HV1.out.below (bchg (ball (ball (ball (ball (ball (Below.refl _ _) hb3) hb4) hb5) hb6) hb7) hc8 hg2 (Nat.le_trans (Nat.le_trans (Nat.le_trans (Nat.le_trans hb3.size hb4.size) hb5.size) hb6.size) hb7.size))).rdR).mono ?_
    rintro e w9 ⟨rfl, hb9⟩
    go_wp2_with fail
    refine (markIntSS_res w3.heap.size v2 (laplR x0 ls1).1 _ hlr0 (Nat.le_trans (Nat.le_trans (Nat.le_trans (Nat.le_trans (Nat.le_trans hb4.size hb5.size) hb6.size) hb7.size) hc8.size) hb9.size) (HNv28.out.below (ball (Below.refl _ _) hb9))).mono ?_
    rintro e w10 ⟨rfl, hq10, hb10⟩
    have HQ10 := Lib.hid hq10; clear hq10
    go_wp2_with fail
    refine (heldIntSS_v v2 (laplR x0 ls1).1 _ hlr0 HQ10.out.rdR).mono ?_
    rintro e w' ⟨rfl, rfl⟩
    go_wp2_with fail
    refine (toLinkS_any ad1 cap1 ls1 _ hl1 (HR1.out.below ((ball (bchg (ball (ball (ball (ball (ball (ball (ball (Below.refl _ _) hb1) hb2) hb3) hb4) hb5) hb6) hb7) hc8 (Nat.le_trans (Nat.le_trans hb1.size hb2.size) hg2) (Nat.le_trans (Nat.le_trans (Nat.le_trans (Nat.le_trans (Nat.le_trans (Nat.le_trans hb1.size hb2.size) hb3.size) hb4.size) hb5.size) hb6.size) hb7.size)) hb9).trans (hb10.mono (Nat.le_trans (Nat.le_trans hb1.size hb2.size) hb3.size))))).mono ?_
    rintro e w11 ⟨g4, rfl, hg4, ho4, hb11⟩
    have HO4 := Lib.hid ho4; clear ho4
    go_wp2_with fail
    refine (implLapl_c x0 _ _ ls1 _ hl1 HO4.out.rdL).mono ?_
    rintro e w12 ⟨v3, rfl, hv3, hb12⟩
    have HV3 := Lib.hid hv3; clear hv3
    go_wp2_with fail
    refine (eqIntSS_v _ _ (laplR x0 ls1).1 _ hlr0 HV3.out.rdR (HV1.out.below (ball (ball ((ball (bchg (ball (ball (ball (ball (ball (Below.refl _ _) hb3) hb4) hb5) hb6) hb7) hc8 hg2 (Nat.le_trans (Nat.le_trans (Nat.le_trans (Nat.le_trans hb3.size hb4.size) hb5.size) hb6.size) hb7.size)) hb9).trans (hb10.mono hb3.size)) hb11) hb12)).rdR).mono ?_
    rintro e w13 ⟨rfl, hb13⟩
    go_wp2_with fail
    refine (heldIntSS_v v2 (laplR x0 ls1).1 _ hlr0 (HQ10.out.below (ball (ball (ball (Below.refl _ _) hb11) hb12) hb13)).rdR).mono ?_
    rintro e w' ⟨rfl, rfl⟩
    go_wp2
    go_ret
    exact ⟨rfl, (ball (ball (ball ((ball (bchg (ball (ball (ball (ball (ball (ball (ball (Below.refl _ _) hb1) hb2) hb3) hb4) hb5) hb6) hb7) hc8 (Nat.le_trans (Nat.le_trans hb1.size hb2.size) hg2) (Nat.le_trans (Nat.le_trans (Nat.le_trans (Nat.le_trans (Nat.le_trans (Nat.le_trans hb1.size hb2.size) hb3.size) hb4.size) hb5.size) hb6.size) hb7.size)) hb9).trans (hb10.mono (Nat.le_trans (Nat.le_trans hb1.size hb2.size) hb3.size))) hb11) hb12) hb13)⟩

set_option maxRecDepth 100000 in
theorem laplacianOf_lifted (os : Os) (started : os.Started) (H : Type) (enc : TypeId × Value → H) :
    ReturnsInHanded {} Try.checked os 11 .any (Rows.fnExactLaplacianOfSpec.pre6 enc Try.prog Try.f11 Rows.fnExactLaplacianOfRow.domain false) (Rows.fnExactLaplacianOfSpec.post enc Try.prog Try.f11 false true false false) := by
  refine returnsInHanded_of_change (C := Try.checked) Try.own started (by kernel_rfl) Try.func11
    (ChangeSpec.witness6 (enc := enc) (C := Try.checked) false ⟨#[], #[.int .i64 0, .slice none 0 0], []⟩ 8 (by kernel_rfl) (by kernel_rfl) (by kernel_rfl) (by kernel_rfl)) ?_
  intro W base args ds gs before hval0 hW hcnd _
  have hval : ∀ (j : Nat) t v, Try.f11.params[j]? = some t → args[j]? = some v → Value.okWide Try.prog W .any base t v := hval0
  have hW' := hW
  obtain ⟨p, q, hA0, hV, rfl, hfz, hnd⟩ := hW
  have hA : DataW.TrodAll enc Try.prog W 0 (fun _ => true) true Try.f11.params.toList args.toList ds p := hA0
  rw [Try.params11] at hA hval
  obtain ⟨v0, v1, d0, d1, p0, p1, rfl, rfl, rfl, h0, h1⟩ := trodAll_two hA
  obtain ⟨rfl, rfl⟩ := trodVars_none hV
  obtain ⟨x0, rfl, rfl, rfl, wx0⟩ := open_int Try.underlying3 (hval 0 3 v0 rfl rfl) h0
  obtain ⟨a1, len1, cap1, rfl⟩ := okWide_slice Try.underlying22 (hval 1 22 v1 rfl rfl)
  clear hA0 hval0
  simp only [List.append_nil, List.nil_append] at hW'
  have lt1 : ∀ x ∈ p1, x.block < W.heap.size := fun x hx => hW'.lt x (by simp [hx])
  have k1 : ∀ (W' : World), Below W.heap.size W W' → DataW.Trod enc Try.prog W' 0 (fun b => decide (b < W.heap.size)) true 22 (.slice a1 len1 cap1) d1 p1 :=
    fun W' hn => Below.trod Try.laidOut (by kernel_rfl) (of_decide_eq_true (by kernel_rfl)) h1 hn lt1
  obtain ⟨hm1, ls1, rfl, hr1⟩ := open_rdL h1
  refine (lawLaplacianOf_any x0 a1 cap1 ls1 W hm1 hr1).mono fun e W' ⟨he, hw⟩ => ?_
  subst he
  refine ⟨_, rfl, _, _, _, [], ([] : List MemPlace) ++ p1, [], hW', ?_, ?_, rfl, hw.frame _, fun h => by cases h⟩
  · exact trodAll_mk1 (shut_bool Try.underlying4 true)
  · exact trodAll_mk2 (shut_int Try.underlying3 wx0) (k1 W' hw)

theorem laplacianOf_holds : Rows.FnExactLaplacianOfSaid :=
  OpenClaim.holds_of_wide 11 Try.f11 rfl rfl rfl rfl rfl rfl rfl ⟨rfl, rfl, rfl, rfl, rfl⟩ rfl rfl rfl rfl rfl (by kernel_rfl) Try.func11 (by kernel_rfl)
    (of_decide_eq_true (by kernel_rfl)) (by unfold Func.isWrapper; first | (rw [if_pos (by decide +kernel)]; kernel_rfl) | (rw [if_neg (by decide +kernel)]; exact ⟨rfl, rfl⟩))
    (fun os started H enc _ => laplacianOf_lifted os started H enc)

end Go.Proofs.Ytcajnfhgpacpcaa
