/-
  'laws.FnExactGreatestStable' returns true at every input and leaves its arguments as they were: no condition.
-/
import Derived.Test.YtopkohkilmlpaaaStabR
import Derived.Test.YtopkohkilmlpaaaOpen
namespace Go.Proofs.Ytopkohkilmlpaaa
open Go.ChangeShapes Go.WideShapes Go.ChangeAt Go.RowKit

set_option maxHeartbeats 3200000 in
set_option maxRecDepth 100000 in
theorem lawGreatestStable_any (x0 : Int) (ad1 : Option Addr) (cap1 : Nat) (ls1 : List Lk) (x2 : Int) (w : World) (hm1 : ls1.length ≤ 9223372036854775807) (hr1 : RdL w ad1 ls1) :
    Calls Try.prog 4 #[.int .i64 x0, .slice ad1 ls1.length cap1, .int .i64 x2] w fun e w' => e = .returned (.bool true) ∧ Below w.heap.size w w' := by
  by_cases hl1 : ls1.length ≤ 1048576
  case neg =>
    go_enter Try.func4, Try.ntmps4
    go_wp2_with fail
    refine (szLinkS_big ad1 ls1.length cap1 1048576 _ (by omega) (by omega) hm1 (by omega)).mono ?_
    rintro e w' ⟨rfl, rfl⟩
    go_wp2
    go_ret
    exact ⟨rfl, Below.refl _ _⟩
  case pos =>
    have HR1 := Lib.hid hr1; clear hr1
    go_enter Try.func4, Try.ntmps4
    go_wp2_with fail
    refine (szLinkS_ok ad1 ls1.length cap1 1048576 _ (by omega) (by omega)).mono ?_
    rintro e w' ⟨rfl, rfl⟩
    have hs1 : (0 : Int) ≤ 1048576 - ls1.length := by omega
    have hlr0 : ((greatR x0 ls1 x2).1).length ≤ 1048576 := greatR_len _ _ _
    go_wp2_with fail
    refine (toLinkS_any ad1 cap1 ls1 _ hl1 HR1.out).mono ?_
    rintro e w1 ⟨g1, rfl, hg1, ho1, hb1⟩
    have HO1 := Lib.hid ho1; clear ho1
    go_wp2_with fail
    refine (specGreat_c x0 _ _ ls1 x2 _ hl1 HO1.out.rdL).mono ?_
    rintro e w2 ⟨v1, rfl, hv1, hb2⟩
    have HV1 := Lib.hid hv1; clear hv1
    go_wp2_with fail
    refine (toLinkS_any ad1 cap1 ls1 _ hl1 (HR1.out.below (ball (ball (Below.refl _ _) hb1) hb2))).mono ?_
    rintro e w3 ⟨g2, rfl, hg2, ho2, hb3⟩
    have HO2 := Lib.hid ho2; clear ho2
    have ltg2 := HO2.out.lt
    go_wp2_with fail
    refine (implGreat_c x0 _ _ ls1 x2 _ hl1 HO2.out.rdL).mono ?_
    rintro e w4 ⟨v2, rfl, hv2, hb4⟩
    have HV2 := Lib.hid hv2; clear hv2
    go_wp2_with fail
    refine (eqIntS_v _ _ (greatR x0 ls1 x2).1 _ hlr0 HV2.out.rdV (HV1.out.below (ball (ball (Below.refl _ _) hb3) hb4)).rdV).mono ?_
    rintro e w5 ⟨rfl, hb5⟩
    go_wp2_with fail
    refine (toLinkS_any ad1 cap1 ls1 _ hl1 (HR1.out.below (ball (ball (ball (ball (ball (Below.refl _ _) hb1) hb2) hb3) hb4) hb5))).mono ?_
    rintro e w6 ⟨g3, rfl, hg3, ho3, hb6⟩
    have HO3 := Lib.hid ho3; clear ho3
    go_wp2_with fail
    refine (eqLinkS_same _ _ _ _ ls1 _ hl1 (HO2.out.belowAll (ball (ball (ball (Below.refl _ _) hb4) hb5) hb6)).rdL HO3.out.rdL).mono ?_
    rintro e w7 ⟨rfl, hb7⟩
    go_wp2_with fail
    refine (markLinkS_own g2 _ ls1 _ _ hl1 (by omega) (by omega) (HO2.out.belowAll (ball (ball (ball (ball (Below.refl _ _) hb4) hb5) hb6) hb7))).mono ?_
    rintro e w8 ⟨rfl, hc8⟩
    have HNv28 := Lib.hid ((HV2.out.below (ball (ball (ball (Below.refl _ _) hb5) hb6) hb7)).chg hc8 ltg2)
    go_wp2_with fail
    refine (eqIntS_v _ _ (greatR x0 ls1 x2).1 _ hlr0 HNv28.out.rdV (HV1.out.below (bchg (ball (ball (ball (ball (ball (Below.refl _ _) hb3) hb4) hb5) hb6) hb7) hc8 hg2 (Nat.le_trans (Nat.le_trans (Nat.le_trans (Nat.le_trans hb3.size hb4.size) hb5.size) hb6.size) hb7.size))).rdV).mono ?_
    rintro e w9 ⟨rfl, hb9⟩
    go_wp2_with fail
    refine (markIntS_res w3.heap.size v2 (greatR x0 ls1 x2).1 _ _ hlr0 (by omega) (by omega) (Nat.le_trans (Nat.le_trans (Nat.le_trans (Nat.le_trans (Nat.le_trans hb4.size hb5.size) hb6.size) hb7.size) hc8.size) hb9.size) (HNv28.out.below (ball (Below.refl _ _) hb9))).mono ?_
    rintro e w10 ⟨rfl, hq10, hb10⟩
    have HQ10 := Lib.hid hq10; clear hq10
    go_wp2_with fail
    refine (heldIntS_v v2 (greatR x0 ls1 x2).1.length 1 _ hlr0 (by omega) (by omega) HQ10.out.rdV).mono ?_
    rintro e w' ⟨rfl, rfl⟩
    go_wp2_with fail
    refine (toLinkS_any ad1 cap1 ls1 _ hl1 (HR1.out.below ((ball (bchg (ball (ball (ball (ball (ball (ball (ball (Below.refl _ _) hb1) hb2) hb3) hb4) hb5) hb6) hb7) hc8 (Nat.le_trans (Nat.le_trans hb1.size hb2.size) hg2) (Nat.le_trans (Nat.le_trans (Nat.le_trans (Nat.le_trans (Nat.le_trans (Nat.le_trans hb1.size hb2.size) hb3.size) hb4.size) hb5.size) hb6.size) hb7.size)) hb9).trans (hb10.mono (Nat.le_trans (Nat.le_trans hb1.size hb2.size) hb3.size))))).mono ?_
    rintro e w11 ⟨g4, rfl, hg4, ho4, hb11⟩
    have HO4 := Lib.hid ho4; clear ho4
    go_wp2_with fail
    refine (implGreat_c x0 _ _ ls1 x2 _ hl1 HO4.out.rdL).mono ?_
    rintro e w12 ⟨v3, rfl, hv3, hb12⟩
    have HV3 := Lib.hid hv3; clear hv3
    go_wp2_with fail
    refine (eqIntS_v _ _ (greatR x0 ls1 x2).1 _ hlr0 HV3.out.rdV (HV1.out.below (ball (ball ((ball (bchg (ball (ball (ball (ball (ball (Below.refl _ _) hb3) hb4) hb5) hb6) hb7) hc8 hg2 (Nat.le_trans (Nat.le_trans (Nat.le_trans (Nat.le_trans hb3.size hb4.size) hb5.size) hb6.size) hb7.size)) hb9).trans (hb10.mono hb3.size)) hb11) hb12)).rdV).mono ?_
    rintro e w13 ⟨rfl, hb13⟩
    go_wp2_with fail
    refine (heldIntS_v v2 (greatR x0 ls1 x2).1.length 1 _ hlr0 (by omega) (by omega) (HQ10.out.below (ball (ball (ball (Below.refl _ _) hb11) hb12) hb13)).rdV).mono ?_
    rintro e w' ⟨rfl, rfl⟩
    go_wp2
    go_ret
    exact ⟨rfl, (ball (ball (ball ((ball (bchg (ball (ball (ball (ball (ball (ball (ball (Below.refl _ _) hb1) hb2) hb3) hb4) hb5) hb6) hb7) hc8 (Nat.le_trans (Nat.le_trans hb1.size hb2.size) hg2) (Nat.le_trans (Nat.le_trans (Nat.le_trans (Nat.le_trans (Nat.le_trans (Nat.le_trans hb1.size hb2.size) hb3.size) hb4.size) hb5.size) hb6.size) hb7.size)) hb9).trans (hb10.mono (Nat.le_trans (Nat.le_trans hb1.size hb2.size) hb3.size))) hb11) hb12) hb13)⟩

set_option maxRecDepth 100000 in
theorem greatestStable_lifted (os : Os) (started : os.Started) (H : Type) (enc : TypeId × Value → H) :
    ReturnsInHanded {} Try.checked os 4 .any (Rows.fnExactGreatestStableSpec.pre6 enc Try.prog Try.f4 Rows.fnExactGreatestStableRow.domain false) (Rows.fnExactGreatestStableSpec.post enc Try.prog Try.f4 false true false false) := by
  refine returnsInHanded_of_change (C := Try.checked) Try.own started (by kernel_rfl) Try.func4
    (ChangeSpec.witness6 (enc := enc) (C := Try.checked) false ⟨#[], #[.int .i64 0, .slice none 0 0, .int .i64 0], []⟩ 8 (by kernel_rfl) (by kernel_rfl) (by kernel_rfl) (by kernel_rfl)) ?_
  intro W base args ds gs before hval0 hW hcnd _
  have hval : ∀ (j : Nat) t v, Try.f4.params[j]? = some t → args[j]? = some v → Value.okWide Try.prog W .any base t v := hval0
  have hW' := hW
  obtain ⟨p, q, hA0, hV, rfl, hfz, hnd⟩ := hW
  have hA : DataW.TrodAll enc Try.prog W 0 (fun _ => true) true Try.f4.params.toList args.toList ds p := hA0
  rw [Try.params4] at hA hval
  obtain ⟨v0, v1, v2, d0, d1, d2, p0, p1, p2, rfl, rfl, rfl, h0, h1, h2⟩ := trodAll_three hA
  obtain ⟨rfl, rfl⟩ := trodVars_none hV
  obtain ⟨x0, rfl, rfl, rfl, wx0⟩ := open_int Try.underlying3 (hval 0 3 v0 rfl rfl) h0
  obtain ⟨a1, len1, cap1, rfl⟩ := okWide_slice Try.underlying22 (hval 1 22 v1 rfl rfl)
  obtain ⟨x2, rfl, rfl, rfl, wx2⟩ := open_int Try.underlying3 (hval 2 3 v2 rfl rfl) h2
  clear hA0 hval0
  simp only [List.append_nil, List.nil_append] at hW'
  have lt1 : ∀ x ∈ p1, x.block < W.heap.size := fun x hx => hW'.lt x (by simp [hx])
  have k1 : ∀ (W' : World), Below W.heap.size W W' → DataW.Trod enc Try.prog W' 0 (fun b => decide (b < W.heap.size)) true 22 (.slice a1 len1 cap1) d1 p1 :=
    fun W' hn => Below.trod Try.laidOut (by kernel_rfl) (of_decide_eq_true (by kernel_rfl)) h1 hn lt1
  obtain ⟨hm1, ls1, rfl, hr1⟩ := open_rdL h1
  refine (lawGreatestStable_any x0 a1 cap1 ls1 x2 W hm1 hr1).mono fun e W' ⟨he, hw⟩ => ?_
  subst he
  refine ⟨_, rfl, _, _, _, [], ([] : List MemPlace) ++ (p1 ++ (([] : List MemPlace))), [], hW', ?_, ?_, rfl, hw.frame _, fun h => by cases h⟩
  · exact trodAll_mk1 (shut_bool Try.underlying4 true)
  · exact trodAll_mk3 (shut_int Try.underlying3 wx0) (k1 W' hw) (shut_int Try.underlying3 wx2)

theorem greatestStable_holds : Rows.FnExactGreatestStableSaid :=
  OpenClaim.holds_of_wide 4 Try.f4 rfl rfl rfl rfl rfl rfl rfl ⟨rfl, rfl, rfl, rfl, rfl⟩ rfl rfl rfl rfl rfl (by kernel_rfl) Try.func4 (by kernel_rfl)
    (of_decide_eq_true (by kernel_rfl)) (by unfold Func.isWrapper; first | (rw [if_pos (by decide +kernel)]; kernel_rfl) | (rw [if_neg (by decide +kernel)]; exact ⟨rfl, rfl⟩))
    (fun os started H enc _ => greatestStable_lifted os started H enc)

end Go.Proofs.Ytopkohkilmlpaaa
