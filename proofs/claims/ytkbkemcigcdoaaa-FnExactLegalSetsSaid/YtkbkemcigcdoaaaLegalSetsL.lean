/-
  'laws.FnExactLegalSets' returns true at every input and leaves its arguments as they were: no condition.
-/
import Derived.Test.YtkbkemcigcdoaaaSetP
import Derived.Test.YtkbkemcigcdoaaaOpen
namespace Go.Proofs.Ytkbkemcigcdoaaa
open Go.ChangeShapes Go.WideShapes Go.ChangeAt Go.RowKit

set_option maxHeartbeats 3200000 in
set_option maxRecDepth 100000 in
theorem lawLegalSets_any (x0 : Int) (ad1 : Option Addr) (cap1 : Nat) (ls1 : List Lk) (ad2 : Option Addr) (cap2 : Nat) (xs2 : List Int) (x3 : Int) (w : World) (hm1 : ls1.length ≤ 9223372036854775807) (hr1 : RdL w ad1 ls1) (hm2 : xs2.length ≤ 9223372036854775807) (hr2 : RdI w ad2 xs2) :
    Calls Try.prog 7 #[.int .i64 x0, .slice ad1 ls1.length cap1, .slice ad2 xs2.length cap2, .int .i64 x3] w fun e w' => e = .returned (.bool true) ∧ Below w.heap.size w w' := by
  by_cases hl2 : xs2.length ≤ 1048576
  case neg =>
    go_enter Try.func7, Try.ntmps7
    go_wp2
    go_ret
    exact ⟨rfl, Below.refl _ _⟩
  case pos =>
    by_cases hl1 : ls1.length ≤ 1048576
    case neg =>
      go_enter Try.func7, Try.ntmps7
      go_wp2_with fail
      refine (szLinkS_big ad1 ls1.length cap1 1048576 _ (by omega) (by omega) hm1 (by omega)).mono ?_
      rintro e w' ⟨rfl, rfl⟩
      go_wp2
      go_ret
      exact ⟨rfl, Below.refl _ _⟩
    case pos =>
      have HR2 := Lib.hid hr2; clear hr2
      have HR1 := Lib.hid hr1; clear hr1
      go_enter Try.func7, Try.ntmps7
      go_wp2_with fail
      refine (szLinkS_ok ad1 ls1.length cap1 1048576 _ (by omega) (by omega)).mono ?_
      rintro e w' ⟨rfl, rfl⟩
      have hs1 : (0 : Int) ≤ 1048576 - ls1.length := by omega
      have hlr0 : smallR (legalSetsR x0 ls1 xs2 x3).1 := legalSetsR_small _ _ _ _
      go_wp2_with fail
      refine (toLinkS_any ad1 cap1 ls1 _ hl1 HR1.out).mono ?_
      rintro e w1 ⟨g1, rfl, hg1, ho1, hb1⟩
      have HO1 := Lib.hid ho1; clear ho1
      go_wp2_with fail
      refine (toIntS_any ad2 cap2 xs2 _ hl2 (HR2.out.below (ball (Below.refl _ _) hb1))).mono ?_
      rintro e w2 ⟨g2, rfl, hg2, ho2, hb2⟩
      have HO2 := Lib.hid ho2; clear ho2
      go_wp2_with fail
      refine (specSets_c x0 _ _ ls1 _ _ xs2 x3 _ hl1 (HO1.out.belowAll (ball (Below.refl _ _) hb2)).rdL hl2 HO2.out.rd).mono ?_
      rintro e w3 ⟨v1, rfl, hv1, hb3⟩
      have HV1 := Lib.hid hv1; clear hv1
      go_wp2_with fail
      refine (toLinkS_any ad1 cap1 ls1 _ hl1 (HR1.out.below (ball (ball (ball (Below.refl _ _) hb1) hb2) hb3))).mono ?_
      rintro e w4 ⟨g3, rfl, hg3, ho3, hb4⟩
      have HO3 := Lib.hid ho3; clear ho3
      go_wp2_with fail
      refine (toIntS_any ad2 cap2 xs2 _ hl2 (HR2.out.below (ball (ball (ball (ball (Below.refl _ _) hb1) hb2) hb3) hb4))).mono ?_
      rintro e w5 ⟨g4, rfl, hg4, ho4, hb5⟩
      have HO4 := Lib.hid ho4; clear ho4
      have ltg3 := (HO3.out.belowAll (ball (Below.refl _ _) hb5)).lt
      have ltg4 := HO4.out.lt
      have neg4g3 := Nat.ne_of_gt (Nat.lt_of_lt_of_le HO3.out.lt hg4)
      go_wp2_with fail
      refine (implSets_c x0 _ _ ls1 _ _ xs2 x3 _ hl1 (HO3.out.belowAll (ball (Below.refl _ _) hb5)).rdL hl2 HO4.out.rd).mono ?_
      rintro e w6 ⟨v2, rfl, hv2, hb6⟩
      have HV2 := Lib.hid hv2; clear hv2
      go_wp2_with fail
      refine (eqIntSS_v _ _ (legalSetsR x0 ls1 xs2 x3).1 _ hlr0 HV2.out.rdR (HV1.out.below (ball (ball (ball (Below.refl _ _) hb4) hb5) hb6)).rdR).mono ?_
      rintro e w7 ⟨rfl, hb7⟩
      go_wp2_with fail
      refine (toLinkS_any ad1 cap1 ls1 _ hl1 (HR1.out.below (ball (ball (ball (ball (ball (ball (ball (Below.refl _ _) hb1) hb2) hb3) hb4) hb5) hb6) hb7))).mono ?_
      rintro e w8 ⟨g5, rfl, hg5, ho5, hb8⟩
      have HO5 := Lib.hid ho5; clear ho5
      go_wp2_with fail
      refine (eqLinkS_same _ _ _ _ ls1 _ hl1 (HO3.out.belowAll (ball (ball (ball (ball (Below.refl _ _) hb5) hb6) hb7) hb8)).rdL HO5.out.rdL).mono ?_
      rintro e w9 ⟨rfl, hb9⟩
      go_wp2_with fail
      refine (toIntS_any ad2 cap2 xs2 _ hl2 (HR2.out.below (ball (ball (ball (ball (ball (ball (ball (ball (ball (Below.refl _ _) hb1) hb2) hb3) hb4) hb5) hb6) hb7) hb8) hb9))).mono ?_
      rintro e w10 ⟨g6, rfl, hg6, ho6, hb10⟩
      have HO6 := Lib.hid ho6; clear ho6
      go_wp2_with fail
      refine (eqIntS_same _ _ _ _ xs2 _ hl2 (HO4.out.belowAll (ball (ball (ball (ball (ball (Below.refl _ _) hb6) hb7) hb8) hb9) hb10)).rd HO6.out.rd).mono ?_
      rintro e w11 ⟨rfl, hb11⟩
      go_wp2_with fail
      refine (markLinkS_own g3 _ ls1 _ _ hl1 (by omega) (by omega) (HO3.out.belowAll (ball (ball (ball (ball (ball (ball (ball (Below.refl _ _) hb5) hb6) hb7) hb8) hb9) hb10) hb11))).mono ?_
      rintro e w12 ⟨rfl, hc12⟩
      have HNg412 := Lib.hid ((HO4.out.belowAll (ball (ball (ball (ball (ball (ball (Below.refl _ _) hb6) hb7) hb8) hb9) hb10) hb11)).chg hc12 neg4g3)
      have HNv212 := Lib.hid ((HV2.out.below (ball (ball (ball (ball (ball (Below.refl _ _) hb7) hb8) hb9) hb10) hb11)).chg hc12 ltg3)
      go_wp2_with fail
      refine (markIntS_own g4 _ xs2 _ _ hl2 (by omega) (by omega) HNg412.out).mono ?_
      rintro e w13 ⟨rfl, hov13, hc13⟩
      clear hov13
      have HNv213 := Lib.hid (HNv212.out.chg hc13 ltg4)
      go_wp2_with fail
      refine (eqIntSS_v _ _ (legalSetsR x0 ls1 xs2 x3).1 _ hlr0 HNv213.out.rdR (HV1.out.below (bchg (bchg (ball (ball (ball (ball (ball (ball (ball (ball (Below.refl _ _) hb4) hb5) hb6) hb7) hb8) hb9) hb10) hb11) hc12 hg3 (Nat.le_trans (Nat.le_trans (Nat.le_trans (Nat.le_trans (Nat.le_trans (Nat.le_trans (Nat.le_trans hb4.size hb5.size) hb6.size) hb7.size) hb8.size) hb9.size) hb10.size) hb11.size)) hc13 (Nat.le_trans hb4.size hg4) (Nat.le_trans (Nat.le_trans (Nat.le_trans (Nat.le_trans (Nat.le_trans (Nat.le_trans (Nat.le_trans (Nat.le_trans hb4.size hb5.size) hb6.size) hb7.size) hb8.size) hb9.size) hb10.size) hb11.size) hc12.size))).rdR).mono ?_
      rintro e w14 ⟨rfl, hb14⟩
      go_wp2_with fail
      refine (markIntSS_res w5.heap.size v2 (legalSetsR x0 ls1 xs2 x3).1 _ hlr0 (Nat.le_trans (Nat.le_trans (Nat.le_trans (Nat.le_trans (Nat.le_trans (Nat.le_trans (Nat.le_trans (Nat.le_trans hb6.size hb7.size) hb8.size) hb9.size) hb10.size) hb11.size) hc12.size) hc13.size) hb14.size) (HNv213.out.below (ball (Below.refl _ _) hb14))).mono ?_
      rintro e w15 ⟨rfl, hq15, hb15⟩
      have HQ15 := Lib.hid hq15; clear hq15
      go_wp2_with fail
      refine (heldIntSS_v v2 (legalSetsR x0 ls1 xs2 x3).1 _ hlr0 HQ15.out.rdR).mono ?_
      rintro e w' ⟨rfl, rfl⟩
      go_wp2_with fail
      refine (toLinkS_any ad1 cap1 ls1 _ hl1 (HR1.out.below ((ball (bchg (bchg (ball (ball (ball (ball (ball (ball (ball (ball (ball (ball (ball (Below.refl _ _) hb1) hb2) hb3) hb4) hb5) hb6) hb7) hb8) hb9) hb10) hb11) hc12 (Nat.le_trans (Nat.le_trans (Nat.le_trans hb1.size hb2.size) hb3.size) hg3) (Nat.le_trans (Nat.le_trans (Nat.le_trans (Nat.le_trans (Nat.le_trans (Nat.le_trans (Nat.le_trans (Nat.le_trans (Nat.le_trans (Nat.le_trans hb1.size hb2.size) hb3.size) hb4.size) hb5.size) hb6.size) hb7.size) hb8.size) hb9.size) hb10.size) hb11.size)) hc13 (Nat.le_trans (Nat.le_trans (Nat.le_trans (Nat.le_trans hb1.size hb2.size) hb3.size) hb4.size) hg4) (Nat.le_trans (Nat.le_trans (Nat.le_trans (Nat.le_trans (Nat.le_trans (Nat.le_trans (Nat.le_trans (Nat.le_trans (Nat.le_trans (Nat.le_trans (Nat.le_trans hb1.size hb2.size) hb3.size) hb4.size) hb5.size) hb6.size) hb7.size) hb8.size) hb9.size) hb10.size) hb11.size) hc12.size)) hb14).trans (hb15.mono (Nat.le_trans (Nat.le_trans (Nat.le_trans (Nat.le_trans hb1.size hb2.size) hb3.size) hb4.size) hb5.size))))).mono ?_
      rintro e w16 ⟨g7, rfl, hg7, ho7, hb16⟩
      have HO7 := Lib.hid ho7; clear ho7
      go_wp2_with fail
      refine (toIntS_any ad2 cap2 xs2 _ hl2 (HR2.out.below (ball ((ball (bchg (bchg (ball (ball (ball (ball (ball (ball (ball (ball (ball (ball (ball (Below.refl _ _) hb1) hb2) hb3) hb4) hb5) hb6) hb7) hb8) hb9) hb10) hb11) hc12 (Nat.le_trans (Nat.le_trans (Nat.le_trans hb1.size hb2.size) hb3.size) hg3) (Nat.le_trans (Nat.le_trans (Nat.le_trans (Nat.le_trans (Nat.le_trans (Nat.le_trans (Nat.le_trans (Nat.le_trans (Nat.le_trans (Nat.le_trans hb1.size hb2.size) hb3.size) hb4.size) hb5.size) hb6.size) hb7.size) hb8.size) hb9.size) hb10.size) hb11.size)) hc13 (Nat.le_trans (Nat.le_trans (Nat.le_trans (Nat.le_trans hb1.size hb2.size) hb3.size) hb4.size) hg4) (Nat.le_trans (Nat.le_trans (Nat.le_trans (Nat.le_trans (Nat.le_trans (Nat.le_trans (Nat.le_trans (Nat.le_trans (Nat.le_trans (Nat.le_trans (Nat.le_trans hb1.size hb2.size) hb3.size) hb4.size) hb5.size) hb6.size) hb7.size) hb8.size) hb9.size) hb10.size) hb11.size) hc12.size)) hb14).trans (hb15.mono (Nat.le_trans (Nat.le_trans (Nat.le_trans (Nat.le_trans hb1.size hb2.size) hb3.size) hb4.size) hb5.size))) hb16))).mono ?_
      rintro e w17 ⟨g8, rfl, hg8, ho8, hb17⟩
      have HO8 := Lib.hid ho8; clear ho8
      go_wp2_with fail
      refine (implSets_c x0 _ _ ls1 _ _ xs2 x3 _ hl1 (HO7.out.belowAll (ball (Below.refl _ _) hb17)).rdL hl2 HO8.out.rd).mono ?_
      rintro e w18 ⟨v3, rfl, hv3, hb18⟩
      have HV3 := Lib.hid hv3; clear hv3
      go_wp2_with fail
      refine (eqIntSS_v _ _ (legalSetsR x0 ls1 xs2 x3).1 _ hlr0 HV3.out.rdR (HV1.out.below (ball (ball (ball ((ball (bchg (bchg (ball (ball (ball (ball (ball (ball (ball (ball (Below.refl _ _) hb4) hb5) hb6) hb7) hb8) hb9) hb10) hb11) hc12 hg3 (Nat.le_trans (Nat.le_trans (Nat.le_trans (Nat.le_trans (Nat.le_trans (Nat.le_trans (Nat.le_trans hb4.size hb5.size) hb6.size) hb7.size) hb8.size) hb9.size) hb10.size) hb11.size)) hc13 (Nat.le_trans hb4.size hg4) (Nat.le_trans (Nat.le_trans (Nat.le_trans (Nat.le_trans (Nat.le_trans (Nat.le_trans (Nat.le_trans (Nat.le_trans hb4.size hb5.size) hb6.size) hb7.size) hb8.size) hb9.size) hb10.size) hb11.size) hc12.size)) hb14).trans (hb15.mono (Nat.le_trans hb4.size hb5.size))) hb16) hb17) hb18)).rdR).mono ?_
      rintro e w19 ⟨rfl, hb19⟩
      go_wp2_with fail
      refine (heldIntSS_v v2 (legalSetsR x0 ls1 xs2 x3).1 _ hlr0 (HQ15.out.below (ball (ball (ball (ball (Below.refl _ _) hb16) hb17) hb18) hb19)).rdR).mono ?_
      rintro e w' ⟨rfl, rfl⟩
      go_wp2
      go_ret
      exact ⟨rfl, (ball (ball (ball (ball ((ball (bchg (bchg (ball (ball (ball (ball (ball (ball (ball (ball (ball (ball (ball (Below.refl _ _) hb1) hb2) hb3) hb4) hb5) hb6) hb7) hb8) hb9) hb10) hb11) hc12 (Nat.le_trans (Nat.le_trans (Nat.le_trans hb1.size hb2.size) hb3.size) hg3) (Nat.le_trans (Nat.le_trans (Nat.le_trans (Nat.le_trans (Nat.le_trans (Nat.le_trans (Nat.le_trans (Nat.le_trans (Nat.le_trans (Nat.le_trans hb1.size hb2.size) hb3.size) hb4.size) hb5.size) hb6.size) hb7.size) hb8.size) hb9.size) hb10.size) hb11.size)) hc13 (Nat.le_trans (Nat.le_trans (Nat.le_trans (Nat.le_trans hb1.size hb2.size) hb3.size) hb4.size) hg4) (Nat.le_trans (Nat.le_trans (Nat.le_trans (Nat.le_trans (Nat.le_trans (Nat.le_trans (Nat.le_trans (Nat.le_trans (Nat.le_trans (Nat.le_trans (Nat.le_trans hb1.size hb2.size) hb3.size) hb4.size) hb5.size) hb6.size) hb7.size) hb8.size) hb9.size) hb10.size) hb11.size) hc12.size)) hb14).trans (hb15.mono (Nat.le_trans (Nat.le_trans (Nat.le_trans (Nat.le_trans hb1.size hb2.size) hb3.size) hb4.size) hb5.size))) hb16) hb17) hb18) hb19)⟩

set_option maxRecDepth 100000 in
theorem legalSets_lifted (os : Os) (started : os.Started) (H : Type) (enc : TypeId × Value → H) :
    ReturnsInHanded {} Try.checked os 7 .any (Rows.fnExactLegalSetsSpec.pre6 enc Try.prog Try.f7 Rows.fnExactLegalSetsRow.domain false) (Rows.fnExactLegalSetsSpec.post enc Try.prog Try.f7 false true false false) := by
  refine returnsInHanded_of_change (C := Try.checked) Try.own started (by kernel_rfl) Try.func7
    (ChangeSpec.witness6 (enc := enc) (C := Try.checked) false ⟨#[], #[.int .i64 0, .slice none 0 0, .slice none 0 0, .int .i64 0], []⟩ 8 (by kernel_rfl) (by kernel_rfl) (by kernel_rfl) (by kernel_rfl)) ?_
  intro W base args ds gs before hval0 hW hcnd _
  have hval : ∀ (j : Nat) t v, Try.f7.params[j]? = some t → args[j]? = some v → Value.okWide Try.prog W .any base t v := hval0
  have hW' := hW
  obtain ⟨p, q, hA0, hV, rfl, hfz, hnd⟩ := hW
  have hA : DataW.TrodAll enc Try.prog W 0 (fun _ => true) true Try.f7.params.toList args.toList ds p := hA0
  rw [Try.params7] at hA hval
  obtain ⟨v0, v1, v2, v3, d0, d1, d2, d3, p0, p1, p2, p3, rfl, rfl, rfl, h0, h1, h2, h3⟩ := trodAll_four hA
  obtain ⟨rfl, rfl⟩ := trodVars_none hV
  obtain ⟨x0, rfl, rfl, rfl, wx0⟩ := open_int Try.underlying3 (hval 0 3 v0 rfl rfl) h0
  obtain ⟨a1, len1, cap1, rfl⟩ := okWide_slice Try.underlying22 (hval 1 22 v1 rfl rfl)
  obtain ⟨a2, len2, cap2, rfl⟩ := okWide_slice Try.underlying23 (hval 2 23 v2 rfl rfl)
  obtain ⟨x3, rfl, rfl, rfl, wx3⟩ := open_int Try.underlying3 (hval 3 3 v3 rfl rfl) h3
  clear hA0 hval0
  simp only [List.append_nil, List.nil_append] at hW'
  have lt1 : ∀ x ∈ p1, x.block < W.heap.size := fun x hx => hW'.lt x (by simp [hx])
  have k1 : ∀ (W' : World), Below W.heap.size W W' → DataW.Trod enc Try.prog W' 0 (fun b => decide (b < W.heap.size)) true 22 (.slice a1 len1 cap1) d1 p1 :=
    fun W' hn => Below.trod Try.laidOut (by kernel_rfl) (of_decide_eq_true (by kernel_rfl)) h1 hn lt1
  have lt2 : ∀ x ∈ p2, x.block < W.heap.size := fun x hx => hW'.lt x (by simp [hx])
  have k2 : ∀ (W' : World), Below W.heap.size W W' → DataW.Trod enc Try.prog W' 0 (fun b => decide (b < W.heap.size)) true 23 (.slice a2 len2 cap2) d2 p2 :=
    fun W' hn => Below.trod Try.laidOut (by kernel_rfl) (of_decide_eq_true (by kernel_rfl)) h2 hn lt2
  obtain ⟨hm1, ls1, rfl, hr1⟩ := open_rdL h1
  obtain ⟨hm2, xs2, rfl, hr2, _⟩ := open_rdI h2
  refine (lawLegalSets_any x0 a1 cap1 ls1 a2 cap2 xs2 x3 W hm1 hr1 hm2 hr2).mono fun e W' ⟨he, hw⟩ => ?_
  subst he
  refine ⟨_, rfl, _, _, _, [], ([] : List MemPlace) ++ (p1 ++ (p2 ++ (([] : List MemPlace)))), [], hW', ?_, ?_, rfl, hw.frame _, fun h => by cases h⟩
  · exact trodAll_mk1 (shut_bool Try.underlying4 true)
  · exact trodAll_mk4 (shut_int Try.underlying3 wx0) (k1 W' hw) (k2 W' hw) (shut_int Try.underlying3 wx3)

theorem legalSets_holds : Rows.FnExactLegalSetsSaid :=
  OpenClaim.holds_of_wide 7 Try.f7 rfl rfl rfl rfl rfl rfl rfl ⟨rfl, rfl, rfl, rfl, rfl⟩ rfl rfl rfl rfl rfl (by kernel_rfl) Try.func7 (by kernel_rfl)
    (of_decide_eq_true (by kernel_rfl)) (by unfold Func.isWrapper; first | (rw [if_pos (by decide +kernel)]; kernel_rfl) | (rw [if_neg (by decide +kernel)]; exact ⟨rfl, rfl⟩))
    (fun os started H enc _ => legalSets_lifted os started H enc)

end Go.Proofs.Ytkbkemcigcdoaaa
