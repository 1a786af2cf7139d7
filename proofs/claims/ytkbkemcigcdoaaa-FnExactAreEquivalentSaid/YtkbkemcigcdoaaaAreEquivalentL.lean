/-
  'laws.FnExactAreEquivalent' returns true at every input and leaves its arguments as they were: no condition.
-/
import Derived.Test.YtkbkemcigcdoaaaEqv
import Derived.Test.YtkbkemcigcdoaaaOpen
namespace Go.Proofs.Ytkbkemcigcdoaaa
open Go.ChangeShapes Go.WideShapes Go.ChangeAt Go.RowKit

set_option maxHeartbeats 3200000 in
set_option maxRecDepth 100000 in
theorem lawAreEquivalent_any (x0 : Int) (ad1 : Option Addr) (cap1 : Nat) (ls1 : List Lk) (ad2 : Option Addr) (cap2 : Nat) (xs2 : List Int) (ad3 : Option Addr) (cap3 : Nat) (xs3 : List Int) (w : World) (hm1 : ls1.length ≤ 9223372036854775807) (hr1 : RdL w ad1 ls1) (hm2 : xs2.length ≤ 9223372036854775807) (hr2 : RdI w ad2 xs2) (hm3 : xs3.length ≤ 9223372036854775807) (hr3 : RdI w ad3 xs3) :
    Calls Try.prog 8 #[.int .i64 x0, .slice ad1 ls1.length cap1, .slice ad2 xs2.length cap2, .slice ad3 xs3.length cap3] w fun e w' => e = .returned (.bool true) ∧ Below w.heap.size w w' := by
  by_cases hl2 : xs2.length ≤ 1048576
  case neg =>
    go_enter Try.func8, Try.ntmps8
    go_wp2
    go_ret
    exact ⟨rfl, Below.refl _ _⟩
  case pos =>
    by_cases hl3 : xs3.length ≤ 1048576
    case neg =>
      go_enter Try.func8, Try.ntmps8
      go_wp2
      go_ret
      exact ⟨rfl, Below.refl _ _⟩
    case pos =>
      by_cases hl1 : ls1.length ≤ 1048576
      case neg =>
        go_enter Try.func8, Try.ntmps8
        go_wp2_with fail
        refine (szLinkS_big ad1 ls1.length cap1 1048576 _ (by omega) (by omega) hm1 (by omega)).mono ?_
        rintro e w' ⟨rfl, rfl⟩
        go_wp2
        go_ret
        exact ⟨rfl, Below.refl _ _⟩
      case pos =>
        have HR2 := Lib.hid hr2; clear hr2
        have HR3 := Lib.hid hr3; clear hr3
        have HR1 := Lib.hid hr1; clear hr1
        go_enter Try.func8, Try.ntmps8
        go_wp2_with fail
        refine (szLinkS_ok ad1 ls1.length cap1 1048576 _ (by omega) (by omega)).mono ?_
        rintro e w' ⟨rfl, rfl⟩
        have hs1 : (0 : Int) ≤ 1048576 - ls1.length := by omega
        go_wp2_with fail
        refine (toLinkS_any ad1 cap1 ls1 _ hl1 HR1.out).mono ?_
        rintro e w1 ⟨g1, rfl, hg1, ho1, hb1⟩
        have HO1 := Lib.hid ho1; clear ho1
        go_wp2_with fail
        refine (toIntS_any ad2 cap2 xs2 _ hl2 (HR2.out.below (ball (Below.refl _ _) hb1))).mono ?_
        rintro e w2 ⟨g2, rfl, hg2, ho2, hb2⟩
        have HO2 := Lib.hid ho2; clear ho2
        go_wp2_with fail
        refine (toIntS_any ad3 cap3 xs3 _ hl3 (HR3.out.below (ball (ball (Below.refl _ _) hb1) hb2))).mono ?_
        rintro e w3 ⟨g3, rfl, hg3, ho3, hb3⟩
        have HO3 := Lib.hid ho3; clear ho3
        go_wp2_with fail
        refine (specEqv_c x0 _ _ ls1 _ _ xs2 _ _ xs3 _ hl1 (HO1.out.belowAll (ball (ball (Below.refl _ _) hb2) hb3)).rdL hl2 (HO2.out.belowAll (ball (Below.refl _ _) hb3)).rd hl3 HO3.out.rd).mono ?_
        rintro e w4 ⟨rfl, hb4⟩
        go_wp2_with fail
        refine (toLinkS_any ad1 cap1 ls1 _ hl1 (HR1.out.below (ball (ball (ball (ball (Below.refl _ _) hb1) hb2) hb3) hb4))).mono ?_
        rintro e w5 ⟨g4, rfl, hg4, ho4, hb5⟩
        have HO4 := Lib.hid ho4; clear ho4
        go_wp2_with fail
        refine (toIntS_any ad2 cap2 xs2 _ hl2 (HR2.out.below (ball (ball (ball (ball (ball (Below.refl _ _) hb1) hb2) hb3) hb4) hb5))).mono ?_
        rintro e w6 ⟨g5, rfl, hg5, ho5, hb6⟩
        have HO5 := Lib.hid ho5; clear ho5
        go_wp2_with fail
        refine (toIntS_any ad3 cap3 xs3 _ hl3 (HR3.out.below (ball (ball (ball (ball (ball (ball (Below.refl _ _) hb1) hb2) hb3) hb4) hb5) hb6))).mono ?_
        rintro e w7 ⟨g6, rfl, hg6, ho6, hb7⟩
        have HO6 := Lib.hid ho6; clear ho6
        go_wp2_with fail
        refine (implEqv_c x0 _ _ ls1 _ _ xs2 _ _ xs3 _ hl1 (HO4.out.belowAll (ball (ball (Below.refl _ _) hb6) hb7)).rdL hl2 (HO5.out.belowAll (ball (Below.refl _ _) hb7)).rd hl3 HO6.out.rd).mono ?_
        rintro e w8 ⟨rfl, hb8⟩
        go_wp2_with fail
        refine (toLinkS_any ad1 cap1 ls1 _ hl1 (HR1.out.below (ball (ball (ball (ball (ball (ball (ball (ball (Below.refl _ _) hb1) hb2) hb3) hb4) hb5) hb6) hb7) hb8))).mono ?_
        rintro e w9 ⟨g7, rfl, hg7, ho7, hb9⟩
        have HO7 := Lib.hid ho7; clear ho7
        go_wp2_with fail
        refine (eqLinkS_same _ _ _ _ ls1 _ hl1 (HO4.out.belowAll (ball (ball (ball (ball (Below.refl _ _) hb6) hb7) hb8) hb9)).rdL HO7.out.rdL).mono ?_
        rintro e w10 ⟨rfl, hb10⟩
        go_wp2_with fail
        refine (toIntS_any ad2 cap2 xs2 _ hl2 (HR2.out.below (ball (ball (ball (ball (ball (ball (ball (ball (ball (ball (Below.refl _ _) hb1) hb2) hb3) hb4) hb5) hb6) hb7) hb8) hb9) hb10))).mono ?_
        rintro e w11 ⟨g8, rfl, hg8, ho8, hb11⟩
        have HO8 := Lib.hid ho8; clear ho8
        go_wp2_with fail
        refine (eqIntS_same _ _ _ _ xs2 _ hl2 (HO5.out.belowAll (ball (ball (ball (ball (ball (Below.refl _ _) hb7) hb8) hb9) hb10) hb11)).rd HO8.out.rd).mono ?_
        rintro e w12 ⟨rfl, hb12⟩
        go_wp2_with fail
        refine (toIntS_any ad3 cap3 xs3 _ hl3 (HR3.out.below (ball (ball (ball (ball (ball (ball (ball (ball (ball (ball (ball (ball (Below.refl _ _) hb1) hb2) hb3) hb4) hb5) hb6) hb7) hb8) hb9) hb10) hb11) hb12))).mono ?_
        rintro e w13 ⟨g9, rfl, hg9, ho9, hb13⟩
        have HO9 := Lib.hid ho9; clear ho9
        go_wp2_with fail
        refine (eqIntS_same _ _ _ _ xs3 _ hl3 (HO6.out.belowAll (ball (ball (ball (ball (ball (ball (Below.refl _ _) hb8) hb9) hb10) hb11) hb12) hb13)).rd HO9.out.rd).mono ?_
        rintro e w14 ⟨rfl, hb14⟩
        go_wp2
        go_ret
        exact ⟨rfl, (ball (ball (ball (ball (ball (ball (ball (ball (ball (ball (ball (ball (ball (ball (Below.refl _ _) hb1) hb2) hb3) hb4) hb5) hb6) hb7) hb8) hb9) hb10) hb11) hb12) hb13) hb14)⟩

set_option maxRecDepth 100000 in
theorem areEquivalent_lifted (os : Os) (started : os.Started) (H : Type) (enc : TypeId × Value → H) :
    ReturnsInHanded {} Try.checked os 8 .any (Rows.fnExactAreEquivalentSpec.pre6 enc Try.prog Try.f8 Rows.fnExactAreEquivalentRow.domain false) (Rows.fnExactAreEquivalentSpec.post enc Try.prog Try.f8 false true false false) := by
  refine returnsInHanded_of_change (C := Try.checked) Try.own started (by kernel_rfl) Try.func8
    (ChangeSpec.witness6 (enc := enc) (C := Try.checked) false ⟨#[], #[.int .i64 0, .slice none 0 0, .slice none 0 0, .slice none 0 0], []⟩ 8 (by kernel_rfl) (by kernel_rfl) (by kernel_rfl) (by kernel_rfl)) ?_
  intro W base args ds gs before hval0 hW hcnd _
  have hval : ∀ (j : Nat) t v, Try.f8.params[j]? = some t → args[j]? = some v → Value.okWide Try.prog W .any base t v := hval0
  have hW' := hW
  obtain ⟨p, q, hA0, hV, rfl, hfz, hnd⟩ := hW
  have hA : DataW.TrodAll enc Try.prog W 0 (fun _ => true) true Try.f8.params.toList args.toList ds p := hA0
  rw [Try.params8] at hA hval
  obtain ⟨v0, v1, v2, v3, d0, d1, d2, d3, p0, p1, p2, p3, rfl, rfl, rfl, h0, h1, h2, h3⟩ := trodAll_four hA
  obtain ⟨rfl, rfl⟩ := trodVars_none hV
  obtain ⟨x0, rfl, rfl, rfl, wx0⟩ := open_int Try.underlying3 (hval 0 3 v0 rfl rfl) h0
  obtain ⟨a1, len1, cap1, rfl⟩ := okWide_slice Try.underlying22 (hval 1 22 v1 rfl rfl)
  obtain ⟨a2, len2, cap2, rfl⟩ := okWide_slice Try.underlying23 (hval 2 23 v2 rfl rfl)
  obtain ⟨a3, len3, cap3, rfl⟩ := okWide_slice Try.underlying23 (hval 3 23 v3 rfl rfl)
  clear hA0 hval0
  simp only [List.append_nil, List.nil_append] at hW'
  have lt1 : ∀ x ∈ p1, x.block < W.heap.size := fun x hx => hW'.lt x (by simp [hx])
  have k1 : ∀ (W' : World), Below W.heap.size W W' → DataW.Trod enc Try.prog W' 0 (fun b => decide (b < W.heap.size)) true 22 (.slice a1 len1 cap1) d1 p1 :=
    fun W' hn => Below.trod Try.laidOut (by kernel_rfl) (of_decide_eq_true (by kernel_rfl)) h1 hn lt1
  have lt2 : ∀ x ∈ p2, x.block < W.heap.size := fun x hx => hW'.lt x (by simp [hx])
  have k2 : ∀ (W' : World), Below W.heap.size W W' → DataW.Trod enc Try.prog W' 0 (fun b => decide (b < W.heap.size)) true 23 (.slice a2 len2 cap2) d2 p2 :=
    fun W' hn => Below.trod Try.laidOut (by kernel_rfl) (of_decide_eq_true (by kernel_rfl)) h2 hn lt2
  have lt3 : ∀ x ∈ p3, x.block < W.heap.size := fun x hx => hW'.lt x (by simp [hx])
  have k3 : ∀ (W' : World), Below W.heap.size W W' → DataW.Trod enc Try.prog W' 0 (fun b => decide (b < W.heap.size)) true 23 (.slice a3 len3 cap3) d3 p3 :=
    fun W' hn => Below.trod Try.laidOut (by kernel_rfl) (of_decide_eq_true (by kernel_rfl)) h3 hn lt3
  obtain ⟨hm1, ls1, rfl, hr1⟩ := open_rdL h1
  obtain ⟨hm2, xs2, rfl, hr2, _⟩ := open_rdI h2
  obtain ⟨hm3, xs3, rfl, hr3, _⟩ := open_rdI h3
  refine (lawAreEquivalent_any x0 a1 cap1 ls1 a2 cap2 xs2 a3 cap3 xs3 W hm1 hr1 hm2 hr2 hm3 hr3).mono fun e W' ⟨he, hw⟩ => ?_
  subst he
  refine ⟨_, rfl, _, _, _, [], ([] : List MemPlace) ++ (p1 ++ (p2 ++ (p3))), [], hW', ?_, ?_, rfl, hw.frame _, fun h => by cases h⟩
  · exact trodAll_mk1 (shut_bool Try.underlying4 true)
  · exact trodAll_mk4 (shut_int Try.underlying3 wx0) (k1 W' hw) (k2 W' hw) (k3 W' hw)

theorem areEquivalent_holds : Rows.FnExactAreEquivalentSaid :=
  OpenClaim.holds_of_wide 8 Try.f8 rfl rfl rfl rfl rfl rfl rfl ⟨rfl, rfl, rfl, rfl, rfl⟩ rfl rfl rfl rfl rfl (by kernel_rfl) Try.func8 (by kernel_rfl)
    (of_decide_eq_true (by kernel_rfl)) (by unfold Func.isWrapper; first | (rw [if_pos (by decide +kernel)]; kernel_rfl) | (rw [if_neg (by decide +kernel)]; exact ⟨rfl, rfl⟩))
    (fun os started H enc _ => areEquivalent_lifted os started H enc)

end Go.Proofs.Ytkbkemcigcdoaaa
