/-
  'laws.FnExactIsGraph' returns true at every input and leaves its arguments alone: no condition.
-/
import Derived.Test.YtcajnfhgpacpcaaGood
import Derived.Test.YtcajnfhgpacpcaaOpen
namespace Go.Proofs.Ytcajnfhgpacpcaa
open Go.ChangeShapes Go.WideShapes Go.ChangeAt Go.RowKit

set_option maxHeartbeats 400000 in
theorem specIsGraph_any (n : Int) (ad : Option Addr) (cap : Nat) (ls : List Lk) (w : World) (hl : ls.length ≤ 1048576) (hr : RdL w ad ls) :
    Calls Try.prog 16 #[.int .i64 n, .slice ad ls.length cap] w fun e w' => e = .returned (.bool (goodL n ls)) ∧ Below w.heap.size w w' := by
  go_enter Try.func16, Try.ntmps16
  go_wp2_with fail
  refine (chGood_any n ad cap ls _ hl hr).mono ?_
  rintro e w1 ⟨rfl, hb⟩
  go_wp2
  go_ret
  exact ⟨rfl, hb⟩

set_option maxHeartbeats 400000 in
theorem implIsGraph_any (n : Int) (ad : Option Addr) (cap : Nat) (ls : List Lk) (w : World) (hl : ls.length ≤ 1048576) (hr : RdL w ad ls) :
    Calls Try.prog 18 #[.int .i64 n, .slice ad ls.length cap] w fun e w' => e = .returned (.bool (goodL n ls)) ∧ Below w.heap.size w w' := by
  go_enter Try.func18, Try.ntmps18
  go_wp2_with fail
  refine (isGraph_any n ad cap ls _ hl hr).mono ?_
  rintro e w1 ⟨rfl, hb⟩
  go_wp2
  go_ret
  exact ⟨rfl, hb⟩

set_option maxHeartbeats 1600000 in
theorem lawIsGraph_any (n : Int) (ad : Option Addr) (cap : Nat) (ls : List Lk) (w : World) (hm : ls.length ≤ 9223372036854775807) (hr : RdL w ad ls) :
    Calls Try.prog 3 #[.int .i64 n, .slice ad ls.length cap] w fun e w' => e = .returned (.bool true) ∧ Below w.heap.size w w' := by
  by_cases hl : ls.length ≤ 1048576
  · have HR := Lib.hid hr; clear hr
    go_enter Try.func3, Try.ntmps3
    go_wp2_with fail
    refine (szLinkS_ok ad ls.length cap 1048576 _ (by omega) (by omega)).mono ?_
    rintro e w' ⟨rfl, rfl⟩
    have hs : (0 : Int) ≤ 1048576 - ls.length := by omega
    go_wp2_with fail
    refine (toLinkS_any ad cap ls _ hl HR.out).mono ?_
    rintro e w1 ⟨g1, rfl, hg1, ho1, hb1⟩
    have HO1 := Lib.hid ho1; clear ho1
    go_wp2_with fail
    refine (specIsGraph_any n _ _ ls _ hl HO1.out.rdL).mono ?_
    rintro e w2 ⟨rfl, hb2⟩
    have b2 := ball hb1 hb2
    have HR2 := Lib.hid (HR.out.below b2)
    go_wp2_with fail
    refine (toLinkS_any ad cap ls _ hl HR2.out).mono ?_
    rintro e w3 ⟨g3, rfl, hg3, ho3, hb3⟩
    have HO3 := Lib.hid ho3; clear ho3
    go_wp2_with fail
    refine (implIsGraph_any n _ _ ls _ hl HO3.out.rdL).mono ?_
    rintro e w4 ⟨rfl, hb4⟩
    have b4 := ball (ball b2 hb3) hb4
    have HR4 := Lib.hid (HR.out.below b4)
    have HO4 := Lib.hid (HO3.out.belowAll hb4)
    go_wp2_with fail
    refine (toLinkS_any ad cap ls _ hl HR4.out).mono ?_
    rintro e w5 ⟨g5, rfl, hg5, ho5, hb5⟩
    have HO5 := Lib.hid ho5; clear ho5
    go_wp2_with fail
    refine (eqLinkS_same _ _ _ _ ls _ hl (HO4.out.belowAll hb5).rdL HO5.out.rdL).mono ?_
    rintro e w6 ⟨rfl, hb6⟩
    go_wp2
    go_ret
    exact ⟨rfl, ball (ball b4 hb5) hb6⟩
  · go_enter Try.func3, Try.ntmps3
    go_wp2_with fail
    refine (szLinkS_big ad ls.length cap 1048576 _ (by omega) (by omega) hm (by omega)).mono ?_
    rintro e w' ⟨rfl, rfl⟩
    go_wp2
    go_ret
    exact ⟨rfl, Below.refl _ _⟩

set_option maxRecDepth 100000 in
theorem isGraph_lifted (os : Os) (started : os.Started) (H : Type) (enc : TypeId × Value → H) :
    ReturnsInHanded {} Try.checked os 3 .any (Rows.fnExactIsGraphSpec.pre6 enc Try.prog Try.f3 Rows.fnExactIsGraphRow.domain false) (Rows.fnExactIsGraphSpec.post enc Try.prog Try.f3 false true false false) := by
  refine returnsInHanded_of_change (C := Try.checked) Try.own started (by kernel_rfl) Try.func3
    (ChangeSpec.witness6 (enc := enc) (C := Try.checked) false ⟨#[], #[.int .i64 0, .slice none 0 0], []⟩ 8 (by kernel_rfl) (by kernel_rfl) (by kernel_rfl) (by kernel_rfl)) ?_
  intro W base args ds gs before hval0 hW hcnd _
  have hval : ∀ (j : Nat) t v, Try.f3.params[j]? = some t → args[j]? = some v → Value.okWide Try.prog W .any base t v := hval0
  have hW' := hW
  obtain ⟨p, q, hA0, hV, rfl, hfz, hnd⟩ := hW
  have hA : DataW.TrodAll enc Try.prog W 0 (fun _ => true) true Try.f3.params.toList args.toList ds p := hA0
  rw [Try.params3] at hA hval
  obtain ⟨v0, v1, d0, d1, p0, p1, rfl, rfl, rfl, h0, h1⟩ := trodAll_two hA
  obtain ⟨rfl, rfl⟩ := trodVars_none hV
  obtain ⟨n, rfl, rfl, rfl, wn⟩ := open_int Try.underlying3 (hval 0 3 v0 rfl rfl) h0
  obtain ⟨a1, len1, cap1, rfl⟩ := okWide_slice Try.underlying22 (hval 1 22 v1 rfl rfl)
  clear hA0 hval0
  simp only [List.append_nil, List.nil_append] at hW'
  have hlt : ∀ x ∈ p1, x.block < W.heap.size := fun x hx => by simpa using hW'.lt x hx
  have k1 : ∀ (W' : World), Below W.heap.size W W' → DataW.Trod enc Try.prog W' 0 (fun b => decide (b < W.heap.size)) true 22 (.slice a1 len1 cap1) d1 p1 :=
    fun W' hn => Below.trod Try.laidOut (by kernel_rfl) (of_decide_eq_true (by kernel_rfl)) h1 hn hlt
  obtain ⟨hm1, ls, rfl, hr1⟩ := open_rdL h1
  refine (lawIsGraph_any n a1 cap1 ls W hm1 hr1).mono fun e W' ⟨he, hw⟩ => ?_
  subst he
  refine ⟨_, rfl, _, _, _, [], [] ++ p1, [], hW', ?_, ?_, rfl, hw.frame _, fun h => by cases h⟩
  · exact trodAll_mk1 (shut_bool Try.underlying4 true)
  · exact trodAll_mk2 (shut_int Try.underlying3 wn) (k1 W' hw)

theorem isGraph_holds : Rows.FnExactIsGraphSaid :=
  OpenClaim.holds_of_wide 3 Try.f3 rfl rfl rfl rfl rfl rfl rfl ⟨rfl, rfl, rfl, rfl, rfl⟩ rfl rfl rfl rfl rfl (by kernel_rfl) Try.func3 (by kernel_rfl)
    (of_decide_eq_true (by kernel_rfl)) (by unfold Func.isWrapper; first | (rw [if_pos (by decide +kernel)]; kernel_rfl) | (rw [if_neg (by decide +kernel)]; exact ⟨rfl, rfl⟩))
    (fun os started H enc _ => isGraph_lifted os started H enc)

end Go.Proofs.Ytcajnfhgpacpcaa
