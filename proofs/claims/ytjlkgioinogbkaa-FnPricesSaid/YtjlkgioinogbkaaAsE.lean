/-
  The best assignment and the prices, the program's: what it tells. By an AI agent.
-/
import Derived.Test.YtjlkgioinogbkaaAsD
namespace Go.Proofs.Ytjlkgioinogbkaa
open Go.RowKit

def bsL (M : List (List Int)) : List Int := (bstA M.length (entM M)).2
def bsC (M : List (List Int)) : Int := (bstA M.length (entM M)).1
def rpL (M : List (List Int)) : List Int := tab M.length (prU M.length (entM M) (bsL M))
def cpL (M : List (List Int)) : List Int := tab M.length (prV M.length (entM M) (bsL M))
def baB (M : List (List Int)) : Bool := bsB M && numB (bsC M)
def rpB (M : List (List Int)) : Bool := bsB M && (rpL M).all numB
def cpB (M : List (List Int)) : Bool := bsB M && (cpL M).all numB
def BesR (B : Bool) (A : List Int) (c : Int) (w : World) (e : Ending) (w' : World) : Prop := ∃ ad cap, e = .returned (.tuple #[.slice ad (onL B A).length cap, .int .i64 (if B = true then c else 0), .bool B]) ∧ RdI w' ad (onL B A) ∧ Below w.heap.size w w'

set_option maxHeartbeats 3200000 in
set_option maxRecDepth 100000 in
theorem iBest_c (ad : Option Addr) (cap : Nat) (M : List (List Int)) (w : World) (hr : RdM w ad M) (hl : smM M) :
    Calls Try.prog 10 #[.slice ad M.length cap] w (BesR (baB M) (bsL M) (bsC M) w) := by
  have C1 := Lib.hid (bestAsked_c ad cap M w hr hl)
  unfold bsR at C1
  have CN := Lib.hid (fun w => isNumber_c (bsC M) w)
  have HLN := Lib.hid (fun (h : bsB M = true) => (bst_of h).1.len)
  rw [show bstA M.length (entM M) = (bsC M, bsL M) from rfl] at C1 HLN
  simp only at C1 HLN
  unfold baB
  clear hr hl
  generalize bsC M = X at C1 CN ⊢
  generalize bsL M = L at C1 HLN ⊢
  generalize numB X = U at CN ⊢
  generalize bsB M = B at C1 HLN ⊢
  generalize M.length = n at C1 HLN ⊢
  go_enter Try.func10, Try.ntmps10
  go_wp2_with fail
  refine C1.out.mono ?_
  rintro e w1 ⟨⟨c, av, lv, cp, rfl, hyes⟩, hb1⟩
  have ho := Own.newHA w1 #[.int .i64 c, .slice av lv cp] 43 (cs := [.int .i64 c, .slice av lv cp]) rfl rfl
  have k0 := ho.cell? (i := 0) rfl
  have k1 := ho.cell? (i := 1) rfl
  have hb2 := bal_alloc (o := .cells #[.int .i64 c, .slice av lv cp] 43) hb1
  cases B
  · clear k0 k1 ho
    go_wp2_with fail
    exact bodyPost_ret (v := .tuple #[.slice none 0 0, .int .i64 0, .bool false]) (by simp [results, Try.results10, go_sem]) rfl ⟨none, 0, rfl, RdI.nil _ _, hb2⟩
  · obtain ⟨rfl, g, rfl, rfl, hrd⟩ := hyes rfl
    have hln := HLN.out rfl
    have HRD := Lib.hid (hrd.below (bal_alloc (o := .cells #[.int .i64 c, .slice (some ⟨g, 0, none⟩) lv cp] 43) (Below.refl _ _)))
    clear hyes hrd
    cases U
    · go_wp2_with fail
      refine (CN.out _).mono ?_
      rintro e w3 ⟨rfl, rfl⟩
      go_wp2_with fail
      exact bodyPost_ret (v := .tuple #[.slice none 0 0, .int .i64 0, .bool false]) (by simp [results, Try.results10, go_sem]) rfl ⟨none, 0, rfl, RdI.nil _ _, hb2⟩
    · go_wp2_with fail
      refine (CN.out _).mono ?_
      rintro e w3 ⟨rfl, rfl⟩
      go_wp2_with fail
      go_quiet (fail)
      go_wp2_with fail
      refine bodyPost_ret (v := .tuple #[.slice (some ⟨g, 0, none⟩) lv cp, .int .i64 c, .bool true]) (by simp [results, Try.results10, go_sem]) rfl ?_
      exact ⟨_, cp, by rw [Bool.and_self, show (onL true L).length = _ from hln, if_pos rfl], HRD.out.below (bdrewN (Below.refl _ _) _), bdrewN hb2 _⟩

set_option maxHeartbeats 3200000 in
set_option maxRecDepth 100000 in
theorem iRow_c (ad : Option Addr) (cap : Nat) (M : List (List Int)) (w : World) (hr : RdM w ad M) (hl : smM M) :
    Calls Try.prog 6 #[.slice ad M.length cap] w (LisR (rpB M) (rpL M) w) := by
  have C1 := Lib.hid (bestAsked_c ad cap M w hr hl)
  unfold bsR at C1
  have CR := Lib.hid (fun (h : bsB M = true) (u : World) (adA : Option Addr) (capA : Nat) (hb : Below w.heap.size w u) (hA : RdI u adA (bsL M)) => by
    have hs : sqB M = true := by unfold bsB at h; rw [Bool.and_eq_true] at h; exact h.1
    have h3 := hr.below hb
    rw [← sq_toM hs] at h3
    exact rowPrices_c M.length ad cap (entM M) adA capA (bsL M) u h3 hA (bst_of h).1)
  have CT := Lib.hid (fun (g : Nat) (cp : Nat) (u : World) (hu : RdI u (some ⟨g, 0, none⟩) (rpL M)) => by
    have := toldList_c (some ⟨g, 0, none⟩) cp (rpL M) u hu (by unfold rpL; rw [tab_length]; have := hl.1; omega)
    rw [show (rpL M).length = M.length from tab_length _ _] at this
    exact this)
  rw [show bstA M.length (entM M) = (bsC M, bsL M) from rfl] at C1
  simp only [show tab M.length (prU M.length (entM M) (bsL M)) = rpL M from rfl] at CR C1
  have HRL := Lib.hid (show (rpL M).length = M.length from tab_length _ _)
  unfold rpB
  clear hr hl
  generalize bsC M = X at C1
  generalize bsL M = L at C1 CR
  generalize rpL M = R at CR CT HRL ⊢
  generalize bsB M = B at C1 CR ⊢
  generalize M.length = n at C1 CR CT HRL ⊢
  go_enter Try.func6, Try.ntmps6
  go_wp2_with fail
  refine C1.out.mono ?_
  rintro e w1 ⟨⟨c, av, lv, cp, rfl, hyes⟩, hb1⟩
  have ho := Own.newHA w1 #[.int .i64 c, .slice av lv cp] 43 (cs := [.int .i64 c, .slice av lv cp]) rfl rfl
  have k1 := ho.cell? (i := 1) rfl
  have hb2 := bal_alloc (o := .cells #[.int .i64 c, .slice av lv cp] 43) hb1
  cases B
  · clear k1 ho
    go_wp2_with fail
    exact bodyPost_ret (v := .tuple #[.slice none 0 0, .bool false]) (by simp [results, Try.results6, go_sem]) rfl (by rw [Bool.false_and]; exact LisR.no _ hb2)
  · obtain ⟨rfl, g, rfl, rfl, hrd⟩ := hyes rfl
    have D1 := Lib.hid (CR.out rfl _ _ cp hb2 (hrd.below (bal_alloc (o := .cells #[.int .i64 c, .slice (some ⟨g, 0, none⟩) lv cp] 43) (Below.refl _ _))))
    clear hyes hrd CR
    go_wp2_with fail
    refine D1.out.mono ?_
    rintro e w3 ⟨g3, cp3, rfl, -, ho3, hb3⟩
    have HRD := Lib.hid ho3.rd
    have D2 := Lib.hid (CT.out g3 cp3 w3 ho3.rd)
    have hb4 := ball hb2 hb3
    obtain ⟨U, hU⟩ : ∃ U, R.all numB = U := ⟨_, rfl⟩
    rw [hU] at D2
    have HU := Lib.hid hU
    clear ho3 hb3 D1 CT hU
    cases U
    · go_wp2_with fail
      refine D2.out.mono ?_
      rintro e w5 ⟨rfl, rfl⟩
      go_wp2_with fail
      exact bodyPost_ret (v := .tuple #[.slice none 0 0, .bool false]) (by simp [results, Try.results6, go_sem]) rfl (by rw [Bool.true_and, HU.out]; exact LisR.no _ hb4)
    · go_wp2_with fail
      refine D2.out.mono ?_
      rintro e w5 ⟨rfl, rfl⟩
      go_wp2_with fail
      exact bodyPost_ret (v := .tuple #[.slice (some ⟨g3, 0, none⟩) lv cp3, .bool true]) (by simp [results, Try.results6, go_sem]) rfl (by rw [Bool.true_and, HU.out]; exact LisR.yes HRD.out HRL.out hb4)
end Go.Proofs.Ytjlkgioinogbkaa
