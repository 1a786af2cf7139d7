/-
  DoubleArea and MixedArea of both sides. Printed by gen_arG.py.
-/
import Derived.Test.YtcionneopgdebaaGreatPyHull
import Derived.Test.YtcionneopgdebaaGreatHalf
import Derived.Test.YtcionneopgdebaaGreatSortB
namespace Go.Proofs.YtcionneopgdebaaGreat
open Go.RowKit

def daV (l : List Pt) : Value := .tuple #[.int .i64 (if polyB l = true then areaP l else 0), .bool (polyB l)]
theorem areaP_b {l : List Pt} (hs : AllSh l) (hl : l.length ≤ 10000) : -10000000000000000 ≤ areaP l ∧ areaP l ≤ 10000000000000000 := by
  have := areaTo_b hs l.length (Nat.le_refl _)
  rw [show areaTo l l.length = areaP l from rfl] at this
  omega
set_option maxHeartbeats 800000 in
theorem iDoubleArea_c (ad : Option Addr) (cap : Nat) (l : List Pt) (w : World) (hr : RdP w ad l) (hl : l.length ≤ 12) :
    Calls Tryz.prog 18 #[.slice ad l.length cap] w fun e w' => e = .returned (daV l) ∧ Below w.heap.size w w' := by
  have c1 := fun w hr => isPolygon_c ad cap l w hr hl
  have hp := Lib.hid (show polyB l = true → ptsB l = true from fun h => (Bool.and_eq_true_iff.1 h).1)
  have HR := Lib.hid hr; clear hr
  unfold daV
  generalize polyB l = u at c1 hp ⊢
  have C1 := Lib.hid c1; clear c1
  cases u
  case false =>
    rw [if_neg (by simp)]
    go_enter Tryz.func18, Tryz.ntmps18
    go_wp2_with fail
    refine (C1.out _ HR.out).mono ?_
    rintro e w1 ⟨rfl, hw1⟩
    go_wp2_with fail
    go_ret2
    exact ⟨rfl, hw1⟩
  case true =>
    rw [if_pos rfl]
    obtain ⟨h1, h2, hs⟩ := ptsB_t (hp.out rfl)
    have HS := Lib.hid hs; clear hs
    have cb := Lib.hid (fun w hr => doubleArea_c ad cap l w hr (by omega) HS.out)
    generalize areaP l = z at cb ⊢
    go_enter Tryz.func18, Tryz.ntmps18
    go_wp2_with fail
    refine (C1.out _ HR.out).mono ?_
    rintro e w1 ⟨rfl, hw1⟩
    have HR1 := Lib.hid (HR.out.below hw1)
    go_wp2_with fail
    refine (cb.out _ HR1.out).mono ?_
    rintro e w2 ⟨rfl, hw2⟩
    go_wp2_with fail
    go_ret2
    exact ⟨rfl, ball hw1 hw2⟩

end Go.Proofs.YtcionneopgdebaaGreat
