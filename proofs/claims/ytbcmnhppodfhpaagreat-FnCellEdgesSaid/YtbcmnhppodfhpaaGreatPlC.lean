/-
  Some texts of this proof in one: PlC PlJ. Each part tells what it proves. By an AI agent.
-/
import Derived.Test.YtbcmnhppodfhpaaGreatLineP
import Derived.Test.YtbcmnhppodfhpaaGreatLaws
import Derived.Laws.BytesArg
import Derived.WalkSpells
import Derived.WalkLawsBesides
import Derived.Deep.RegionHeld3
import Derived.Lib.ItoaNum
import Derived.Lib.ItoaLen
import Derived.Lib.ItoaWalk
import Derived.Lib.AtoiTie
import Derived.Laws.Concat
import Derived.WalkSmall
import Derived.Lib.AppendIntMem
import Derived.Lib.LaidTab
import Derived.Deep.AppendLies
import Derived.Lib.SplitLaws
import Derived.Shelf.Strconv.AtoiAll
import Derived.Shelf.Strings.Split
import Derived.Test.YtbcmnhppodfhpaaGreatCeD
import Derived.Test.YtbcmnhppodfhpaaGreatCeA
import Derived.Test.YtbcmnhppodfhpaaGreatPlH

/-
  Some texts of this proof in one: PlC PlD. Each part tells what it proves. By an AI agent.
-/

/-
  The text of a plane polynomial: program and reference. Printed by gen_plC.py.
-/
namespace Go.Proofs.YtbcmnhppodfhpaaGreat
open Go.RowKit

theorem take_snocT (l : List Tm) (k : Nat) (h : k < l.length) : l.take (k + 1) = l.take k ++ [l.getD k default] := by
  rw [List.take_succ_eq_append_getElem h, List.getD_eq_getElem?_getD, List.getElem?_eq_getElem h, Option.getD_some]
theorem getD_memT {l : List Tm} {k : Nat} (hk : k < l.length) : l.getD k default ∈ l := by
  rw [List.getD_eq_getElem?_getD, List.getElem?_eq_getElem hk]
  exact List.getElem_mem hk
end Go.Proofs.YtbcmnhppodfhpaaGreat

/-
  The program's reading of a plane polynomial. By an AI agent.
-/
namespace Go.Proofs.YtbcmnhppodfhpaaGreat
open Go.RowKit

def PlnR (w : World) (l : List Tm) (b : Bool) (e : Ending) (w' : World) : Prop := ∃ ad cap, e = .returned (.tuple #[.slice ad l.length cap, .bool b]) ∧ RdT w' ad l ∧ Below w.heap.size w w'
end Go.Proofs.YtbcmnhppodfhpaaGreat

/-
  Some texts of this proof in one: PlJ PlL. Each part tells what it proves. By an AI agent.
-/

/-
  Plane polynomials: sums, products, exchange of the reference. By an AI agent.
-/
namespace Go.Proofs.YtbcmnhppodfhpaaGreat
open Go.RowKit

/-! ### Plain -/
theorem RowT.full {w : World} {B : Nat} {v : Value} {l : List Tm} (h : RowT w B v l) : ∃ ad cap, v = .slice ad l.length cap ∧ ST ad l.length cap ∧ RdT w ad l := by
  obtain ⟨ad, cap, rfl, h1, h2⟩ := h.shape
  refine ⟨ad, cap, rfl, ?_, RowT.rd h⟩
  rcases h.2 with ⟨e, e2⟩ | ⟨g, cap', cur, e, _, _, _⟩
  · injection e with e1 _ e3
    exact Or.inl ⟨e1, e2, e3⟩
  · injection e with e1 _ _
    exact Or.inr ⟨⟨g, 0, e1⟩, h1, h2⟩

/-! ### The reference -/
set_option maxHeartbeats 800000 in
theorem plIf_c (ad : Option Addr) (cap : Nat) (L : List Tm) (w : World) (hr : RdT w ad L) (hl : L.length ≤ 1048576) :
    Calls Tryz.prog 47 #[.slice ad L.length cap] w (PlnR w (if planeB L = true then L else []) (planeB L)) := by
  have c := plGood_c ad cap L w hr hl
  have HR := Lib.hid hr; clear hr
  obtain ⟨u, hu⟩ : ∃ u, planeB L = u := ⟨_, rfl⟩
  rw [hu] at c ⊢
  clear hu
  have C := Lib.hid c; clear c
  cases u
  case false =>
    go_enter Tryz.func47, Tryz.ntmps47
    go_wp2_with fail
    refine C.out.mono ?_
    rintro e w1 ⟨rfl, hw1⟩
    go_wp2_with fail
    go_ret2
    exact ⟨none, 0, rfl, RdT.nil _ _, hw1⟩
  case true =>
    rw [if_pos rfl]
    go_enter Tryz.func47, Tryz.ntmps47
    go_wp2_with fail
    refine C.out.mono ?_
    rintro e w1 ⟨rfl, hw1⟩
    go_wp2_with fail
    go_ret2
    exact ⟨ad, cap, rfl, HR.out.below hw1, hw1⟩

theorem PlnR.then {w w1 : World} {L : List Tm} {b : Bool} {e : Ending} {w2 : World} (h : PlnR w1 L b e w2) (h1 : Below w.heap.size w w1) : PlnR w L b e w2 := by
  obtain ⟨ad, cap, e, hr, hb⟩ := h
  exact ⟨ad, cap, e, hr, ball h1 hb⟩

end Go.Proofs.YtbcmnhppodfhpaaGreat

/-
  Plane polynomials: sums, products, exchange of the program. By an AI agent.
-/
namespace Go.Proofs.YtbcmnhppodfhpaaGreat
open Go.RowKit

set_option maxHeartbeats 800000 in
theorem toldPlane_c (ad : Option Addr) (cap : Nat) (L : List Tm) (w : World) (hr : RdT w ad L) (hl : L.length ≤ 1048576) :
    Calls Tryz.prog 45 #[.slice ad L.length cap] w (PlnR w (if planeB L = true then L else []) (planeB L)) := by
  have c := isPlane_c ad cap L w hr hl
  have HR := Lib.hid hr; clear hr
  obtain ⟨u, hu⟩ : ∃ u, planeB L = u := ⟨_, rfl⟩
  rw [hu] at c ⊢
  clear hu
  have C := Lib.hid c; clear c
  cases u
  case false =>
    go_enter Tryz.func45, Tryz.ntmps45
    go_wp2_with fail
    refine C.out.mono ?_
    rintro e w1 ⟨rfl, hw1⟩
    go_wp2_with fail
    go_ret2
    exact ⟨none, 0, rfl, RdT.nil _ _, hw1⟩
  case true =>
    rw [if_pos rfl]
    go_enter Tryz.func45, Tryz.ntmps45
    go_wp2_with fail
    refine C.out.mono ?_
    rintro e w1 ⟨rfl, hw1⟩
    go_wp2_with fail
    go_ret2
    exact ⟨ad, cap, rfl, HR.out.below hw1, hw1⟩

end Go.Proofs.YtbcmnhppodfhpaaGreat
