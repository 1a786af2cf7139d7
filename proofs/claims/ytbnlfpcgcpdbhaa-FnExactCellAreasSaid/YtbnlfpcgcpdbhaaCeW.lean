/-
  CellAreas and IsSmooth as their laws ask: one answer for both sides. By an AI agent.
-/
import Derived.Test.YtbnlfpcgcpdbhaaCpZ
import Derived.Test.YtbnlfpcgcpdbhaaLawT
namespace Go.Proofs.Ytbnlfpcgcpdbhaa
open Go.RowKit

def areR (L : List Tm) : List Int × Bool := (if planeB L = true then areL L else [], planeB L)
theorem areR_len (L : List Tm) : (areR L).1.length ≤ 1048576 := by
  unfold areR
  simp only
  split
  · rename_i h
    have := celA_len L (planeB_t h).2.1
    unfold areL
    rw [List.length_map]
    omega
  · simp
def smoR (L : List Tm) : Bool × Bool := (planeB L && smoB L, planeB L)
theorem implAre_c (ad : Option Addr) (cap : Nat) (L : List Tm) (w : World) (hl : L.length ≤ 1048576) (hr : RdT w ad L) :
    Calls Try.prog 11 #[.slice ad L.length cap] w fun e w' => ∃ v, e = .returned (.tuple #[v, .bool (areR L).2]) ∧ ResI w' w.heap.size 3 v (areR L).1 ∧ Below w.heap.size w w' :=
  (iCellAreas_c ad cap L w hr hl).mono fun _ _ ⟨v, h1, h2, h3⟩ => ⟨v, h1, ResI.of_row h2, h3⟩
theorem specAre_c (ad : Option Addr) (cap : Nat) (L : List Tm) (w : World) (hl : L.length ≤ 1048576) (hr : RdT w ad L) :
    Calls Try.prog 10 #[.slice ad L.length cap] w fun e w' => ∃ v, e = .returned (.tuple #[v, .bool (areR L).2]) ∧ ResI w' w.heap.size 3 v (areR L).1 ∧ Below w.heap.size w w' :=
  (sCellAreas_c ad cap L w hr hl).mono fun _ _ ⟨v, h1, h2, h3⟩ => ⟨v, h1, ResI.of_row h2, h3⟩
theorem implSmo_c (ad : Option Addr) (cap : Nat) (L : List Tm) (w : World) (hl : L.length ≤ 1048576) (hr : RdT w ad L) :
    Calls Try.prog 8 #[.slice ad L.length cap] w fun e w' => e = .returned (.tuple #[.bool (smoR L).1, .bool (smoR L).2]) ∧ Below w.heap.size w w' := iIsSmooth_c ad cap L w hr hl
theorem specSmo_c (ad : Option Addr) (cap : Nat) (L : List Tm) (w : World) (hl : L.length ≤ 1048576) (hr : RdT w ad L) :
    Calls Try.prog 6 #[.slice ad L.length cap] w fun e w' => e = .returned (.tuple #[.bool (smoR L).1, .bool (smoR L).2]) ∧ Below w.heap.size w w' := sIsSmooth_c ad cap L w hr hl
end Go.Proofs.Ytbnlfpcgcpdbhaa
