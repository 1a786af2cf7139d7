/-
  Steps that the cursor draws. Printed by gen_wyW.py. By an AI agent.
-/
import Derived.Test.YtjlkgioinogbkaaWyV
namespace Go.Proofs.Ytjlkgioinogbkaa
open Go.RowKit

theorem draw_app {c m : Nat} {wE w3 W wm : World} {o : Obj} (hbW : Below w3.heap.size w3 W) (hU : Cur w3 c m) (hF : Chg c wE w3) (hc : c < wE.heap.size) (hbm : Below wE.heap.size (W.alloc o) wm) (hgr : (W.alloc o).heap.size ≤ wm.heap.size) : Cur wm c m ∧ Chg c wE wm := by
  have hs : wE.heap.size ≤ W.heap.size := Nat.le_trans hF.size hbW.size
  have hb9 := ((Below.refl wE.heap.size W).alloc hs o).trans hbm
  have hs2 : W.heap.size ≤ wm.heap.size := by simp at hgr; omega
  exact ⟨(hU.below hbW).under hb9 hc, (hF.trans (Chg.of_below hbW)).under hb9 (Nat.le_refl _) hs2⟩
end Go.Proofs.Ytjlkgioinogbkaa
