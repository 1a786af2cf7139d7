/-
  FireScript and FireVertex: reference and program.
-/
import Derived.Test.YtkbkemcigcdoaaaFire
namespace Go.Proofs.Ytkbkemcigcdoaaa
open Go.RowKit

def resF (n : Int) (ls : List Lk) (d s : List Int) : List Int := tab n.toNat fun j => d.getD j 0 - accF (fun u => s.getD u 0) (lapF ls) n.toNat j
def tellR (n : Int) (l : List Int) : List Int × Bool := if chipsB n l = true then (l, true) else ([], false)
def scriptOkB (n : Int) (s : List Int) : Bool := decide ((s.length : Int) = n) && allB s (-20) 20
def fireScriptR (n : Int) (ls : List Lk) (d s : List Int) : List Int × Bool := if bothB n ls d = true ∧ scriptOkB n s = true then tellR n (resF n ls d s) else ([], false)
def fireVertexR (n : Int) (ls : List Lk) (d : List Int) (v : Int) : List Int × Bool := if bothB n ls d = true ∧ inB v 0 (n - 1) = true then tellR n (resF n ls d (tab n.toNat (setF [v]))) else ([], false)
theorem tellR_len {n : Int} {l : List Int} (h : n ≤ 1048576) : (tellR n l).1.length ≤ 1048576 := by
  unfold tellR
  split
  · rename_i h2
    have := (chipsB_t h2).1
    simp only
    omega
  · simp
theorem fireScriptR_len (n : Int) (ls : List Lk) (d s : List Int) : (fireScriptR n ls d s).1.length ≤ 1048576 := by
  unfold fireScriptR
  split
  · rename_i h
    have := good_n (bothB_t h.1).1
    exact tellR_len (by omega)
  · simp
theorem fireVertexR_len (n : Int) (ls : List Lk) (d : List Int) (v : Int) : (fireVertexR n ls d v).1.length ≤ 1048576 := by
  unfold fireVertexR
  split
  · rename_i h
    have := good_n (bothB_t h.1).1
    exact tellR_len (by omega)
  · simp

theorem bothB_bounds {n : Int} {ls : List Lk} {d : List Int} (h : bothB n ls d = true) : d.length = n.toNat ∧ ∀ j, j < n.toNat → -1000000000000 ≤ d.getD j 0 ∧ d.getD j 0 ≤ 1000000000000 := by
  obtain ⟨h1, h2⟩ := bothB_t h
  obtain ⟨h3, h4⟩ := chipsB_t h2
  have hl : d.length = n.toNat := by omega
  refine ⟨hl, fun j hj => ?_⟩
  have := h4 j (by omega)
  omega
theorem setList_bounds (N : Nat) (set : List Int) : ∀ u, u < N → -20 ≤ (tab N (setF set)).getD u 0 ∧ (tab N (setF set)).getD u 0 ≤ 20 := fun u hu => by
  rw [tab_getD hu]
  have := setF_bound set u
  omega

set_option maxHeartbeats 400000 in
theorem told_yes (G gb gv capb : Nat) (rb : Nat → Nat) (N : Nat) (bet : Nat → Nat → Int) (val : Nat → Int) (ed : Int) (ad : Option Addr) (cap : Nat) (xs : List Int) (w : World) (hG : GrAt w G gb gv capb rb N bet val ed) (hl : xs.length ≤ 1048576) (hr : RdI w ad xs) (h : chipsB N xs = true) :
    Calls Try.prog 65 #[.pointer (some ⟨G, 0, none⟩), .slice ad xs.length cap] w fun e w' => e = .returned (.tuple #[.slice ad xs.length cap, .bool true]) ∧ Below w.heap.size w w' := by
  go_enter Try.func65, Try.ntmps65
  go_wp2_with fail
  refine (isDivisor_any G gb gv capb rb N bet val ed ad cap xs _ hG hl hr).mono ?_
  rw [h]
  rintro e w1 ⟨rfl, hb⟩
  go_wp2
  go_ret2
  exact ⟨rfl, hb⟩

set_option maxHeartbeats 400000 in
theorem told_no (G gb gv capb : Nat) (rb : Nat → Nat) (N : Nat) (bet : Nat → Nat → Int) (val : Nat → Int) (ed : Int) (ad : Option Addr) (cap : Nat) (xs : List Int) (w : World) (hG : GrAt w G gb gv capb rb N bet val ed) (hl : xs.length ≤ 1048576) (hr : RdI w ad xs) (h : chipsB N xs = false) :
    Calls Try.prog 65 #[.pointer (some ⟨G, 0, none⟩), .slice ad xs.length cap] w fun e w' => e = .returned (.tuple #[.slice none 0 0, .bool false]) ∧ Below w.heap.size w w' := by
  go_enter Try.func65, Try.ntmps65
  go_wp2_with fail
  refine (isDivisor_any G gb gv capb rb N bet val ed ad cap xs _ hG hl hr).mono ?_
  rw [h]
  rintro e w1 ⟨rfl, hb⟩
  go_wp2
  go_ret2
  exact ⟨rfl, hb⟩

set_option maxHeartbeats 400000 in
theorem isVertex_any (G gb gv capb : Nat) (rb : Nat → Nat) (N : Nat) (bet : Nat → Nat → Int) (val : Nat → Int) (ed : Int) (v : Int) (w : World) (hG : GrAt w G gb gv capb rb N bet val ed) (hN : N ≤ 8) :
    Calls Try.prog 73 #[.pointer (some ⟨G, 0, none⟩), .int .i64 v] w fun e w' => e = .returned (.bool (inB v 0 (N - 1))) ∧ w = w' := by
  have c0 := hG.c0
  clear hG
  go_enter Try.func73, Try.ntmps73
  go_wp2_with (go_at_call 86; refine (within_any _ _ _ _).mono ?_; rintro e w' ⟨rfl, rfl⟩)
  go_ret
  exact ⟨rfl, rfl⟩

-- WRAPPERS
end Go.Proofs.Ytkbkemcigcdoaaa
