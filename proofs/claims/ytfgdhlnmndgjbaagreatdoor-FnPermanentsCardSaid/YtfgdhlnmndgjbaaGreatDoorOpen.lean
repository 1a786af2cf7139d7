/-
  From the rows' readings to what the walks ask: arguments that are slices of links or of numbers; the frame of a law's proof.
-/
import Derived.Test.YtfgdhlnmndgjbaaGreatDoorLaws
import Derived.ProofKit
import Derived.Deep.Strs
import Derived.Deep.Slices
namespace Go.Proofs.YtfgdhlnmndgjbaaGreatDoor
open Go.ChangeShapes Go.WideShapes Go.ChangeAt Go.RowKit Go.Deep

theorem Tryz.own : ownKnob Tryz.prog.godebug = none := by kernel_rfl
theorem Tryz.laidOut : laidOutB Tryz.prog = true := by kernel_rfl
theorem Tryz.cellsI : Tryz.prog.cellsOf 3 = 1 := by kernel_rfl
section
variable {H : Type} {enc : TypeId × Value → H} {W : World}

theorem wf_i64 {n : Int} (h : (Lit.int .i64 n).wf = true) : -9223372036854775808 ≤ n ∧ n ≤ 9223372036854775807 := by
  have h1 : IntKind.i64.min = -9223372036854775808 := rfl
  have h2 : IntKind.i64.max = 9223372036854775807 := rfl
  simp only [Lit.wf, Bool.and_eq_true, decide_eq_true_eq] at h
  omega

theorem open_rdI {ad : Option Addr} {len cap : Nat} {d : DataW H} {p : List MemPlace} (h : DataW.Trod enc Tryz.prog W 0 (fun _ => true) true 38 (.slice ad len cap) d p) :
    len ≤ 9223372036854775807 ∧ ∃ xs : List Int, xs.length = len ∧ RdI W ad xs ∧ ∀ x ∈ xs, -9223372036854775808 ≤ x ∧ x ≤ 9223372036854775807 := by
  obtain ⟨fuel, hf⟩ := h
  rcases open_ints Tryz.underlying38 Tryz.underlying3 Tryz.cellsI hf with ⟨hcs, _⟩ | ⟨a, len', cap', zs, hcs, _, hl, hm, hz, _, hcell, hwz⟩
  · simp [Value.cells] at hcs
    obtain ⟨rfl, rfl, rfl⟩ := hcs
    exact ⟨by omega, [], rfl, RdI.nil _ _, fun x hx => by simp at hx⟩
  · simp [Value.cells] at hcs
    obtain ⟨rfl, rfl, rfl⟩ := hcs
    simp only [if_true] at hz
    refine ⟨by unfold maxLen at hm; omega, zs.take len, by rw [List.length_take]; omega, fun j hj => ?_, fun x hx => wf_i64 (hwz x (List.mem_of_mem_take hx))⟩
    rw [List.length_take] at hj
    have c := hcell j (by omega)
    obtain ⟨b, off, spot⟩ := a
    have c0 := hcell 0 (by omega)
    have hspot : spot = none := by simpa [Addr.add] using World.cell?_spot c0
    subst hspot
    rw [add_plain] at c
    refine ⟨b, off, rfl, cell_lt c, ?_⟩
    rw [c]
    simp [List.getD, show j < len by omega]
end

end Go.Proofs.YtfgdhlnmndgjbaaGreatDoor
