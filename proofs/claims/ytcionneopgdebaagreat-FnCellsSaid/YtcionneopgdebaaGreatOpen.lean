/-
  Some texts of this proof in one: Open OpenB. Each part tells what it proves. By an AI agent.
-/
import Derived.Test.YtcionneopgdebaaGreatLaws
import Derived.ProofKit
import Derived.Deep.Strs
import Derived.Deep.Slices

/-
  From the rows' readings to what the walks ask: arguments that are slices of links or of numbers; the frame of a law's proof.
-/
namespace Go.Proofs.YtcionneopgdebaaGreat
open Go.ChangeShapes Go.WideShapes Go.ChangeAt Go.RowKit Go.Deep

theorem Tryz.own : ownKnob Tryz.prog.godebug = none := by kernel_rfl
theorem Tryz.laidOut : laidOutB Tryz.prog = true := by kernel_rfl
section
variable {H : Type} {enc : TypeId × Value → H} {W : World}

end

end Go.Proofs.YtcionneopgdebaaGreat

/-
  Arguments that are bytes, and the cursor over them.
-/
namespace Go.Proofs.YtcionneopgdebaaGreat
open Go.ChangeShapes Go.WideShapes Go.ChangeAt Go.RowKit Go.Deep

theorem Tryz.cellsB : Tryz.prog.cellsOf 5 = 1 := by kernel_rfl
theorem wf_u8 {n : Int} (h : (Lit.int .u8 n).wf = true) : 0 ≤ n ∧ n ≤ 255 := by
  have h1 : IntKind.u8.min = 0 := rfl
  have h2 : IntKind.u8.max = 255 := rfl
  simp only [Lit.wf, Bool.and_eq_true, decide_eq_true_eq] at h
  omega
theorem open_rdB {H : Type} {enc : TypeId × Value → H} {W : World} {ad : Option Addr} {len cap : Nat} {d : DataW H} {p : List MemPlace} (h : DataW.Trod enc Tryz.prog W 0 (fun _ => true) true 22 (.slice ad len cap) d p) :
    len ≤ 9223372036854775807 ∧ RdB W ad len := by
  obtain ⟨fuel, hf⟩ := h
  rcases open_ints Tryz.underlying22 Tryz.underlying5 Tryz.cellsB hf with ⟨hcs, _⟩ | ⟨a, len', cap', zs, hcs, _, hl, hm, hz, _, hcell, hwz⟩
  · simp [Value.cells] at hcs
    obtain ⟨rfl, rfl, rfl⟩ := hcs
    exact ⟨by omega, fun j hj => by omega⟩
  · simp [Value.cells] at hcs
    obtain ⟨rfl, rfl, rfl⟩ := hcs
    simp only [if_true] at hz
    refine ⟨by unfold maxLen at hm; omega, fun j hj => ?_⟩
    have c := hcell j (by omega)
    obtain ⟨b, off, spot⟩ := a
    have c0 := hcell 0 (by omega)
    have hspot : spot = none := by simpa [Addr.add] using World.cell?_spot c0
    subst hspot
    rw [add_plain] at c
    refine ⟨b, off, _, rfl, cell_lt c, c, ?_⟩
    have hj2 : j < zs.length := by omega
    refine wf_u8 (hwz _ ?_)
    rw [List.getD_eq_getElem?_getD, List.getElem?_eq_getElem hj2]
    exact List.getElem_mem hj2

/-- A new cursor over bytes. -/
theorem cur_new {w : World} {ad : Option Addr} {len cap : Nat} (hr : RdB w ad len) (hl : len ≤ 9223372036854775807) :
    Cur (w.alloc (.cells #[.slice ad len cap, .int .i64 0, .int .u64 0] 49)) w.heap.size 0 := by
  refine ⟨ad, len, cap, 0, 0, Own.newA w _ 49 rfl, hr.below ((Below.refl _ _).alloc (Nat.le_refl _) _), ?_, hl, Nat.le_refl _, by omega, by omega⟩
  intro h0 b o e
  obtain ⟨b', off, x, e', hb, _⟩ := hr 0 h0
  rw [e] at e'
  simp at e'
  omega
end Go.Proofs.YtcionneopgdebaaGreat
