/-
  From the rows' readings to what the walks ask: arguments that are slices of links or of numbers; the frame of a law's proof.
-/
import Derived.Test.YtkbkemcigcdoaaaLaws
import Derived.ProofKit
import Derived.Deep.Strs
import Derived.Deep.Slices
namespace Go.Proofs.Ytkbkemcigcdoaaa
open Go.ChangeShapes Go.WideShapes Go.ChangeAt Go.RowKit Go.Deep

theorem Try.own : ownKnob Try.prog.godebug = none := by kernel_rfl
theorem Try.laidOut : laidOutB Try.prog = true := by kernel_rfl
theorem Try.cellsI : Try.prog.cellsOf 3 = 1 := by kernel_rfl
theorem Try.cellsK : Try.prog.cellsOf 55 = 3 := by kernel_rfl
theorem Try.fieldsK : ∃ f0 f1 f2 : Field, Try.prog.underlying 55 = some (.struct #[f0, f1, f2]) ∧ f0.offset = 0 ∧ f1.offset = 1 ∧ f2.offset = 2 ∧ f0.type = 3 ∧ f1.type = 3 ∧ f2.type = 3 :=
  ⟨_, _, _, Try.underlying55, rfl, rfl, rfl, rfl, rfl, rfl⟩

section
variable {H : Type} {enc : TypeId × Value → H} {W : World}

theorem wf_i64 {n : Int} (h : (Lit.int .i64 n).wf = true) : -9223372036854775808 ≤ n ∧ n ≤ 9223372036854775807 := by
  have h1 : IntKind.i64.min = -9223372036854775808 := rfl
  have h2 : IntKind.i64.max = 9223372036854775807 := rfl
  simp only [Lit.wf, Bool.and_eq_true, decide_eq_true_eq] at h
  omega

set_option maxRecDepth 100000 in
theorem open_rdL {ad : Option Addr} {len cap : Nat} {d : DataW H} {p : List MemPlace} (h : DataW.Trod enc Try.prog W 0 (fun _ => true) true 22 (.slice ad len cap) d p) : len ≤ 9223372036854775807 ∧ ∃ ls : List Lk, ls.length = len ∧ RdL W ad ls := by
  obtain ⟨fuel, hf⟩ := h
  obtain ⟨f0, f1, f2, he, o0, o1, o2, t0, t1, t2⟩ := Try.fieldsK
  rcases open_slice Try.underlying22 hf with ⟨hcs, _⟩ | ⟨a, len', cap', m, n, D, Pl, hcs, _, hl, hm, hmm, hx, hel⟩
  · simp [Value.cells] at hcs
    obtain ⟨rfl, rfl, rfl⟩ := hcs
    exact ⟨by omega, [], rfl, fun j hj => by simp at hj⟩
  · simp [Value.cells] at hcs
    obtain ⟨rfl, rfl, rfl⟩ := hcs
    simp only [if_true] at hmm
    simp only [Prod.mk.injEq] at hx
    subst hmm
    have each : ∀ i, i < len → ∃ x : Lk, W.cell? (a.add (i * 3)) = some (.int .i64 x.a) ∧ W.cell? (a.add (i * 3 + 1)) = some (.int .i64 x.b) ∧ W.cell? (a.add (i * 3 + 2)) = some (.int .i64 x.n) := by
      intro i hi
      obtain ⟨cs', h1, h2⟩ := hel i (by omega)
      rw [Try.cellsK] at h1
      obtain ⟨_, hlen, hcell⟩ := World.cells?_some h1
      obtain ⟨y0, y1, y2, k, _, _, g0, g1, g2⟩ := trod_struct3 he h2
      match cs', hlen with
      | [v0, v1, v2], _ =>
        rw [o0, t0, Try.cellsI] at g0
        rw [o1, t1, Try.cellsI] at g1
        rw [o2, t2, Try.cellsI] at g2
        simp at g0 g1 g2
        obtain ⟨x0, q0, _, _⟩ := DataW.trod_int Try.underlying3 g0
        obtain ⟨x1, q1, _, _⟩ := DataW.trod_int Try.underlying3 g1
        obtain ⟨x2, q2, _, _⟩ := DataW.trod_int Try.underlying3 g2
        simp at q0 q1 q2
        subst q0 q1 q2
        have e0 := hcell 0 (by omega)
        have e1 := hcell 1 (by omega)
        have e2 := hcell 2 (by omega)
        rw [add_add] at e0 e1 e2
        exact ⟨⟨x0, x1, x2⟩, by simpa using e0, by simpa using e1, by simpa using e2⟩
    obtain ⟨q, hq⟩ := choose_lt each
    refine ⟨by unfold maxLen at hm; omega, tab len q, tab_length _ _, fun j hj => ?_⟩
    rw [tab_length] at hj
    obtain ⟨c0, c1, c2⟩ := hq j hj
    obtain ⟨b, off, spot⟩ := a
    obtain ⟨c00, _, _⟩ := hq 0 (by omega)
    have hspot : spot = none := by simpa [Addr.add] using World.cell?_spot c00
    subst hspot
    rw [add_plain] at c0 c1 c2
    rw [tab_getD hj]
    exact ⟨b, off, rfl, cell_lt c0, c0, by rw [Nat.add_assoc]; exact c1, by rw [Nat.add_assoc]; exact c2⟩

theorem open_rdI {ad : Option Addr} {len cap : Nat} {d : DataW H} {p : List MemPlace} (h : DataW.Trod enc Try.prog W 0 (fun _ => true) true 23 (.slice ad len cap) d p) :
    len ≤ 9223372036854775807 ∧ ∃ xs : List Int, xs.length = len ∧ RdI W ad xs ∧ ∀ x ∈ xs, -9223372036854775808 ≤ x ∧ x ≤ 9223372036854775807 := by
  obtain ⟨fuel, hf⟩ := h
  rcases open_ints Try.underlying23 Try.underlying3 Try.cellsI hf with ⟨hcs, _⟩ | ⟨a, len', cap', zs, hcs, _, hl, hm, hz, _, hcell, hwz⟩
  · simp [Value.cells] at hcs
    obtain ⟨rfl, rfl, rfl⟩ := hcs
    exact ⟨by omega, [], rfl, RdI.nil _ _, fun x hx => by simp at hx⟩
  · simp [Value.cells] at hcs
    obtain ⟨rfl, rfl, rfl⟩ := hcs
    simp only [if_true] at hz
    refine ⟨by unfold maxLen at hm; omega, zs.take len, by rw [List.length_take]; omega, fun j hj => ?_, fun x hx => wf_i64 (hwz x (List.mem_of_mem_take hx))⟩
    rw [List.length_take] at hj
    have c := hcell j (by omega)
    obtain ⟨b, off, spot⟩ := a
    have c0 := hcell 0 (by omega)
    have hspot : spot = none := by simpa [Addr.add] using World.cell?_spot c0
    subst hspot
    rw [add_plain] at c
    refine ⟨b, off, rfl, cell_lt c, ?_⟩
    rw [c]
    simp [List.getD, show j < len by omega]
end

end Go.Proofs.Ytkbkemcigcdoaaa
