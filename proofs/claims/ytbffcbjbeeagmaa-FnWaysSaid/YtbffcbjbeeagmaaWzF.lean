/-
  The circuits that the program visits: the one that visits keeps the best. By an AI agent.
-/
import Derived.Test.YtbffcbjbeeagmaaWzE
namespace Go.Proofs.Ytbffcbjbeeagmaa
open Go.RowKit

/-- All blocks that were there but two (among the first N) are as they were. -/
structure Chg2 (N a b : Nat) (w w' : World) : Prop where
  os : w'.os = w.os
  tape : w'.tape = w.tape
  output : w'.output = w.output
  size : w.heap.size ≤ w'.heap.size
  block : ∀ k, k < N → k ≠ a → k ≠ b → w'.heap[k]? = w.heap[k]?
theorem Chg2.refl (N a b : Nat) (w : World) : Chg2 N a b w w := ⟨rfl, rfl, rfl, Nat.le_refl _, fun _ _ _ _ => rfl⟩
theorem Chg2.trans {N a b : Nat} {u v w : World} (h : Chg2 N a b u v) (k : Chg2 N a b v w) : Chg2 N a b u w :=
  ⟨k.os.trans h.os, k.tape.trans h.tape, k.output.trans h.output, Nat.le_trans h.size k.size, fun i hi h1 h2 => (k.block i hi h1 h2).trans (h.block i hi h1 h2)⟩
theorem Chg2.of_below {N B a b : Nat} {w w' : World} (h : Below B w w') (hB : N ≤ B) : Chg2 N a b w w' := ⟨h.os, h.tape, h.output, h.size, fun k hk _ _ => h.block k (by omega)⟩
theorem Chg2.of_chg {N a b : Nat} {w w' : World} (h : Chg b w w') (hN : N ≤ w.heap.size) : Chg2 N a b w w' := ⟨h.os, h.tape, h.output, h.size, fun k hk _ h2 => h.block k (by omega) h2⟩
theorem Chg2.of_chg1 {N a b : Nat} {w w' : World} (h : Chg a w w') (hN : N ≤ w.heap.size) : Chg2 N a b w w' := ⟨h.os, h.tape, h.output, h.size, fun k hk h1 _ => h.block k (by omega) h1⟩
theorem Chg2.cell {N a b : Nat} {w w' : World} (h : Chg2 N a b w w') {p : Addr} {v : Value} (hN : p.block < N) (h1 : p.block ≠ a) (h2 : p.block ≠ b) (hc : w.cell? p = some v) : w'.cell? p = some v :=
  (World.cell?_of_block (w := w) (h.block p.block hN h1 h2)).trans hc
theorem Chg2.below {N a b B : Nat} {w w' : World} (h : Chg2 N a b w w') (hN : B ≤ N) (ha : B ≤ a) (hb : B ≤ b) : Below B w w' :=
  ⟨h.os, h.tape, h.output, h.size, fun k hk => h.block k (by omega) (by omega) (by omega)⟩

/-- The way and the best so far, each in a variable. -/
structure CirI (w : World) (B L T : Nat) (l b : List Int) (vl vb : Value) : Prop where
  sz : B ≤ w.heap.size
  ne : L ≠ T
  cl : Own w L 29 [vl]
  ct : Own w T 29 [vb]
  rl : RowI w B vl l
  rb : RowI w 0 vb b
  ap : ∀ q, vl.ownBlock = some q → vb.ownBlock ≠ some q
theorem CirI.below {w w' : World} {B L T : Nat} {l b : List Int} {vl vb : Value} (h : CirI w B L T l b vl vb) (hb : Below w.heap.size w w') : CirI w' B L T l b vl vb :=
  ⟨Nat.le_trans h.sz hb.size, h.ne, h.cl.belowAll hb, h.ct.belowAll hb, h.rl.below hb, h.rb.below hb, h.ap⟩
theorem CirI.kept {w w' : World} {B L T : Nat} {l b : List Int} {vl vb v' : Value} (h : CirI w B L T l b vl vb) (hb : Below w.heap.size w w') (hr : RowI w' w.heap.size v' l) : CirI (w'.setCell ⟨T, 0, none⟩ v') B L T l l vl v' := by
  have h2 := h.below hb
  refine ⟨?_, h.ne, h2.cl.setOther h.ne _, (h2.ct.set 0 v'), ownsRow_setCell_other h2.rl (row_ne_ty h2.rl h2.ct (by decide)) _, ownsRow_setCell_other (hr.low (Nat.zero_le _)) (row_ne_ty hr h2.ct (by decide)) _, fun q hq e => ?_⟩
  · have := h2.sz
    simp
    omega
  · have h3 := (World.ownsRow.lt h.rl q hq).2
    have h4 := (World.ownsRow.lt hr q e).1
    omega

set_option maxHeartbeats 1600000 in
set_option maxRecDepth 100000 in
theorem visit_c (n : Nat) (ad : Option Addr) (cap : Nat) (m : Nat → Nat → Int) (Mb B L T : Nat) (l b : List Int) (vl vb : Value) (w : World) (hm : RdM w ad (toM n m)) (hc : w.cell? ⟨Mb, 0, none⟩ = some (.slice ad n cap)) (hi : CirI w B L T l b vl vb) (hn : 1 ≤ n ∧ n ≤ 6) (hp : Pth n m l) (hnum : ∀ a b, a < n → b < n → numB (m a b) = true) :
    Calls Try.prog 55 #[vl, .pointer (some ⟨Mb, 0, none⟩), .pointer (some ⟨T, 0, none⟩)] w fun e w' => e = .returned (.tuple #[]) ∧ (∃ vb', CirI w' B L T l (pkC m b l) vl vb') ∧ Chg T w w' := by
  obtain ⟨al, cl, rfl, hrl⟩ := hi.rl.shape
  obtain ⟨ab, cb, rfl, hrb⟩ := hi.rb.shape
  have C1 := Lib.hid (costOfCircuit_c n ad cap m al cl l w hm hrl hn hp hnum)
  have C2 := Lib.hid (fun u (hb : Below w.heap.size w u) => cloneI_c al cl l u (hrl.below hb) (by have := hp.pos; omega) (by have := hp.len; omega))
  have HI := Lib.hid hi
  have kT := hi.ct.cell? (i := 0) rfl
  have HPK := Lib.hid (show pkC m b l = if (decide (cyC m l < 0) && (decide (b.length = 0) || decide (l.length < b.length))) = true then l else b from rfl)
  clear hm hrl hrb hp hnum hi
  generalize pkC m b l = R at HPK ⊢
  generalize cyC m l = X at C1 HPK
  obtain ⟨N, hN⟩ : ∃ N, l.length = N := ⟨_, rfl⟩
  obtain ⟨K, hK⟩ : ∃ K, b.length = K := ⟨_, rfl⟩
  rw [hN] at C1 C2 HPK HI ⊢
  rw [hK] at HPK HI kT
  have HN := Lib.hid hN; have HK := Lib.hid hK
  clear hN hK
  by_cases h1 : X < 0
  · have g1 : decide (X < 0) = true := decide_eq_true h1
    rw [g1, Bool.true_and] at HPK
    by_cases h2 : K = 0
    · subst h2
      rw [decide_eq_true rfl, Bool.true_or, if_pos rfl] at HPK
      obtain rfl := HPK.out
      clear HPK
      go_enter Try.func55, Try.ntmps55
      go_wp2_with fail
      refine C1.out.mono ?_
      rintro e w1 ⟨rfl, hb1⟩
      have kT1 := bcell' hb1 kT
      go_wp2_with fail
      refine (C2.out _ hb1).mono ?_
      rintro e w2 ⟨g, c2, rfl, hrow, _, hb2⟩
      have hb := ball hb1 hb2
      have HI2 := Lib.hid (HI.out.below hb)
      have kT2 := HI2.out.ct.cell? (i := 0) rfl
      have fT2 := HI2.out.ct.frozen 0
      have HF := Lib.hid (HI.out.kept hb (hrow.low hb1.size))
      have HC := Lib.hid ((Chg.of_below hb).trans (Chg.set T 0 w2 (.slice (some ⟨g, 0, none⟩) N c2)))
      clear hrow hb hb1 hb2 kT1
      go_wp2_with fail
      go_end0
      exact ⟨rfl, ⟨_, HF.out⟩, HC.out⟩
    · have g2 : ((K : Int) == 0) = false := beq_eq_false_iff_ne.2 (by omega)
      rw [decide_eq_false h2, Bool.false_or] at HPK
      by_cases h3 : N < K
      · have g3 : decide ((N : Int) < (K : Int)) = true := decide_eq_true (by omega)
        rw [decide_eq_true h3, if_pos rfl] at HPK
        obtain rfl := HPK.out
        clear HPK
        go_enter Try.func55, Try.ntmps55
        go_wp2_with fail
        refine C1.out.mono ?_
        rintro e w1 ⟨rfl, hb1⟩
        have kT1 := bcell' hb1 kT
        go_wp2_with fail
        refine (C2.out _ hb1).mono ?_
        rintro e w2 ⟨g, c2, rfl, hrow, _, hb2⟩
        have hb := ball hb1 hb2
        have HI2 := Lib.hid (HI.out.below hb)
        have kT2 := HI2.out.ct.cell? (i := 0) rfl
        have fT2 := HI2.out.ct.frozen 0
        have HF := Lib.hid (HI.out.kept hb (hrow.low hb1.size))
        have HC := Lib.hid ((Chg.of_below hb).trans (Chg.set T 0 w2 (.slice (some ⟨g, 0, none⟩) N c2)))
        clear hrow hb hb1 hb2 kT1
        go_wp2_with fail
        go_end0
        exact ⟨rfl, ⟨_, HF.out⟩, HC.out⟩
      · have g3 : decide ((N : Int) < (K : Int)) = false := decide_eq_false (by omega)
        rw [decide_eq_false h3, if_neg (by simp)] at HPK
        obtain rfl := HPK.out
        clear HPK C2
        go_enter Try.func55, Try.ntmps55
        go_wp2_with fail
        refine C1.out.mono ?_
        rintro e w1 ⟨rfl, hb1⟩
        have kT1 := bcell' hb1 kT
        have HF := Lib.hid (HI.out.below hb1)
        go_wp2_with fail
        go_end0
        exact ⟨rfl, ⟨_, HF.out⟩, Chg.of_below hb1⟩
  · have g1 : decide (X < 0) = false := decide_eq_false h1
    rw [g1, Bool.false_and, if_neg (by simp)] at HPK
    obtain rfl := HPK.out
    clear HPK C2
    go_enter Try.func55, Try.ntmps55
    go_wp2_with fail
    refine C1.out.mono ?_
    rintro e w1 ⟨rfl, hb1⟩
    have HF := Lib.hid (HI.out.below hb1)
    go_wp2_with fail
    go_end0
    exact ⟨rfl, ⟨_, HF.out⟩, Chg.of_below hb1⟩
end Go.Proofs.Ytbffcbjbeeagmaa
