/-
  Some texts of this proof in one: WzF WzG EgX. Each part tells what it proves. By an AI agent.
-/
import Derived.Test.YtjkfighooijblaaGreatWyT
import Derived.Test.YtjkfighooijblaaGreatAsA

/-
  The circuits that the program visits: the one that visits keeps the best. By an AI agent.
-/
namespace Go.Proofs.YtjkfighooijblaaGreat
open Go.RowKit

/-- All blocks that were there but two (among the first N) are as they were. -/
structure Chg2 (N a b : Nat) (w w' : World) : Prop where
  os : w'.os = w.os
  tape : w'.tape = w.tape
  output : w'.output = w.output
  size : w.heap.size ≤ w'.heap.size
  block : ∀ k, k < N → k ≠ a → k ≠ b → w'.heap[k]? = w.heap[k]?
theorem Chg2.refl (N a b : Nat) (w : World) : Chg2 N a b w w := ⟨rfl, rfl, rfl, Nat.le_refl _, fun _ _ _ _ => rfl⟩
theorem Chg2.trans {N a b : Nat} {u v w : World} (h : Chg2 N a b u v) (k : Chg2 N a b v w) : Chg2 N a b u w :=
  ⟨k.os.trans h.os, k.tape.trans h.tape, k.output.trans h.output, Nat.le_trans h.size k.size, fun i hi h1 h2 => (k.block i hi h1 h2).trans (h.block i hi h1 h2)⟩
theorem Chg2.of_below {N B a b : Nat} {w w' : World} (h : Below B w w') (hB : N ≤ B) : Chg2 N a b w w' := ⟨h.os, h.tape, h.output, h.size, fun k hk _ _ => h.block k (by omega)⟩
theorem Chg2.of_chg {N a b : Nat} {w w' : World} (h : Chg b w w') (hN : N ≤ w.heap.size) : Chg2 N a b w w' := ⟨h.os, h.tape, h.output, h.size, fun k hk _ h2 => h.block k (by omega) h2⟩
theorem Chg2.of_chg1 {N a b : Nat} {w w' : World} (h : Chg a w w') (hN : N ≤ w.heap.size) : Chg2 N a b w w' := ⟨h.os, h.tape, h.output, h.size, fun k hk h1 _ => h.block k (by omega) h1⟩
theorem Chg2.cell {N a b : Nat} {w w' : World} (h : Chg2 N a b w w') {p : Addr} {v : Value} (hN : p.block < N) (h1 : p.block ≠ a) (h2 : p.block ≠ b) (hc : w.cell? p = some v) : w'.cell? p = some v :=
  (World.cell?_of_block (w := w) (h.block p.block hN h1 h2)).trans hc
theorem Chg2.below {N a b B : Nat} {w w' : World} (h : Chg2 N a b w w') (hN : B ≤ N) (ha : B ≤ a) (hb : B ≤ b) : Below B w w' :=
  ⟨h.os, h.tape, h.output, h.size, fun k hk => h.block k (by omega) (by omega) (by omega)⟩

/-- The way and the best so far, each in a variable. -/
structure CirI (w : World) (B L T : Nat) (l b : List Int) (vl vb : Value) : Prop where
  sz : B ≤ w.heap.size
  ne : L ≠ T
  cl : Own w L 25 [vl]
  ct : Own w T 25 [vb]
  rl : RowI w B vl l
  rb : RowI w 0 vb b
  ap : ∀ q, vl.ownBlock = some q → vb.ownBlock ≠ some q
theorem CirI.below {w w' : World} {B L T : Nat} {l b : List Int} {vl vb : Value} (h : CirI w B L T l b vl vb) (hb : Below w.heap.size w w') : CirI w' B L T l b vl vb :=
  ⟨Nat.le_trans h.sz hb.size, h.ne, h.cl.belowAll hb, h.ct.belowAll hb, h.rl.below hb, h.rb.below hb, h.ap⟩
theorem CirI.kept {w w' : World} {B L T : Nat} {l b : List Int} {vl vb v' : Value} (h : CirI w B L T l b vl vb) (hb : Below w.heap.size w w') (hr : RowI w' w.heap.size v' l) : CirI (w'.setCell ⟨T, 0, none⟩ v') B L T l l vl v' := by
  have h2 := h.below hb
  refine ⟨?_, h.ne, h2.cl.setOther h.ne _, (h2.ct.set 0 v'), ownsRow_setCell_other h2.rl (row_ne_ty h2.rl h2.ct (by decide)) _, ownsRow_setCell_other (hr.low (Nat.zero_le _)) (row_ne_ty hr h2.ct (by decide)) _, fun q hq e => ?_⟩
  · have := h2.sz
    simp
    omega
  · have h3 := (World.ownsRow.lt h.rl q hq).2
    have h4 := (World.ownsRow.lt hr q e).1
    omega

end Go.Proofs.YtjkfighooijblaaGreat

/-
  The circuits that the program visits: the function that calls itself. By an AI agent.
-/
namespace Go.Proofs.YtjkfighooijblaaGreat
open Go.RowKit

theorem RowI.pre {w : World} {B g P N cap : Nat} {l : List Int} {k : Int} (h : RowI w B (.slice (some ⟨g, 0, none⟩) N cap) (l ++ [k])) (hP : l.length = P) (hN : P + 1 = N) : RowI w B (.slice (some ⟨g, 0, none⟩) P cap) l ∧ P ≤ cap := by
  subst hP; subst hN
  obtain ⟨h1, ⟨e, h0⟩ | ⟨g', cap', cur, e, hb, hg, hn, hm, hs, ht⟩⟩ := h
  · rw [List.length_append, List.length_singleton] at h0
    omega
  · rw [List.length_append, List.length_singleton] at e hn
    injection e with e1 e2 e3
    injection e1 with e1
    injection e1 with e1 _ _
    subst e1; subst e3
    refine ⟨⟨by simp [ints], .inr ⟨g, cap, cur, rfl, hb, hg, by omega, hm, hs, ?_⟩⟩, by omega⟩
    have h5 := congrArg (List.take l.length) ht
    rw [List.take_take, List.length_append, List.length_singleton, Nat.min_eq_left (by omega)] at h5
    rw [Nat.mul_one, h5, ← ints_append, List.take_left' (by rw [ints_length])]
theorem CirI.cutl {w : World} {B L T g P N cap : Nat} {l b : List Int} {k : Int} {vb : Value} (h : CirI w B L T (l ++ [k]) b (.slice (some ⟨g, 0, none⟩) N cap) vb) (hP : l.length = P) (hN : P + 1 = N) : CirI (w.setCell ⟨L, 0, none⟩ (.slice (some ⟨g, 0, none⟩) P cap)) B L T l b (.slice (some ⟨g, 0, none⟩) P cap) vb := by
  obtain ⟨h1, _⟩ := h.rl.pre hP hN
  refine ⟨?_, h.ne, h.cl.set 0 _, h.ct.setOther (a := ⟨L, 0, none⟩) (fun e => h.ne e.symm) _, ownsRow_setCell_other h1 (row_ne_ty h1 h.cl (by decide)) _, ownsRow_setCell_other h.rb (row_ne_ty h.rb h.cl (by decide)) _, fun q hq => h.ap q hq⟩
  have := h.sz
  simp
  omega
theorem CirI.push {w w2 : World} {B L T : Nat} {l b : List Int} {k : Int} {vl vb v2 : Value} {o : Obj} (h : CirI w B L T l b vl vb) (hr : RowI w2 B v2 (l ++ [k])) (hg : (w.alloc o).grownBy w2 vl.ownBlock) (ho : v2.ownBlock = vl.ownBlock ∨ v2.ownBlock = some (w.alloc o).heap.size) (hsz : (w.alloc o).heap.size ≤ w2.heap.size) :
    CirI (w2.setCell ⟨L, 0, none⟩ v2) B L T (l ++ [k]) b v2 vb := by
  have hl := (h.cl.alloc o).grown hg (row_ne_ty h.rl h.cl (by decide))
  have ht := (h.ct.alloc o).grown hg (row_ne_ty h.rl h.ct (by decide))
  have hb : RowI w2 0 vb b := (h.rb.alloc' (o := o)).of_block fun q hq => hg.block q (World.ownsRow.lt (h.rb.alloc' (o := o)) q hq).2 (fun e => h.ap q e.symm hq)
  refine ⟨?_, h.ne, hl.set 0 v2, ht.setOther (a := ⟨L, 0, none⟩) (fun e => h.ne e.symm) _, ownsRow_setCell_other hr (row_ne_ty hr hl (by decide)) _, ownsRow_setCell_other hb (row_ne_ty hb hl (by decide)) _, fun q hq e => ?_⟩
  · have := h.sz
    simp at hsz ⊢
    omega
  · rcases ho with ho | ho
    · exact h.ap q (by rw [← ho, hq]) e
    · have h3 := (World.ownsRow.lt h.rb q e).2
      rw [hq] at ho
      injection ho with ho
      simp at ho
      omega

def nexF (L Mb Vb Xb : Nat) : Value := .func (Fn.func 86) #[] #[.pointer (some ⟨L, 0, none⟩), .pointer (some ⟨Mb, 0, none⟩), .pointer (some ⟨Vb, 0, none⟩), .pointer (some ⟨Xb, 0, none⟩)]
/-- Where they lie. -/
structure CirL (w0 : World) (N0 Mb M2 Vb Xb L T : Nat) : Prop where
  l : w0.heap.size ≤ L
  t : w0.heap.size ≤ T
  n : w0.heap.size ≤ N0
  m1 : Mb < N0 ∧ Mb ≠ L ∧ Mb ≠ T
  m2 : M2 < N0 ∧ M2 ≠ L ∧ M2 ≠ T
  v : Vb < N0 ∧ Vb ≠ L ∧ Vb ≠ T
  x : Xb < N0 ∧ Xb ≠ L ∧ Xb ≠ T
theorem ext_none {n : Nat} {m : Nat → Nat → Int} {l : List Int} (h : Pth n m l) (hn : n ≤ l.length) {k : Nat} (hk : k < n) : exB m l k = false := by
  rw [Bool.eq_false_iff]
  intro e
  have h2 := exB_t.1 e
  have h3 := (h.ext hk h2.1 h2.2).len
  rw [List.length_append, List.length_singleton] at h3
  omega
theorem cir_all {n : Nat} {m : Nat → Nat → Int} {f : Nat} {l : List Int} (h : Pth n m l) (hf : n ≤ l.length + f) : cirF n m f l = ownC m l ++ cirT n m (f - 1) l (n - (vx l 0 + 1)) := by
  cases f with
  | succ f => exact cirF_succ n m f l
  | zero =>
    have h0 : ∀ j, vx l 0 + 1 + j ≤ n → cirT n m (0 - 1) l j = [] := by
      intro j
      induction j with
      | zero => intro _; rfl
      | succ j ih =>
        intro hj
        rw [cirT_succ, ih (by omega), ext_none h (by omega) (by omega)]
        rfl
    rw [h0 _ (by have := h.hd; omega), List.append_nil]
    rfl

end Go.Proofs.YtjkfighooijblaaGreat

/-
  The circuits that the program visits, whatever visits them: the function that calls itself. By an AI agent.
-/
namespace Go.Proofs.YtjkfighooijblaaGreat
open Go.RowKit

section
variable {σ τ : Type} (V : World → σ → τ → Prop) (fp : τ → Nat → Prop) (step : σ → List Int → σ)
/-- What visits circuits: its own state and where that lies. -/
structure VisC (fid : FuncId) (c1 c2 c3 c4 : Value) (n : Nat) (m : Nat → Nat → Int) (N0 : Nat) (B0 : Nat → Prop) (w1 : World) : Prop where
  hcf : ∀ (xa : Array Value) (w : World), (callFunc fid xa).run Tryz.prog w = .ok (.enter fid xa) w
  lt : ∀ {w s vb q}, V w s vb → fp vb q → q < w.heap.size
  loc : ∀ {w w' s vb}, V w s vb → (∀ q, fp vb q → w'.heap[q]? = w.heap[q]?) → V w' s vb
  call : ∀ w s vb l al cl, V w s vb → RowI w 0 (.slice al l.length cl) l → (∀ q, fp vb q → (Value.slice al l.length cl).ownBlock ≠ some q) → Pth n m l → m (laV l) (vx l 0) ≠ 1000000000 → FrP N0 B0 w1 w → Calls Tryz.prog fid #[.slice al l.length cl, c1, c2, c3, c4] w fun e w' => e = .returned (.tuple #[]) ∧ ∃ vb', V w' (step s l) vb' ∧ FrP w.heap.size (fp vb) w w' ∧ ∀ q, fp vb' q → fp vb q ∨ w.heap.size ≤ q
/-- The way and the visitor's state. -/
structure GoI (w : World) (N0 N1 L : Nat) (B0 : Nat → Prop) (l : List Int) (s : σ) (vl : Value) (vb : τ) : Prop where
  sz : N1 ≤ w.heap.size
  cl : Own w L 25 [vl]
  rl : RowI w N1 vl l
  v : V w s vb
  fpb : ∀ q, fp vb q → (q < N0 ∧ B0 q) ∨ N1 ≤ q
  fpl : ∀ q, fp vb q → vl.ownBlock ≠ some q
end
structure GoC (w1 w : World) (fid : FuncId) (c1 c2 c3 c4 : Value) (ad : Option Addr) (n cap N0 L Mb Vb Xb : Nat) (B0 : Nat → Prop) : Prop where
  m1 : w.cell? ⟨Mb, 0, none⟩ = some (.slice ad n cap)
  v : w.cell? ⟨Vb, 0, none⟩ = some (.func (Fn.func fid) #[] #[c1, c2, c3, c4])
  x : w.cell? ⟨Xb, 0, none⟩ = some (nexF L Mb Vb Xb)
  fr : FrP N0 B0 w1 w
structure GoL (N0 N1 L Mb Vb Xb : Nat) : Prop where
  n : N0 ≤ N1
  l : N0 ≤ L ∧ L < N1
  m1 : N0 ≤ Mb ∧ Mb < N1 ∧ Mb ≠ L
  v : N0 ≤ Vb ∧ Vb < N1 ∧ Vb ≠ L
  x : N0 ≤ Xb ∧ Xb < N1 ∧ Xb ≠ L
def GP (N0 L : Nat) (B0 : Nat → Prop) (q : Nat) : Prop := (q < N0 ∧ B0 q) ∨ q = L
theorem GoC.chg {w1 w w' : World} {fid : FuncId} {c1 c2 c3 c4 : Value} {ad : Option Addr} {n cap N0 N1 L Mb Vb Xb : Nat} {B0 : Nat → Prop} (h : GoC w1 w fid c1 c2 c3 c4 ad n cap N0 L Mb Vb Xb B0) (hl : GoL N0 N1 L Mb Vb Xb) (hc : FrP N1 (GP N0 L B0) w w') : GoC w1 w' fid c1 c2 c3 c4 ad n cap N0 L Mb Vb Xb B0 := by
  have hx : ∀ X, N0 ≤ X → X ≠ L → ¬ GP N0 L B0 X := fun X h1 h2 h4 => by
    rcases h4 with ⟨h4, _⟩ | h4 <;> omega
  exact ⟨hc.cell hl.m1.2.1 (hx _ hl.m1.1 hl.m1.2.2) h.m1, hc.cell hl.v.2.1 (hx _ hl.v.1 hl.v.2.2) h.v, hc.cell hl.x.2.1 (hx _ hl.x.1 hl.x.2.2) h.x,
    h.fr.trans (hc.mono hl.n (fun q hq e => by
      have := hl.l
      rcases e with ⟨_, e⟩ | e
      · exact e
      · omega))⟩
section
variable {σ τ : Type} {V : World → σ → τ → Prop} {fp : τ → Nat → Prop} {step : σ → List Int → σ} {fid : FuncId} {c1 c2 c3 c4 : Value} {w1 : World} {n N0 N1 L Mb Vb Xb : Nat} {B0 : Nat → Prop} {m : Nat → Nat → Int}
theorem GoI.fpn {w : World} {l : List Int} {s : σ} {vl : Value} {vb : τ} (h : GoI V fp w N0 N1 L B0 l s vl vb) (hl : GoL N0 N1 L Mb Vb Xb) {q : Nat} (hq : fp vb q) : q ≠ L := by
  have := hl.l
  rcases h.fpb q hq with ⟨h1, _⟩ | h1 <;> omega
theorem GoI.below (hV : ∀ {w w' : World} {s : σ} {vb : τ}, V w s vb → (∀ q, fp vb q → w'.heap[q]? = w.heap[q]?) → V w' s vb) (hlt : ∀ {w : World} {s : σ} {vb : τ} {q : Nat}, V w s vb → fp vb q → q < w.heap.size) {w w' : World} {l : List Int} {s : σ} {vl : Value} {vb : τ} (h : GoI V fp w N0 N1 L B0 l s vl vb) (hb : Below w.heap.size w w') : GoI V fp w' N0 N1 L B0 l s vl vb :=
  ⟨Nat.le_trans h.sz hb.size, h.cl.belowAll hb, h.rl.below hb, hV h.v (fun q hq => hb.block q (hlt h.v hq)), h.fpb, h.fpl⟩
/-- visited. -/
theorem GoI.vis {w w' : World} {l : List Int} {s s' : σ} {vl : Value} {vb vb' : τ} (h : GoI V fp w N0 N1 L B0 l s vl vb) (hl : GoL N0 N1 L Mb Vb Xb) (hv : V w' s' vb') (hf : FrP w.heap.size (fp vb) w w') (hn : ∀ q, fp vb' q → fp vb q ∨ w.heap.size ≤ q) : GoI V fp w' N0 N1 L B0 l s' vl vb' := by
  have h1 := fun q (hq : fp vb q) => h.fpn hl hq
  refine ⟨Nat.le_trans h.sz hf.size, h.cl.of_block (hf.block L h.cl.lt (fun e => (h1 L e) rfl)), h.rl.of_blk (fun q hq => hf.block q (World.ownsRow.lt h.rl q hq).2 (fun e => h.fpl q e hq)), hv, fun q hq => ?_, fun q hq e => ?_⟩
  · rcases hn q hq with h2 | h2
    · exact h.fpb q h2
    · exact Or.inr (Nat.le_trans h.sz h2)
  · rcases hn q hq with h2 | h2
    · exact h.fpl q h2 e
    · have := (World.ownsRow.lt h.rl q e).2
      omega
/-- one more. -/
theorem GoI.push (hV : ∀ {w w' : World} {s : σ} {vb : τ}, V w s vb → (∀ q, fp vb q → w'.heap[q]? = w.heap[q]?) → V w' s vb) (hlt : ∀ {w : World} {s : σ} {vb : τ} {q : Nat}, V w s vb → fp vb q → q < w.heap.size) {w w2 : World} {l : List Int} {s : σ} {vl v2 : Value} {vb : τ} {k : Nat} {o : Obj} (h : GoI V fp w N0 N1 L B0 l s vl vb) (hl : GoL N0 N1 L Mb Vb Xb)
    (hr : RowI w2 N1 v2 (l ++ [(k : Int)])) (hg : (w.alloc o).grownBy w2 vl.ownBlock) (ho : v2.ownBlock = vl.ownBlock ∨ v2.ownBlock = some (w.alloc o).heap.size) (hsz : (w.alloc o).heap.size ≤ w2.heap.size) :
    GoI V fp (w2.setCell ⟨L, 0, none⟩ v2) N0 N1 L B0 (l ++ [(k : Int)]) s v2 vb := by
  have c1 := h.cl.alloc o
  have r1 : RowI (w.alloc o) N1 vl l := h.rl.alloc'
  have c2 := c1.grown hg (row_ne_ty r1 c1 (by decide))
  refine ⟨?_, c2.set 0 v2, ownsRow_setCell_other hr (row_ne_ty hr c2 (by decide)) _, hV h.v (fun q hq => ?_), h.fpb, fun q hq e => ?_⟩
  · have := h.sz
    simp at hsz ⊢
    omega
  · have h1 := h.fpn hl hq
    have h2 := hlt h.v hq
    rw [Deep.blk_setCell_other _ _ _ _ h1, hg.block q (by simp; omega) (fun e => h.fpl q hq e.symm), Deep.blk_alloc_lt _ _ _ (by omega)]
  · rcases ho with ho | ho
    · exact h.fpl q hq (by rw [← ho, e])
    · have h2 := hlt h.v hq
      rw [e] at ho
      injection ho with ho
      simp at ho
      omega
/-- one less. -/
theorem GoI.pop (hV : ∀ {w w' : World} {s : σ} {vb : τ}, V w s vb → (∀ q, fp vb q → w'.heap[q]? = w.heap[q]?) → V w' s vb) {w : World} {l : List Int} {s : σ} {vb : τ} {k : Int} {g P N cap : Nat} (h : GoI V fp w N0 N1 L B0 (l ++ [k]) s (.slice (some ⟨g, 0, none⟩) N cap) vb) (hl : GoL N0 N1 L Mb Vb Xb) (hP : l.length = P) (hN : P + 1 = N) :
    GoI V fp (w.setCell ⟨L, 0, none⟩ (.slice (some ⟨g, 0, none⟩) P cap)) N0 N1 L B0 l s (.slice (some ⟨g, 0, none⟩) P cap) vb := by
  obtain ⟨r1, _⟩ := h.rl.preA hP hN
  refine ⟨?_, h.cl.set 0 _, ownsRow_setCell_other r1 (row_ne_ty r1 h.cl (by decide)) _, hV h.v (fun q hq => ?_), h.fpb, fun q hq => h.fpl q hq⟩
  · have := h.sz
    simp
    omega
  · exact Deep.blk_setCell_other _ _ _ _ (h.fpn hl hq)

set_option maxHeartbeats 6400000 in
set_option maxRecDepth 100000 in
theorem nextV_c (ad : Option Addr) (cap : Nat) (w0 : World) (hm : RdM w0 ad (toM n m)) (hn : 1 ≤ n ∧ n ≤ 6) (hB0 : ∀ q, B0 q → w0.heap.size ≤ q) (hw0 : w0.heap.size ≤ N0) (hb01 : Below w0.heap.size w0 w1) (hH : VisC V fp step fid c1 c2 c3 c4 n m N0 B0 w1) (hL : GoL N0 N1 L Mb Vb Xb) :
    ∀ (f : Nat) (l : List Int) (b : σ) (vl : Value) (vb : τ) (w : World), Pth n m l → n ≤ l.length + f → GoI V fp w N0 N1 L B0 l b vl vb → GoC w1 w fid c1 c2 c3 c4 ad n cap N0 L Mb Vb Xb B0 →
    Calls Tryz.prog 86 #[.pointer (some ⟨L, 0, none⟩), .pointer (some ⟨Mb, 0, none⟩), .pointer (some ⟨Vb, 0, none⟩), .pointer (some ⟨Xb, 0, none⟩)] w fun e w' => e = .returned (.tuple #[]) ∧ (∃ vl' vb', GoI V fp w' N0 N1 L B0 l ((cirF n m f l).foldl step b) vl' vb') ∧ FrP N1 (GP N0 L B0) w w' := by
  intro f
  induction f using Nat.strongRecOn with
  | _ f ih =>
  intro l b vl vb w hp hf hi hc
  have hcf := hH.hcf
  have HIH := Lib.hid ih; clear ih
  rw [cir_all hp hf, List.foldl_append]
  have HP := Lib.hid hp; have HC := Lib.hid hc; have HI := Lib.hid hi; have HM := Lib.hid hm; have HL := Lib.hid hL; have HH0 := Lib.hid hH
  have HBL := Lib.hid (fun (u : World) (h : GoC w1 u fid c1 c2 c3 c4 ad n cap N0 L Mb Vb Xb B0) => show Below w0.heap.size w0 u from hb01.trans (h.fr.below hw0 (fun q hq e => by have := hB0 q e; omega)))
  obtain ⟨al, cl, rfl, hrl⟩ := hi.rl.shape
  have CV := Lib.hid (fun (u : World) (hb : Below w.heap.size w u) (hcu : GoC w1 u fid c1 c2 c3 c4 ad n cap N0 L Mb Vb Xb B0) (hsh : m (laV l) (vx l 0) ≠ 1000000000) => hH.call u b vb l al cl (hH.loc hi.v (fun q hq => hb.block q (hH.lt hi.v hq))) ((hi.rl.below hb).low (Nat.zero_le _)) (fun q hq => hi.fpl q hq) hp hsh hcu.fr)
  have HRL := Lib.hid hrl
  have hla := hp.la; have hhd := hp.hd; have hpos := hp.pos; have hlen := hp.len
  obtain ⟨v1, _⟩ := vt_at hp.vt (t := l.length - 1) (by omega)
  obtain ⟨v2, _⟩ := vt_at hp.vt (t := 0) (by omega)
  obtain ⟨bp, op, rfl, hbp, q1⟩ := hrl (l.length - 1) (by omega)
  have q2 := hrl.at (j := 0) (by omega)
  rw [v1] at q1
  rw [v2] at q2
  rw [Nat.add_zero] at q2
  have q1 : w.cell? ⟨bp, op + (l.length - 1), none⟩ = some (.int .i64 (laV l : Int)) := q1
  obtain ⟨bM, oM, rfl, hbM, hrow⟩ := hm.rowF (by omega)
  obtain ⟨b2, o2, cc2, e2, hl2, hc2⟩ := hrow _ hla
  have HR2 := Lib.hid hc2
  have k1 := bcell (HBL.out w hc) hl2 (hc2 _ hhd)
  have e2' := bcell (HBL.out w hc) hbM e2
  have hOW := Lib.hid (show (ownC m l).foldl step b = if (m (laV l) (vx l 0) != 1000000000) = true then step b l else b by
    unfold ownC
    by_cases e : m (laV l) (vx l 0) = 1000000000
    · rw [if_pos e, e]; rfl
    · rw [if_neg e, if_pos (bne_iff_ne.2 e)]; rfl)
  obtain ⟨b1, hb1⟩ : ∃ b1, (ownC m l).foldl step b = b1 := ⟨_, rfl⟩
  rw [hb1] at hOW ⊢
  have hOW := Lib.hid hOW.out
  obtain ⟨nb, hnb⟩ : ∃ nb, (m (laV l) (vx l 0) != 1000000000) = nb := ⟨_, rfl⟩
  rw [hnb] at hOW
  have HNV := Lib.hid (fun (e : nb = true) => bne_iff_ne.1 (hnb.trans e))
  have HNB := Lib.hid hnb
  have kL := hi.cl.cell? (i := 0) rfl
  have kM := hc.m1
  have kV := hc.v
  obtain ⟨P, hPl⟩ : ∃ P, l.length = P := ⟨_, rfl⟩
  have HPL := Lib.hid hPl
  rw [hPl] at q1 kL hpos hlen hf CV HI
  obtain ⟨Q, hQ⟩ : ∃ Q, P - 1 = Q := ⟨_, rfl⟩
  rw [hQ] at q1
  have eQ : IntKind.i64.wrap ((P : Int) - 1) = (Q : Int) := by rw [i64_small (by omega) (by omega)]; omega
  have y1 : (0 : Int) ≤ (Q : Int) := by omega
  have y2 : (Q : Int) < (P : Int) := by omega
  have y3 : 0 < P := hpos
  have hvx : vx l 0 < n := hhd
  obtain ⟨A, hA⟩ : ∃ A, laV l = A := ⟨_, rfl⟩
  obtain ⟨H, hHx⟩ : ∃ H, vx l 0 = H := ⟨_, rfl⟩
  have HA := Lib.hid hA; have HH := Lib.hid hHx
  rw [hA] at q1 k1 e2 e2' hla HR2 HNB
  rw [hHx] at q2 k1 hhd HNB ⊢
  have y5 : (0 : Int) ≤ (A : Int) := by omega
  have y6 : (A : Int) < (n : Int) := by omega
  have y7 : (0 : Int) ≤ (H : Int) := by omega
  have y8 : (H : Int) < (n : Int) := by omega
  clear hm hp hi hc hrl hrow hc2 hb1 hPl hA hHx hH hnb v1 v2 hpos hL hQ hvx hb01 hB0
  obtain ⟨C0, hC0⟩ : ∃ C0, m A H = C0 := ⟨_, rfl⟩
  rw [hC0] at k1 HNB
  clear hC0
  go_enter Tryz.func86, Tryz.ntmps86
  go_wp2_with fail
  go_cut [21] from 12 to 21 (fun s wc => s = .bool nb ∧ Below w.heap.size w wc)
  case first =>
    have HN2 := Lib.hid HNB.out
    clear HNB
    go_quiet (fail)
    go_wp2_with fail
    go_meet
    exact ⟨by rw [← HN2.out], bdrewN (Below.refl _ _) _⟩
  case rest =>
    obtain ⟨rfl, hbc⟩ := hcut
    obtain ⟨w1x, rfl⟩ : ∃ x : World, x = wc := ⟨_, rfl⟩
    have HC1 := Lib.hid (HC.out.chg HL.out (FrP.of_below hbc HI.out.sz))
    have HI1 := Lib.hid (GoI.below (V := V) (fp := fp) (fun h1 h2 => HH0.out.loc h1 h2) (fun h1 h2 => HH0.out.lt h1 h2) HI.out hbc)
    have kL1 := bcell' hbc kL
    have kV1 := HC1.out.v
    have HCH1 := Lib.hid (show FrP N1 (GP N0 L B0) w w1x from FrP.of_below hbc HI.out.sz)
    clear kL k1 e2' q1 q2 kM kV HNB
    go_upto_if 21 with fail
    go_cut [] from 22 to 24 (fun wd => ∃ vb1, GoI V fp wd N0 N1 L B0 l b1 (.slice (some ⟨bp, op, none⟩) P cl) vb1 ∧ FrP N1 (GP N0 L B0) w wd)
    case first =>
      cases nb
      · go_wp2_with fail
        go_meet
        exact ⟨vb, by rw [hOW.out]; exact HI1.out, HCH1.out⟩
      · go_wp2_with fail
        refine (CV.out w1x hbc HC1.out (HNV.out (by first | rfl | trivial))).mono ?_
        rintro e w2 ⟨rfl, vb', hv, hfr, hfp⟩
        have HCI := Lib.hid (HI1.out.vis HL.out hv hfr hfp); have HCH := Lib.hid (show FrP N1 (GP N0 L B0) w1x w2 from hfr.mono HI1.out.sz (fun q hq e => by
          rcases HI1.out.fpb q e with h | h
          · exact Or.inl h
          · omega))
        clear hv hfr hfp kV1 kL1
        go_wp2_with fail
        go_meet
        exact ⟨vb', by rw [hOW.out]; exact HCI.out, HCH1.out.trans HCH.out⟩
    case rest =>
      obtain ⟨vb1, hi2, hch2⟩ := hcut
      obtain ⟨w2, rfl⟩ : ∃ x : World, x = wc := ⟨_, rfl⟩
      obtain ⟨ax, cx, ex, hrx⟩ := hi2.rl.shape
      rw [HPL.out] at ex
      injection ex with ex1 _ ex3
      subst ex1
      have q2 := hrx.at (j := 0) (by rw [HPL.out]; omega)
      rw [(vt_at HP.out.vt (t := 0) (by rw [HPL.out]; omega)).1, HH.out, Nat.add_zero] at q2
      have kL2 := hi2.cl.cell? (i := 0) rfl
      have HI2 := Lib.hid hi2; have HCH2 := Lib.hid hch2
      clear ex3 hrx hi2 hch2 HI1 HC1 HCH1 kL1 kV1 CV hbc hOW
      have eH : IntKind.i64.wrap ((H : Int) + 1) = ((H + 1 : Nat) : Int) := by rw [i64_small (by omega) (by omega)]; omega
      go_wp2_with fail
      go_loopw [5] (fun v wr => ∃ k : Nat, H + 1 ≤ k ∧ k ≤ n ∧ v = .int .i64 k ∧ (∃ vl' vb', GoI V fp wr N0 N1 L B0 l ((cirT n m (f - 1) l (k - (H + 1))).foldl step b1) vl' vb') ∧ FrP N1 (GP N0 L B0) w wr) (fun v _ => n - (intOf v).toNat)
      case atStart => exact ⟨H + 1, Nat.le_refl _, by omega, rfl, ⟨_, vb1, by rw [Nat.sub_self]; exact HI2.out⟩, HCH2.out⟩
      case round =>
        obtain ⟨wE, rfl⟩ : ∃ x : World, x = wr := ⟨_, rfl⟩
        obtain ⟨k, hk1, hk, rfl, ⟨vl', vb', hi⟩, hch⟩ := hrel
        obtain ⟨aE, cE, rfl, hrE⟩ := hi.rl.shape
        have kLE := hi.cl.cell? (i := 0) rfl
        rw [HPL.out] at hi kLE
        have HCE := Lib.hid (HC.out.chg HL.out hch)
        have kME := HCE.out.m1
        have HIE := Lib.hid hi; have HCHE := Lib.hid hch; have HRE := Lib.hid hrE
        clear hi hch hrE q2 kL2 HI2 HCH2 eH
        by_cases hlt : k < n
        case neg =>
          obtain rfl : k = n := by omega
          go_wp2_with fail
          go_end0
          exact ⟨rfl, ⟨_, vb', HIE.out⟩, HCHE.out⟩
        case pos =>
          have HSU := Lib.hid (show cirT n m (f - 1) l (k + 1 - (H + 1)) = cirT n m (f - 1) l (k - (H + 1)) ++ (if exB m l k = true then cirF n m (f - 1) (l ++ [(k : Int)]) else []) by
            have h1 := cirT_succ n m (f - 1) l (k - (H + 1))
            rw [HH.out, show H + 1 + (k - (H + 1)) = k by omega] at h1
            rw [show k + 1 - (H + 1) = k - (H + 1) + 1 by omega]
            exact h1)
          have e3 := bcell (HBL.out _ HCE.out) hbM e2
          have k3 := bcell (HBL.out _ HCE.out) hl2 (HR2.out k hlt)
          have x1 : (0 : Int) ≤ (k : Int) := by omega
          have x2 : (k : Int) < (n : Int) := by omega
          generalize (cirT n m (f - 1) l (k - (H + 1))) = TT at HIE HSU
          have HEX := Lib.hid (show exB m l k = (!decide (m A k = 1000000000) && !decide ((k : Int) ∈ l)) by unfold exB; rw [HA.out]; simp)
          by_cases hC : m A k = 1000000000
          · rw [hC] at k3
            have HNO := Lib.hid (show exB m l k = false by rw [HEX.out, hC]; rfl)
            clear hC HEX
            go_wp2_with fail
            go_roundw
            case rel => exact ⟨k + 1, by omega, by omega, by go_num, ⟨_, vb', by rw [HSU.out, HNO.out]; simpa using HIE.out⟩, HCHE.out⟩
            case measure => simp [intOf]; omega
          · have g1 : (m A k != 1000000000) = true := bne_iff_ne.2 hC
            have CON := Lib.hid (containsW aE cE l (k : Int) wE (by rw [HPL.out]; omega) HRE.out)
            rw [HPL.out] at CON
            by_cases hin : (k : Int) ∈ l
            · rw [decide_eq_true hin] at CON
              have HNO := Lib.hid (show exB m l k = false by rw [HEX.out, decide_eq_true hin]; simp)
              clear hC HEX hin
              generalize m A k = CC at k3 g1
              go_wp2_with fail
              refine CON.out.mono ?_
              rintro e w3 ⟨rfl, rfl⟩
              go_wp2_with fail
              go_roundw
              case rel => exact ⟨k + 1, by omega, by omega, by go_num, ⟨_, vb', by rw [HSU.out, HNO.out]; simpa using HIE.out⟩, HCHE.out⟩
              case measure => simp [intOf]; omega
            · rw [decide_eq_false hin] at CON
              have HYES := Lib.hid (show exB m l k = true by rw [HEX.out, decide_eq_false hin, decide_eq_false hC]; rfl)
              have hPX := HP.out.ext hlt (by rw [HA.out]; exact hC) hin
              have hplen := hPX.len
              rw [List.length_append, List.length_singleton, HPL.out] at hplen
              have HPX := Lib.hid hPX
              clear hC HEX hin hPX
              generalize m A k = CC at k3 g1
              go_wp2_with fail
              refine CON.out.mono ?_
              rintro e w3 ⟨rfl, rfl⟩
              have hszE := HIE.out.sz
              have hfp : 0 < f := by omega
              have hP6 : P + 1 ≤ 6 := by omega
              obtain ⟨NL, hNL⟩ : ∃ NL, P + 1 = NL := ⟨_, rfl⟩
              have HNL := Lib.hid (show (l ++ [(k : Int)]).length = NL by rw [List.length_append, HPL.out]; exact hNL)
              have HN1 := Lib.hid hNL
              have hrl := HIE.out.rl
              have eN : IntKind.i64.wrap ((NL : Int) - 1) = (P : Int) := by rw [i64_small (by omega) (by omega)]; omega
              have IHC := Lib.hid (fun u v5 (h1 : GoI V fp u N0 N1 L B0 (l ++ [(k : Int)]) (TT.foldl step b1) v5 vb') (h2 : GoC w1 u fid c1 c2 c3 c4 (some ⟨bM, oM, none⟩) n cap N0 L Mb Vb Xb B0) => HIH.out (f - 1) (by omega) (l ++ [(k : Int)]) _ v5 vb' u HPX.out (by rw [HNL.out]; omega) h1 h2)
              have HRL2 := Lib.hid hrl
              have hwl : L < wE.heap.size := HIE.out.cl.lt
              have hN0 : 0 < NL := by omega
              clear e3 k3 hrl hNL kME CON
              have HPU := Lib.hid (show ∀ (wm : World) (v5 : Value), RowI wm N1 v5 (l ++ [(k : Int)]) → (wE.alloc (.cells #[.int .i64 (k : Int)] 3)).grownBy wm (Value.slice aE P cE).ownBlock → (v5.ownBlock = (Value.slice aE P cE).ownBlock ∨ v5.ownBlock = some (wE.alloc (.cells #[.int .i64 (k : Int)] 3)).heap.size) → (wE.alloc (.cells #[.int .i64 (k : Int)] 3)).heap.size ≤ wm.heap.size → GoI V fp (wm.setCell ⟨L, 0, none⟩ v5) N0 N1 L B0 (l ++ [(k : Int)]) (TT.foldl step b1) v5 vb' from fun wm v5 g1 g2 g3 g4 => GoI.push (V := V) (fp := fp) (fun h1 h2 => HH0.out.loc h1 h2) (fun h1 h2 => HH0.out.lt h1 h2) HIE.out HL.out g1 g2 g3 g4)
              have HFB := Lib.hid (show ∀ (wm : World), Below N1 (wE.alloc (.cells #[.int .i64 (k : Int)] 3)) wm → (wE.alloc (.cells #[.int .i64 (k : Int)] 3)).grownBy wm (Value.slice aE P cE).ownBlock → ∀ g5 cap5, FrP N1 (GP N0 L B0) w (wm.setCell ⟨L, 0, none⟩ (.slice (some ⟨g5, 0, none⟩) NL cap5)) from fun wm hbm hgr g5 cap5 => by
                have h2 : FrP N1 (GP N0 L B0) wE (wE.alloc (.cells #[.int .i64 (k : Int)] 3)) := FrP.of_below (Below.alloc (Below.refl N1 _) (by omega) _) (Nat.le_refl _)
                have h3 : FrP N1 (GP N0 L B0) wm (wm.setCell ⟨L, 0, none⟩ (.slice (some ⟨g5, 0, none⟩) NL cap5)) := FrP.of_chg (Chg.set L 0 wm _) (by have := hbm.size; simp at this; omega) (Or.inr rfl)
                exact ((HCHE.out.trans h2).trans (FrP.of_below hbm (Nat.le_refl _))).trans h3)
              have HLA := Lib.hid (HIE.out.cl.alloc (.cells #[.int .i64 (k : Int)] 3))
              have HNE := Lib.hid (row_ne_ty HRL2.out HIE.out.cl (by decide))
              go_wp2_with (at_builtin; refine wpList_appB rfl _ _ rfl N1 _ 0 1 _ l [(k : Int)] NL (by rw [HPL.out]; exact HN1.out) rfl rfl (RowI.alloc' HRL2.out) (rdI_one _ _ _ (by simp)) (by rw [HPL.out]; omega) (by simp) (by simp; omega) ?_; intro v5 wm hown hsh hbm hgr hob; obtain ⟨g5, cap5, rfl, _⟩ := hsh (by omega); have hLm := HLA.out.grown hgr HNE.out; have kLm := hLm.cell? (i := 0) rfl; have fLm := hLm.frozen 0; have HP5 := Lib.hid (HPU.out wm _ hown hgr hob hbm.size); have HCX5 := Lib.hid (HFB.out wm hbm hgr g5 cap5); have HC5 := Lib.hid (HC.out.chg HL.out HCX5.out); have kX5 := HC5.out.x; unfold nexF at kX5; clear hown hsh hgr hob hLm kLE)
              refine (IHC.out _ _ HP5.out HC5.out).mono ?_
              rintro e w6 ⟨rfl, ⟨vl6, vb6, hi6⟩, hch6⟩
              obtain ⟨g6, cap6, rfl, _⟩ := hi6.rl.shpA (by rw [HNL.out]; omega)
              rw [HNL.out] at hi6
              have kL6 := hi6.cl.cell? (i := 0) rfl
              have fL6 := hi6.cl.frozen 0
              have hcp6 := (hi6.rl.preA HPL.out HN1.out).2
              have HI6 := Lib.hid (GoI.pop (V := V) (fp := fp) (fun h1 h2 => HH0.out.loc h1 h2) hi6 HL.out HPL.out HN1.out)
              have HCH7 := Lib.hid ((HCX5.out.trans hch6).trans (FrP.of_chg (Chg.set L 0 w6 (.slice (some ⟨g6, 0, none⟩) P cap6)) hi6.sz (Or.inr rfl)))
              have z1 : (0 : Int) ≤ (P : Int) := by omega
              have z2 : (P : Int) ≤ (cap6 : Int) := by omega
              clear kX5 kLm fLm hi6 hch6 HP5 HC5 HCX5 IHC hbm
              go_wp2_with fail
              go_roundw
              case rel => exact ⟨k + 1, by omega, by omega, by go_num, ⟨_, vb6, by rw [HSU.out, HYES.out, if_pos rfl, List.foldl_append]; exact HI6.out⟩, HCH7.out⟩
              case measure => simp [intOf]; omega
end
end Go.Proofs.YtjkfighooijblaaGreat
