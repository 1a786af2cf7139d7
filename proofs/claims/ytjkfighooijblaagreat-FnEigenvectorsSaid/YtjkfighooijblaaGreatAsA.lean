/-
  The program's permutations, whatever visits them: the function that calls itself. By an AI agent.
-/
import Derived.Test.YtjkfighooijblaaGreatAsP
import Derived.Test.YtjkfighooijblaaGreatWyF
import Derived.Laws.EntriesVeiled
namespace Go.Proofs.YtjkfighooijblaaGreat
open Go.RowKit

/-- All blocks below N, but those that P allows, are as they were. -/
structure FrP (N : Nat) (P : Nat → Prop) (w w' : World) : Prop where
  os : w'.os = w.os
  tape : w'.tape = w.tape
  output : w'.output = w.output
  size : w.heap.size ≤ w'.heap.size
  block : ∀ q, q < N → ¬ P q → w'.heap[q]? = w.heap[q]?
theorem FrP.refl (N : Nat) (P : Nat → Prop) (w : World) : FrP N P w w := ⟨rfl, rfl, rfl, Nat.le_refl _, fun _ _ _ => rfl⟩
theorem FrP.trans {N : Nat} {P : Nat → Prop} {u v w : World} (h : FrP N P u v) (k : FrP N P v w) : FrP N P u w :=
  ⟨k.os.trans h.os, k.tape.trans h.tape, k.output.trans h.output, Nat.le_trans h.size k.size, fun q hq hn => (k.block q hq hn).trans (h.block q hq hn)⟩
theorem FrP.of_below {N B : Nat} {P : Nat → Prop} {w w' : World} (h : Below B w w') (hB : N ≤ B) : FrP N P w w' := ⟨h.os, h.tape, h.output, h.size, fun q hq _ => h.block q (by omega)⟩
theorem FrP.of_chg {N b : Nat} {P : Nat → Prop} {w w' : World} (h : Chg b w w') (hN : N ≤ w.heap.size) (hb : P b) : FrP N P w w' := ⟨h.os, h.tape, h.output, h.size, fun q hq hn => h.block q (by omega) (fun e => hn (by rw [e]; exact hb))⟩
theorem FrP.mono {N N' : Nat} {P P' : Nat → Prop} {w w' : World} (h : FrP N P w w') (hN : N' ≤ N) (hP : ∀ q, q < N' → P q → P' q) : FrP N' P' w w' := ⟨h.os, h.tape, h.output, h.size, fun q hq hn => h.block q (by omega) (fun e => hn (hP q hq e))⟩
theorem FrP.cell {N : Nat} {P : Nat → Prop} {w w' : World} (h : FrP N P w w') {p : Addr} {v : Value} (hN : p.block < N) (hP : ¬ P p.block) (hc : w.cell? p = some v) : w'.cell? p = some v :=
  (World.cell?_of_block (w := w) (h.block p.block hN hP)).trans hc
theorem FrP.below {N B : Nat} {P : Nat → Prop} {w w' : World} (h : FrP N P w w') (hN : B ≤ N) (hP : ∀ q, q < B → ¬ P q) : Below B w w' := ⟨h.os, h.tape, h.output, h.size, fun q hq => h.block q (by omega) (hP q hq)⟩

theorem RowI.preA {w : World} {B g P N cap : Nat} {l : List Int} {k : Int} (h : RowI w B (.slice (some ⟨g, 0, none⟩) N cap) (l ++ [k])) (hP : l.length = P) (hN : P + 1 = N) : RowI w B (.slice (some ⟨g, 0, none⟩) P cap) l ∧ P ≤ cap := by
  subst hP; subst hN
  obtain ⟨h1, ⟨e, h0⟩ | ⟨g', cap', cur, e, hb, hg, hn, hm, hs, ht⟩⟩ := h
  · rw [List.length_append, List.length_singleton] at h0
    omega
  · rw [List.length_append, List.length_singleton] at e hn
    injection e with e1 e2 e3
    injection e1 with e1
    injection e1 with e1 _ _
    subst e1; subst e3
    refine ⟨⟨by simp [ints], .inr ⟨g, cap, cur, rfl, hb, hg, by omega, hm, hs, ?_⟩⟩, by omega⟩
    have h5 := congrArg (List.take l.length) ht
    rw [List.take_take, List.length_append, List.length_singleton, Nat.min_eq_left (by omega)] at h5
    rw [Nat.mul_one, h5, ← ints_append, List.take_left' (by rw [ints_length])]
theorem RowI.shpA {w : World} {K : Nat} {u : Value} {r : List Int} (h : RowI w K u r) (h0 : 0 < r.length) : ∃ g cap, u = .slice (some ⟨g, 0, none⟩) r.length cap ∧ K ≤ g := by
  rcases Own.of_row h with ⟨_, h1, _⟩ | ⟨g, cap, h1, hg, _⟩
  · omega
  · exact ⟨g, cap, h1, hg⟩
theorem RowI.of_blk {w w' : World} {B : Nat} {v : Value} {xs : List Int} (h : RowI w B v xs) (e : ∀ q, v.ownBlock = some q → w'.heap[q]? = w.heap[q]?) : RowI w' B v xs := by
  refine ⟨h.1, ?_⟩
  rcases h.2 with h0 | ⟨g, cap, cur, rfl, h1, h2, h3⟩
  · exact .inl h0
  · exact .inr ⟨g, cap, cur, rfl, h1, by rw [e g rfl]; exact h2, h3⟩
def bls (n : Nat) (l : List Int) : List Value := tab n fun k => .bool (l.contains (k : Int))
theorem bls_get {n : Nat} {l : List Int} {k : Nat} (h : k < n) : (bls n l)[k]? = some (.bool (l.contains (k : Int))) := tab_get h
theorem bls_on {n : Nat} {l : List Int} {k : Nat} : (bls n l).set k (.bool true) = bls n (l ++ [(k : Int)]) := by
  unfold bls
  rw [tab_set]
  exact tab_congr fun i hi => by
    by_cases e : i = k
    · subst e; simp
    · rw [if_neg e]
      congr 1
      have : ¬ (i : Int) = (k : Int) := by omega
      simp [this]
theorem bls_off {n : Nat} {l : List Int} {k : Nat} (h : (k : Int) ∉ l) : (bls n (l ++ [(k : Int)])).set k (.bool false) = bls n l := by
  unfold bls
  rw [tab_set]
  exact tab_congr fun i hi => by
    by_cases e : i = k
    · subst e; simp [h]
    · rw [if_neg e]
      congr 1
      have : ¬ (i : Int) = (k : Int) := by omega
      simp [this]

section
variable {σ : Type} (V : World → σ → Value → Prop) (fp : Value → Nat → Prop) (step : σ → List Int → σ)
/-- What visits: its own state and where that lies. -/
structure VisH (fid : FuncId) (c1 c2 c3 : Value) (n N0 : Nat) (B0 : Nat → Prop) (w1 : World) : Prop where
  hcf : ∀ (xa : Array Value) (w : World), (callFunc fid xa).run Tryz.prog w = .ok (.enter fid xa) w
  lt : ∀ {w s vb q}, V w s vb → fp vb q → q < w.heap.size
  loc : ∀ {w w' s vb}, V w s vb → (∀ q, fp vb q → w'.heap[q]? = w.heap[q]?) → V w' s vb
  call : ∀ w s vb l al cl, V w s vb → RdI w al l → Ndp n l → l.length = n → FrP N0 B0 w1 w → Calls Tryz.prog fid #[.slice al n cl, c1, c2, c3] w fun e w' => e = .returned (.tuple #[]) ∧ ∃ vb', V w' (step s l) vb' ∧ FrP w.heap.size (fp vb) w w' ∧ ∀ q, fp vb' q → fp vb q ∨ w.heap.size ≤ q
/-- The way and the visitor's state. -/
structure PermI (w : World) (n N0 N1 L U R0 : Nat) (B0 : Nat → Prop) (l : List Int) (s : σ) (vl vb : Value) : Prop where
  sz : N1 ≤ w.heap.size
  cl : Own w L 25 [vl]
  us : Own w U 4 (bls n l)
  rl : RowI w N0 vl l
  rb : ∀ q, vl.ownBlock = some q → q = R0 ∨ N1 ≤ q
  v : V w s vb
  fpb : ∀ q, fp vb q → (q < N0 ∧ B0 q) ∨ N1 ≤ q
  fpl : ∀ q, fp vb q → vl.ownBlock ≠ some q
end
structure PermL (N0 N1 L U R0 X1 X2 X3 X4 : Nat) : Prop where
  n : N0 ≤ N1
  l : N0 ≤ L ∧ L < N1
  u : N0 ≤ U ∧ U < N1 ∧ L ≠ U
  r : N0 ≤ R0 ∧ R0 < N1
  x1 : N0 ≤ X1 ∧ X1 < N1 ∧ X1 ≠ L ∧ X1 ≠ U ∧ X1 ≠ R0
  x2 : N0 ≤ X2 ∧ X2 < N1 ∧ X2 ≠ L ∧ X2 ≠ U ∧ X2 ≠ R0
  x3 : N0 ≤ X3 ∧ X3 < N1 ∧ X3 ≠ L ∧ X3 ≠ U ∧ X3 ≠ R0
  x4 : N0 ≤ X4 ∧ X4 < N1 ∧ X4 ≠ L ∧ X4 ≠ U ∧ X4 ≠ R0
def PP (N0 L U R0 : Nat) (B0 : Nat → Prop) (q : Nat) : Prop := (q < N0 ∧ B0 q) ∨ q = L ∨ q = U ∨ q = R0
section
variable {σ : Type} {V : World → σ → Value → Prop} {fp : Value → Nat → Prop} {step : σ → List Int → σ} {fid : FuncId} {c1 c2 c3 : Value} {w1 : World} {n N0 N1 L U R0 X1 X2 X3 X4 : Nat} {B0 : Nat → Prop}
theorem PermI.fpn {w : World} {l : List Int} {s : σ} {vl vb : Value} (h : PermI V fp w n N0 N1 L U R0 B0 l s vl vb) (hl : PermL N0 N1 L U R0 X1 X2 X3 X4) {q : Nat} (hq : fp vb q) : q ≠ L ∧ q ≠ U := by
  have := hl.l; have := hl.u
  rcases h.fpb q hq with ⟨h1, _⟩ | h1 <;> exact ⟨by omega, by omega⟩
/-- visited. -/
theorem PermI.vis {w w' : World} {l : List Int} {s s' : σ} {vl vb vb' : Value} (h : PermI V fp w n N0 N1 L U R0 B0 l s vl vb) (hl : PermL N0 N1 L U R0 X1 X2 X3 X4) (hv : V w' s' vb') (hf : FrP w.heap.size (fp vb) w w') (hn : ∀ q, fp vb' q → fp vb q ∨ w.heap.size ≤ q) : PermI V fp w' n N0 N1 L U R0 B0 l s' vl vb' := by
  have h1 := fun q (hq : fp vb q) => h.fpn hl hq
  refine ⟨Nat.le_trans h.sz hf.size, h.cl.of_block (hf.block L h.cl.lt (fun e => (h1 L e).1 rfl)), h.us.of_block (hf.block U h.us.lt (fun e => (h1 U e).2 rfl)), h.rl.of_blk (fun q hq => hf.block q (World.ownsRow.lt h.rl q hq).2 (fun e => h.fpl q e hq)), h.rb, hv, fun q hq => ?_, fun q hq e => ?_⟩
  · rcases hn q hq with h2 | h2
    · exact h.fpb q h2
    · exact Or.inr (Nat.le_trans h.sz h2)
  · rcases hn q hq with h2 | h2
    · exact h.fpl q h2 e
    · have := (World.ownsRow.lt h.rl q e).2
      omega
/-- one more. -/
theorem PermI.push (hV : ∀ {w w' : World} {s : σ} {vb : Value}, V w s vb → (∀ q, fp vb q → w'.heap[q]? = w.heap[q]?) → V w' s vb) (hlt : ∀ {w : World} {s : σ} {vb : Value} {q : Nat}, V w s vb → fp vb q → q < w.heap.size) {w w2 : World} {l : List Int} {s : σ} {vl vb v2 : Value} {k : Nat} {o : Obj} (h : PermI V fp w n N0 N1 L U R0 B0 l s vl vb) (hl : PermL N0 N1 L U R0 X1 X2 X3 X4)
    (hr : RowI w2 N0 v2 (l ++ [(k : Int)])) (hg : ((w.setCell ⟨U, k, none⟩ (.bool true)).alloc o).grownBy w2 vl.ownBlock) (ho : v2.ownBlock = vl.ownBlock ∨ v2.ownBlock = some ((w.setCell ⟨U, k, none⟩ (.bool true)).alloc o).heap.size) (hsz : ((w.setCell ⟨U, k, none⟩ (.bool true)).alloc o).heap.size ≤ w2.heap.size) :
    PermI V fp (w2.setCell ⟨L, 0, none⟩ v2) n N0 N1 L U R0 B0 (l ++ [(k : Int)]) s v2 vb := by
  have hLU := hl.u.2.2
  have c1 := (h.cl.setOther (a := ⟨U, k, none⟩) hLU (.bool true)).alloc o
  have u1 := (h.us.set k (.bool true)).alloc o
  rw [bls_on] at u1
  have r1 : RowI ((w.setCell ⟨U, k, none⟩ (.bool true)).alloc o) N0 vl l := (show RowI (w.setCell ⟨U, k, none⟩ (.bool true)) N0 vl l from ownsRow_setCell_other h.rl (row_ne_ty h.rl h.us (by decide)) _).alloc'
  have c2 := c1.grown hg (row_ne_ty r1 c1 (by decide))
  have u2 := u1.grown hg (row_ne_ty r1 u1 (by decide))
  refine ⟨?_, c2.set 0 v2, u2.setOther (a := ⟨L, 0, none⟩) (fun e => hLU e.symm) _, ownsRow_setCell_other hr (row_ne_ty hr c2 (by decide)) _, fun q hq => ?_, hV h.v (fun q hq => ?_), h.fpb, fun q hq e => ?_⟩
  · have := h.sz
    simp at hsz ⊢
    omega
  · rcases ho with ho | ho
    · exact h.rb q (by rw [← ho, hq])
    · rw [hq] at ho
      injection ho with ho
      have := h.sz
      simp at ho
      omega
  · have h1 := h.fpn hl hq
    have h2 := hlt h.v hq
    rw [Deep.blk_setCell_other _ _ _ _ h1.1, hg.block q (by simp; omega) (fun e => h.fpl q hq e.symm), Deep.blk_alloc_lt _ _ _ (by simp; omega), Deep.blk_setCell_other _ _ _ _ h1.2]
  · rcases ho with ho | ho
    · exact h.fpl q hq (by rw [← ho, e])
    · have h2 := hlt h.v hq
      rw [e] at ho
      injection ho with ho
      simp at ho
      omega
/-- one less. -/
theorem PermI.pop (hV : ∀ {w w' : World} {s : σ} {vb : Value}, V w s vb → (∀ q, fp vb q → w'.heap[q]? = w.heap[q]?) → V w' s vb) {w : World} {l : List Int} {s : σ} {vb : Value} {k g P N cap : Nat} (h : PermI V fp w n N0 N1 L U R0 B0 (l ++ [(k : Int)]) s (.slice (some ⟨g, 0, none⟩) N cap) vb) (hl : PermL N0 N1 L U R0 X1 X2 X3 X4) (hP : l.length = P) (hN : P + 1 = N) (hk : (k : Int) ∉ l) :
    PermI V fp ((w.setCell ⟨L, 0, none⟩ (.slice (some ⟨g, 0, none⟩) P cap)).setCell ⟨U, k, none⟩ (.bool false)) n N0 N1 L U R0 B0 l s (.slice (some ⟨g, 0, none⟩) P cap) vb := by
  have hLU := hl.u.2.2
  obtain ⟨r1, _⟩ := h.rl.preA hP hN
  have u1 := (h.us.setOther (a := ⟨L, 0, none⟩) (fun e => hLU e.symm) (.slice (some ⟨g, 0, none⟩) P cap)).set k (.bool false)
  rw [bls_off hk] at u1
  have c1 := (h.cl.set 0 (.slice (some ⟨g, 0, none⟩) P cap)).setOther (a := ⟨U, k, none⟩) hLU (.bool false)
  have r2 : RowI (w.setCell ⟨L, 0, none⟩ (.slice (some ⟨g, 0, none⟩) P cap)) N0 (.slice (some ⟨g, 0, none⟩) P cap) l := ownsRow_setCell_other r1 (row_ne_ty r1 h.cl (by decide)) _
  have hu2 := h.us.setOther (a := ⟨L, 0, none⟩) (fun e => hLU e.symm) (.slice (some ⟨g, 0, none⟩) P cap)
  refine ⟨?_, c1, u1, ownsRow_setCell_other r2 (row_ne_ty r2 hu2 (by decide)) _, fun q hq => h.rb q hq, hV h.v (fun q hq => ?_), h.fpb, fun q hq => h.fpl q hq⟩
  · have := h.sz
    simp
    omega
  · have h1 := h.fpn hl hq
    rw [Deep.blk_setCell_other _ _ _ _ h1.2, Deep.blk_setCell_other _ _ _ _ h1.1]

end
end Go.Proofs.YtjkfighooijblaaGreat
