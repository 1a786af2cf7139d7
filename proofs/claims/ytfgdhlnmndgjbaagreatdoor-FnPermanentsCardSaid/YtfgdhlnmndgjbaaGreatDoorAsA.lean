/-
  The program's permutations, whatever visits them: the function that calls itself. By an AI agent.
-/
import Derived.Test.YtfgdhlnmndgjbaaGreatDoorWyG
import Derived.Test.YtfgdhlnmndgjbaaGreatDoorWyF
import Derived.Laws.EntriesVeiled
namespace Go.Proofs.YtfgdhlnmndgjbaaGreatDoor
open Go.RowKit

/-- All blocks below N, but those that P allows, are as they were. -/
structure FrP (N : Nat) (P : Nat → Prop) (w w' : World) : Prop where
  os : w'.os = w.os
  tape : w'.tape = w.tape
  output : w'.output = w.output
  size : w.heap.size ≤ w'.heap.size
  block : ∀ q, q < N → ¬ P q → w'.heap[q]? = w.heap[q]?
theorem FrP.refl (N : Nat) (P : Nat → Prop) (w : World) : FrP N P w w := ⟨rfl, rfl, rfl, Nat.le_refl _, fun _ _ _ => rfl⟩
theorem FrP.trans {N : Nat} {P : Nat → Prop} {u v w : World} (h : FrP N P u v) (k : FrP N P v w) : FrP N P u w :=
  ⟨k.os.trans h.os, k.tape.trans h.tape, k.output.trans h.output, Nat.le_trans h.size k.size, fun q hq hn => (k.block q hq hn).trans (h.block q hq hn)⟩
theorem FrP.of_below {N B : Nat} {P : Nat → Prop} {w w' : World} (h : Below B w w') (hB : N ≤ B) : FrP N P w w' := ⟨h.os, h.tape, h.output, h.size, fun q hq _ => h.block q (by omega)⟩
theorem FrP.of_chg {N b : Nat} {P : Nat → Prop} {w w' : World} (h : Chg b w w') (hN : N ≤ w.heap.size) (hb : P b) : FrP N P w w' := ⟨h.os, h.tape, h.output, h.size, fun q hq hn => h.block q (by omega) (fun e => hn (by rw [e]; exact hb))⟩
theorem FrP.mono {N N' : Nat} {P P' : Nat → Prop} {w w' : World} (h : FrP N P w w') (hN : N' ≤ N) (hP : ∀ q, q < N' → P q → P' q) : FrP N' P' w w' := ⟨h.os, h.tape, h.output, h.size, fun q hq hn => h.block q (by omega) (fun e => hn (hP q hq e))⟩
theorem FrP.cell {N : Nat} {P : Nat → Prop} {w w' : World} (h : FrP N P w w') {p : Addr} {v : Value} (hN : p.block < N) (hP : ¬ P p.block) (hc : w.cell? p = some v) : w'.cell? p = some v :=
  (World.cell?_of_block (w := w) (h.block p.block hN hP)).trans hc
theorem FrP.below {N B : Nat} {P : Nat → Prop} {w w' : World} (h : FrP N P w w') (hN : B ≤ N) (hP : ∀ q, q < B → ¬ P q) : Below B w w' := ⟨h.os, h.tape, h.output, h.size, fun q hq => h.block q (by omega) (hP q hq)⟩

theorem RowI.preA {w : World} {B g P N cap : Nat} {l : List Int} {k : Int} (h : RowI w B (.slice (some ⟨g, 0, none⟩) N cap) (l ++ [k])) (hP : l.length = P) (hN : P + 1 = N) : RowI w B (.slice (some ⟨g, 0, none⟩) P cap) l ∧ P ≤ cap := by
  subst hP; subst hN
  obtain ⟨h1, ⟨e, h0⟩ | ⟨g', cap', cur, e, hb, hg, hn, hm, hs, ht⟩⟩ := h
  · rw [List.length_append, List.length_singleton] at h0
    omega
  · rw [List.length_append, List.length_singleton] at e hn
    injection e with e1 e2 e3
    injection e1 with e1
    injection e1 with e1 _ _
    subst e1; subst e3
    refine ⟨⟨by simp [ints], .inr ⟨g, cap, cur, rfl, hb, hg, by omega, hm, hs, ?_⟩⟩, by omega⟩
    have h5 := congrArg (List.take l.length) ht
    rw [List.take_take, List.length_append, List.length_singleton, Nat.min_eq_left (by omega)] at h5
    rw [Nat.mul_one, h5, ← ints_append, List.take_left' (by rw [ints_length])]
theorem RowI.shpA {w : World} {K : Nat} {u : Value} {r : List Int} (h : RowI w K u r) (h0 : 0 < r.length) : ∃ g cap, u = .slice (some ⟨g, 0, none⟩) r.length cap ∧ K ≤ g := by
  rcases Own.of_row h with ⟨_, h1, _⟩ | ⟨g, cap, h1, hg, _⟩
  · omega
  · exact ⟨g, cap, h1, hg⟩
theorem RowI.of_blk {w w' : World} {B : Nat} {v : Value} {xs : List Int} (h : RowI w B v xs) (e : ∀ q, v.ownBlock = some q → w'.heap[q]? = w.heap[q]?) : RowI w' B v xs := by
  refine ⟨h.1, ?_⟩
  rcases h.2 with h0 | ⟨g, cap, cur, rfl, h1, h2, h3⟩
  · exact .inl h0
  · exact .inr ⟨g, cap, cur, rfl, h1, by rw [e g rfl]; exact h2, h3⟩
def bls (n : Nat) (l : List Int) : List Value := tab n fun k => .bool (l.contains (k : Int))
theorem bls_get {n : Nat} {l : List Int} {k : Nat} (h : k < n) : (bls n l)[k]? = some (.bool (l.contains (k : Int))) := tab_get h
theorem bls_on {n : Nat} {l : List Int} {k : Nat} : (bls n l).set k (.bool true) = bls n (l ++ [(k : Int)]) := by
  unfold bls
  rw [tab_set]
  exact tab_congr fun i hi => by
    by_cases e : i = k
    · subst e; simp
    · rw [if_neg e]
      congr 1
      have : ¬ (i : Int) = (k : Int) := by omega
      simp [this]
theorem bls_off {n : Nat} {l : List Int} {k : Nat} (h : (k : Int) ∉ l) : (bls n (l ++ [(k : Int)])).set k (.bool false) = bls n l := by
  unfold bls
  rw [tab_set]
  exact tab_congr fun i hi => by
    by_cases e : i = k
    · subst e; simp [h]
    · rw [if_neg e]
      congr 1
      have : ¬ (i : Int) = (k : Int) := by omega
      simp [this]

section
variable {σ : Type} (V : World → σ → Value → Prop) (fp : Value → Nat → Prop) (step : σ → List Int → σ)
/-- What visits: its own state and where that lies. -/
structure VisH (fid : FuncId) (c1 c2 c3 : Value) (n N0 : Nat) (B0 : Nat → Prop) (w1 : World) : Prop where
  hcf : ∀ (xa : Array Value) (w : World), (callFunc fid xa).run Tryz.prog w = .ok (.enter fid xa) w
  lt : ∀ {w s vb q}, V w s vb → fp vb q → q < w.heap.size
  loc : ∀ {w w' s vb}, V w s vb → (∀ q, fp vb q → w'.heap[q]? = w.heap[q]?) → V w' s vb
  call : ∀ w s vb l al cl, V w s vb → RdI w al l → Ndp n l → l.length = n → FrP N0 B0 w1 w → Calls Tryz.prog fid #[.slice al n cl, c1, c2, c3] w fun e w' => e = .returned (.tuple #[]) ∧ ∃ vb', V w' (step s l) vb' ∧ FrP w.heap.size (fp vb) w w' ∧ ∀ q, fp vb' q → fp vb q ∨ w.heap.size ≤ q
/-- The way and the visitor's state. -/
structure PermI (w : World) (n N0 N1 L U R0 : Nat) (B0 : Nat → Prop) (l : List Int) (s : σ) (vl vb : Value) : Prop where
  sz : N1 ≤ w.heap.size
  cl : Own w L 38 [vl]
  us : Own w U 4 (bls n l)
  rl : RowI w N0 vl l
  rb : ∀ q, vl.ownBlock = some q → q = R0 ∨ N1 ≤ q
  v : V w s vb
  fpb : ∀ q, fp vb q → (q < N0 ∧ B0 q) ∨ N1 ≤ q
  fpl : ∀ q, fp vb q → vl.ownBlock ≠ some q
end
def nxF (L X1 X2 X3 X4 : Nat) : Value := .func (Fn.func 86) #[] #[.pointer (some ⟨L, 0, none⟩), .pointer (some ⟨X1, 0, none⟩), .pointer (some ⟨X2, 0, none⟩), .pointer (some ⟨X3, 0, none⟩), .pointer (some ⟨X4, 0, none⟩)]
structure PermC (w1 w : World) (fid : FuncId) (c1 c2 c3 : Value) (n N0 L U X1 X2 X3 X4 : Nat) (B0 : Nat → Prop) : Prop where
  nn : w.cell? ⟨X1, 0, none⟩ = some (.int .i64 n)
  v : w.cell? ⟨X2, 0, none⟩ = some (.func (Fn.func fid) #[] #[c1, c2, c3])
  u : w.cell? ⟨X3, 0, none⟩ = some (.slice (some ⟨U, 0, none⟩) n n)
  x : w.cell? ⟨X4, 0, none⟩ = some (nxF L X1 X2 X3 X4)
  fr : FrP N0 B0 w1 w
structure PermL (N0 N1 L U R0 X1 X2 X3 X4 : Nat) : Prop where
  n : N0 ≤ N1
  l : N0 ≤ L ∧ L < N1
  u : N0 ≤ U ∧ U < N1 ∧ L ≠ U
  r : N0 ≤ R0 ∧ R0 < N1
  x1 : N0 ≤ X1 ∧ X1 < N1 ∧ X1 ≠ L ∧ X1 ≠ U ∧ X1 ≠ R0
  x2 : N0 ≤ X2 ∧ X2 < N1 ∧ X2 ≠ L ∧ X2 ≠ U ∧ X2 ≠ R0
  x3 : N0 ≤ X3 ∧ X3 < N1 ∧ X3 ≠ L ∧ X3 ≠ U ∧ X3 ≠ R0
  x4 : N0 ≤ X4 ∧ X4 < N1 ∧ X4 ≠ L ∧ X4 ≠ U ∧ X4 ≠ R0
def PP (N0 L U R0 : Nat) (B0 : Nat → Prop) (q : Nat) : Prop := (q < N0 ∧ B0 q) ∨ q = L ∨ q = U ∨ q = R0
theorem PermC.chg {w1 w w' : World} {fid : FuncId} {c1 c2 c3 : Value} {n N0 N1 L U R0 X1 X2 X3 X4 : Nat} {B0 : Nat → Prop} (h : PermC w1 w fid c1 c2 c3 n N0 L U X1 X2 X3 X4 B0) (hl : PermL N0 N1 L U R0 X1 X2 X3 X4) (hc : FrP N1 (PP N0 L U R0 B0) w w') : PermC w1 w' fid c1 c2 c3 n N0 L U X1 X2 X3 X4 B0 := by
  have hx : ∀ X, N0 ≤ X → X ≠ L → X ≠ U ∧ X ≠ R0 → ¬ PP N0 L U R0 B0 X := fun X h1 h2 h3 h4 => by
    rcases h4 with ⟨h4, _⟩ | h4 | h4 | h4 <;> omega
  exact ⟨hc.cell hl.x1.2.1 (hx _ hl.x1.1 hl.x1.2.2.1 hl.x1.2.2.2) h.nn, hc.cell hl.x2.2.1 (hx _ hl.x2.1 hl.x2.2.2.1 hl.x2.2.2.2) h.v, hc.cell hl.x3.2.1 (hx _ hl.x3.1 hl.x3.2.2.1 hl.x3.2.2.2) h.u, hc.cell hl.x4.2.1 (hx _ hl.x4.1 hl.x4.2.2.1 hl.x4.2.2.2) h.x,
    h.fr.trans (hc.mono hl.n (fun q hq e => by
      have := hl.l; have := hl.u; have := hl.r
      rcases e with ⟨_, e⟩ | e | e | e
      · exact e
      · omega
      · omega
      · omega))⟩
section
variable {σ : Type} {V : World → σ → Value → Prop} {fp : Value → Nat → Prop} {step : σ → List Int → σ} {fid : FuncId} {c1 c2 c3 : Value} {w1 : World} {n N0 N1 L U R0 X1 X2 X3 X4 : Nat} {B0 : Nat → Prop}
theorem PermI.fpn {w : World} {l : List Int} {s : σ} {vl vb : Value} (h : PermI V fp w n N0 N1 L U R0 B0 l s vl vb) (hl : PermL N0 N1 L U R0 X1 X2 X3 X4) {q : Nat} (hq : fp vb q) : q ≠ L ∧ q ≠ U := by
  have := hl.l; have := hl.u
  rcases h.fpb q hq with ⟨h1, _⟩ | h1 <;> exact ⟨by omega, by omega⟩
/-- visited. -/
theorem PermI.vis {w w' : World} {l : List Int} {s s' : σ} {vl vb vb' : Value} (h : PermI V fp w n N0 N1 L U R0 B0 l s vl vb) (hl : PermL N0 N1 L U R0 X1 X2 X3 X4) (hv : V w' s' vb') (hf : FrP w.heap.size (fp vb) w w') (hn : ∀ q, fp vb' q → fp vb q ∨ w.heap.size ≤ q) : PermI V fp w' n N0 N1 L U R0 B0 l s' vl vb' := by
  have h1 := fun q (hq : fp vb q) => h.fpn hl hq
  refine ⟨Nat.le_trans h.sz hf.size, h.cl.of_block (hf.block L h.cl.lt (fun e => (h1 L e).1 rfl)), h.us.of_block (hf.block U h.us.lt (fun e => (h1 U e).2 rfl)), h.rl.of_blk (fun q hq => hf.block q (World.ownsRow.lt h.rl q hq).2 (fun e => h.fpl q e hq)), h.rb, hv, fun q hq => ?_, fun q hq e => ?_⟩
  · rcases hn q hq with h2 | h2
    · exact h.fpb q h2
    · exact Or.inr (Nat.le_trans h.sz h2)
  · rcases hn q hq with h2 | h2
    · exact h.fpl q h2 e
    · have := (World.ownsRow.lt h.rl q e).2
      omega
/-- one more. -/
theorem PermI.push (hV : ∀ {w w' : World} {s : σ} {vb : Value}, V w s vb → (∀ q, fp vb q → w'.heap[q]? = w.heap[q]?) → V w' s vb) (hlt : ∀ {w : World} {s : σ} {vb : Value} {q : Nat}, V w s vb → fp vb q → q < w.heap.size) {w w2 : World} {l : List Int} {s : σ} {vl vb v2 : Value} {k : Nat} {o : Obj} (h : PermI V fp w n N0 N1 L U R0 B0 l s vl vb) (hl : PermL N0 N1 L U R0 X1 X2 X3 X4)
    (hr : RowI w2 N0 v2 (l ++ [(k : Int)])) (hg : ((w.setCell ⟨U, k, none⟩ (.bool true)).alloc o).grownBy w2 vl.ownBlock) (ho : v2.ownBlock = vl.ownBlock ∨ v2.ownBlock = some ((w.setCell ⟨U, k, none⟩ (.bool true)).alloc o).heap.size) (hsz : ((w.setCell ⟨U, k, none⟩ (.bool true)).alloc o).heap.size ≤ w2.heap.size) :
    PermI V fp (w2.setCell ⟨L, 0, none⟩ v2) n N0 N1 L U R0 B0 (l ++ [(k : Int)]) s v2 vb := by
  have hLU := hl.u.2.2
  have c1 := (h.cl.setOther (a := ⟨U, k, none⟩) hLU (.bool true)).alloc o
  have u1 := (h.us.set k (.bool true)).alloc o
  rw [bls_on] at u1
  have r1 : RowI ((w.setCell ⟨U, k, none⟩ (.bool true)).alloc o) N0 vl l := (show RowI (w.setCell ⟨U, k, none⟩ (.bool true)) N0 vl l from ownsRow_setCell_other h.rl (row_ne_ty h.rl h.us (by decide)) _).alloc'
  have c2 := c1.grown hg (row_ne_ty r1 c1 (by decide))
  have u2 := u1.grown hg (row_ne_ty r1 u1 (by decide))
  refine ⟨?_, c2.set 0 v2, u2.setOther (a := ⟨L, 0, none⟩) (fun e => hLU e.symm) _, ownsRow_setCell_other hr (row_ne_ty hr c2 (by decide)) _, fun q hq => ?_, hV h.v (fun q hq => ?_), h.fpb, fun q hq e => ?_⟩
  · have := h.sz
    simp at hsz ⊢
    omega
  · rcases ho with ho | ho
    · exact h.rb q (by rw [← ho, hq])
    · rw [hq] at ho
      injection ho with ho
      have := h.sz
      simp at ho
      omega
  · have h1 := h.fpn hl hq
    have h2 := hlt h.v hq
    rw [Deep.blk_setCell_other _ _ _ _ h1.1, hg.block q (by simp; omega) (fun e => h.fpl q hq e.symm), Deep.blk_alloc_lt _ _ _ (by simp; omega), Deep.blk_setCell_other _ _ _ _ h1.2]
  · rcases ho with ho | ho
    · exact h.fpl q hq (by rw [← ho, e])
    · have h2 := hlt h.v hq
      rw [e] at ho
      injection ho with ho
      simp at ho
      omega
/-- one less. -/
theorem PermI.pop (hV : ∀ {w w' : World} {s : σ} {vb : Value}, V w s vb → (∀ q, fp vb q → w'.heap[q]? = w.heap[q]?) → V w' s vb) {w : World} {l : List Int} {s : σ} {vb : Value} {k g P N cap : Nat} (h : PermI V fp w n N0 N1 L U R0 B0 (l ++ [(k : Int)]) s (.slice (some ⟨g, 0, none⟩) N cap) vb) (hl : PermL N0 N1 L U R0 X1 X2 X3 X4) (hP : l.length = P) (hN : P + 1 = N) (hk : (k : Int) ∉ l) :
    PermI V fp ((w.setCell ⟨L, 0, none⟩ (.slice (some ⟨g, 0, none⟩) P cap)).setCell ⟨U, k, none⟩ (.bool false)) n N0 N1 L U R0 B0 l s (.slice (some ⟨g, 0, none⟩) P cap) vb := by
  have hLU := hl.u.2.2
  obtain ⟨r1, _⟩ := h.rl.preA hP hN
  have u1 := (h.us.setOther (a := ⟨L, 0, none⟩) (fun e => hLU e.symm) (.slice (some ⟨g, 0, none⟩) P cap)).set k (.bool false)
  rw [bls_off hk] at u1
  have c1 := (h.cl.set 0 (.slice (some ⟨g, 0, none⟩) P cap)).setOther (a := ⟨U, k, none⟩) hLU (.bool false)
  have r2 : RowI (w.setCell ⟨L, 0, none⟩ (.slice (some ⟨g, 0, none⟩) P cap)) N0 (.slice (some ⟨g, 0, none⟩) P cap) l := ownsRow_setCell_other r1 (row_ne_ty r1 h.cl (by decide)) _
  have hu2 := h.us.setOther (a := ⟨L, 0, none⟩) (fun e => hLU e.symm) (.slice (some ⟨g, 0, none⟩) P cap)
  refine ⟨?_, c1, u1, ownsRow_setCell_other r2 (row_ne_ty r2 hu2 (by decide)) _, fun q hq => h.rb q hq, hV h.v (fun q hq => ?_), h.fpb, fun q hq => h.fpl q hq⟩
  · have := h.sz
    simp
    omega
  · have h1 := h.fpn hl hq
    rw [Deep.blk_setCell_other _ _ _ _ h1.2, Deep.blk_setCell_other _ _ _ _ h1.1]

set_option maxHeartbeats 6400000 in
set_option maxRecDepth 100000 in
theorem nextP_c (hn : 1 ≤ n ∧ n ≤ 6) (hH : VisH V fp step fid c1 c2 c3 n N0 B0 w1) (hL : PermL N0 N1 L U R0 X1 X2 X3 X4) :
    ∀ (f : Nat) (l : List Int) (s : σ) (vl vb : Value) (w : World), Ndp n l → n ≤ l.length + f → PermI V fp w n N0 N1 L U R0 B0 l s vl vb → PermC w1 w fid c1 c2 c3 n N0 L U X1 X2 X3 X4 B0 →
    Calls Tryz.prog 86 #[.pointer (some ⟨L, 0, none⟩), .pointer (some ⟨X1, 0, none⟩), .pointer (some ⟨X2, 0, none⟩), .pointer (some ⟨X3, 0, none⟩), .pointer (some ⟨X4, 0, none⟩)] w fun e w' => e = .returned (.tuple #[]) ∧ (∃ vl' vb', PermI V fp w' n N0 N1 L U R0 B0 l ((prm n f l).foldl step s) vl' vb') ∧ FrP N1 (PP N0 L U R0 B0) w w' := by
  intro f
  induction f using Nat.strongRecOn with
  | _ f ih =>
  intro l s vl vb w hp hf hi hc
  have hcf := hH.hcf
  have HIH := Lib.hid ih; clear ih
  have HP := Lib.hid hp; have HC := Lib.hid hc; have HI := Lib.hid hi; have HL := Lib.hid hL; have HH := Lib.hid hH
  obtain ⟨al, cl, rfl, hrl⟩ := hi.rl.shape
  have hlen := hp.len
  have kL := hi.cl.cell? (i := 0) rfl
  have kN := hc.nn
  have kV := hc.v
  have CV := Lib.hid (fun (e : l.length = n) => hH.call w s vb l al cl hi.v hrl hp e hc.fr)
  obtain ⟨P, hPl⟩ : ∃ P, l.length = P := ⟨_, rfl⟩
  have HPL := Lib.hid hPl
  rw [hPl] at kL hlen hf CV HI
  clear hp hi hc hL hH hrl hPl
  by_cases hPn : P = n
  · have HF := Lib.hid (show (prm n f l).foldl step s = step s l by rw [prm_full (by rw [HPL.out]; exact hPn)]; rfl)
    subst hPn
    have C2 := Lib.hid (CV.out rfl)
    have g1 : ((P : Int) == (P : Int)) = true := beq_self_eq_true _
    clear CV HIH
    go_enter Tryz.func86, Tryz.ntmps86
    go_wp2_with fail
    refine C2.out.mono ?_
    rintro e w2 ⟨rfl, vb', hv, hfr, hfp⟩
    have HPI := Lib.hid (HI.out.vis HL.out hv hfr hfp)
    have HFR := Lib.hid (show FrP N1 (PP N0 L U R0 B0) w w2 from hfr.mono HI.out.sz (fun q hq e => by
      rcases HI.out.fpb q e with h | h
      · exact Or.inl h
      · omega))
    clear hv hfr hfp kL kN kV
    go_wp2_with fail
    exact bodyPost_ret (v := .tuple #[]) (by simp [results, Tryz.results86, go_sem]) rfl ⟨rfl, ⟨_, vb', by rw [HF.out]; exact HPI.out⟩, HFR.out⟩
  · have HF := Lib.hid (show (prm n f l).foldl step s = (prmT n (f - 1) l n).foldl step s by rw [prm_step (by rw [HPL.out]; exact hPn) (by rw [HPL.out]; exact hf) (by rw [HPL.out]; exact hlen)])
    have g1 : ((P : Int) == (n : Int)) = false := beq_eq_false_iff_ne.2 (by omega)
    clear CV
    go_enter Tryz.func86, Tryz.ntmps86
    go_wp2_with fail
    go_loopw [14] (fun v wr => ∃ k : Nat, k ≤ n ∧ v = .int .i64 k ∧ (∃ vl' vb', PermI V fp wr n N0 N1 L U R0 B0 l ((prmT n (f - 1) l k).foldl step s) vl' vb') ∧ FrP N1 (PP N0 L U R0 B0) w wr) (fun v _ => n - (intOf v).toNat)
    case atStart => exact ⟨0, Nat.zero_le _, rfl, ⟨_, vb, HI.out⟩, FrP.refl _ _ _⟩
    case round =>
      obtain ⟨wE, rfl⟩ : ∃ x : World, x = wr := ⟨_, rfl⟩
      obtain ⟨k, hk, rfl, ⟨vl', vb', hi⟩, hch⟩ := hrel
      have HIE := Lib.hid hi; have HCH := Lib.hid hch
      by_cases hlt : k < n
      case neg =>
        obtain rfl : k = n := by omega
        clear hi hch kL kN kV
        go_wp2_with fail
        go_end0
        exact ⟨rfl, ⟨_, vb', by rw [HF.out]; exact HIE.out⟩, HCH.out⟩
      case pos =>
        obtain ⟨aE, cE, rfl, hrE⟩ := hi.rl.shape
        have kLE := hi.cl.cell? (i := 0) rfl
        rw [HPL.out] at kLE HIE
        have HCE := Lib.hid (HC.out.chg HL.out hch)
        have kU := HCE.out.u
        have kB := hi.us.cell? (bls_get hlt)
        have fB := hi.us.frozen k
        have HSU := Lib.hid (prmT_succ n (f - 1) l k)
        generalize prmT n (f - 1) l k = TT at HIE HSU
        have x1 : (0 : Int) ≤ (k : Int) := by omega
        have x2 : (k : Int) < (n : Int) := by omega
        clear hi hch kL kN kV hrE
        obtain ⟨bb, hbb⟩ : ∃ bb, l.contains (k : Int) = bb := ⟨_, rfl⟩
        rw [hbb] at kB HSU
        have HBB := Lib.hid hbb; clear hbb
        cases bb
        case true =>
          clear fB kLE
          go_wp2_with fail
          go_roundw
          case rel => exact ⟨k + 1, by omega, by go_num, ⟨_, vb', by rw [HSU.out]; simpa using HIE.out⟩, HCH.out⟩
          case measure => simp [intOf]; omega
        case false =>
          have hnm : (k : Int) ∉ l := by simpa using HBB.out
          have hpx := HP.out.ext hlt hnm
          have hplen := hpx.len
          rw [List.length_append, List.length_singleton, HPL.out] at hplen
          obtain ⟨N, hN⟩ : ∃ N, P + 1 = N := ⟨_, rfl⟩
          have HNL := Lib.hid (show (l ++ [(k : Int)]).length = N by rw [List.length_append, HPL.out]; exact hN)
          have HNN := Lib.hid hN
          have HNM := Lib.hid hnm
          have eN : IntKind.i64.wrap ((N : Int) - 1) = (P : Int) := by rw [i64_small (by omega) (by omega)]; omega
          have IHC := Lib.hid (fun u v5 (h1 : PermI V fp u n N0 N1 L U R0 B0 (l ++ [(k : Int)]) (TT.foldl step s) v5 vb') (h2 : PermC w1 u fid c1 c2 c3 n N0 L U X1 X2 X3 X4 B0) => HIH.out (f - 1) (by omega) (l ++ [(k : Int)]) _ v5 vb' u hpx (by rw [HNL.out]; omega) h1 h2)
          have hszE := HIE.out.sz
          have hN0 : 0 < N := by omega
          have HRL2 := Lib.hid (show RowI (wE.setCell ⟨U, k, none⟩ (.bool true)) N0 (.slice aE P cE) l from ownsRow_setCell_other HIE.out.rl (row_ne_ty HIE.out.rl HIE.out.us (by decide)) _)
          have hLs := HIE.out.cl.setOther (a := ⟨U, k, none⟩) HL.out.u.2.2 (.bool true)
          have kLs := hLs.cell? (i := 0) rfl
          have HLS := Lib.hid hLs
          have hP6 : P ≤ 6 := by omega
          have hUl : U < wE.heap.size := HIE.out.us.lt
          have hFRU := Lib.hid (Chg.set U k wE (.bool true))
          have HLA := Lib.hid (HLS.out.alloc (.cells #[.int .i64 (k : Int)] 3))
          have HNE := Lib.hid (row_ne_ty HRL2.out HLS.out (by decide))
          have HPU := Lib.hid (show ∀ (wm : World) (v5 : Value), RowI wm N0 v5 (l ++ [(k : Int)]) → ((wE.setCell ⟨U, k, none⟩ (.bool true)).alloc (.cells #[.int .i64 (k : Int)] 3)).grownBy wm (Value.slice aE P cE).ownBlock → (v5.ownBlock = (Value.slice aE P cE).ownBlock ∨ v5.ownBlock = some ((wE.setCell ⟨U, k, none⟩ (.bool true)).alloc (.cells #[.int .i64 (k : Int)] 3)).heap.size) → ((wE.setCell ⟨U, k, none⟩ (.bool true)).alloc (.cells #[.int .i64 (k : Int)] 3)).heap.size ≤ wm.heap.size → PermI V fp (wm.setCell ⟨L, 0, none⟩ v5) n N0 N1 L U R0 B0 (l ++ [(k : Int)]) (TT.foldl step s) v5 vb' from fun wm v5 g1 g2 g3 g4 => PermI.push (V := V) (fp := fp) (fun h1 h2 => HH.out.loc h1 h2) (fun h1 h2 => HH.out.lt h1 h2) HIE.out HL.out g1 g2 g3 g4)
          have HFB := Lib.hid (show ∀ (wm : World), Below N0 ((wE.setCell ⟨U, k, none⟩ (.bool true)).alloc (.cells #[.int .i64 (k : Int)] 3)) wm → ((wE.setCell ⟨U, k, none⟩ (.bool true)).alloc (.cells #[.int .i64 (k : Int)] 3)).grownBy wm (Value.slice aE P cE).ownBlock → ∀ g5 cap5, FrP N1 (PP N0 L U R0 B0) w (wm.setCell ⟨L, 0, none⟩ (.slice (some ⟨g5, 0, none⟩) N cap5)) from fun wm hbm hgr g5 cap5 => by
            have h1 : FrP N1 (PP N0 L U R0 B0) wE (wE.setCell ⟨U, k, none⟩ (.bool true)) := FrP.of_chg hFRU.out hszE (Or.inr (Or.inr (Or.inl rfl)))
            have h2 : FrP N1 (PP N0 L U R0 B0) (wE.setCell ⟨U, k, none⟩ (.bool true)) ((wE.setCell ⟨U, k, none⟩ (.bool true)).alloc (.cells #[.int .i64 (k : Int)] 3)) := FrP.of_below (Below.alloc (Below.refl N1 _) (by simp; omega) _) (Nat.le_refl _)
            have h2b : FrP N1 (PP N0 L U R0 B0) ((wE.setCell ⟨U, k, none⟩ (.bool true)).alloc (.cells #[.int .i64 (k : Int)] 3)) wm := ⟨hbm.os, hbm.tape, hbm.output, hbm.size, fun q hq hn => hgr.block q (by simp; omega) (fun e => by
              rcases HIE.out.rb q e.symm with h | h
              · exact hn (Or.inr (Or.inr (Or.inr h)))
              · omega)⟩
            have h3 : FrP N1 (PP N0 L U R0 B0) wm (wm.setCell ⟨L, 0, none⟩ (.slice (some ⟨g5, 0, none⟩) N cap5)) := FrP.of_chg (Chg.set L 0 wm _) (by have := hbm.size; simp at this; omega) (Or.inr (Or.inl rfl))
            exact (((HCH.out.trans h1).trans h2).trans h2b).trans h3)
          clear hN hnm hpx hLs
          go_wp2_with (at_builtin; refine wpList_appB rfl _ _ rfl N0 _ 0 1 _ l [(k : Int)] N (by rw [HPL.out]; exact HNN.out) rfl rfl (RowI.alloc' HRL2.out) (rdI_one _ _ _ (by simp)) (by rw [HPL.out]; omega) (by simp) (by have := HL.out.n; simp; omega) ?_; intro v5 wm hown hsh hbm hgr hob; obtain ⟨g5, cap5, rfl, _⟩ := hsh (by omega); have hLm := HLA.out.grown hgr HNE.out; have kLm := hLm.cell? (i := 0) rfl; have fLm := hLm.frozen 0; have HP5 := Lib.hid (HPU.out wm _ hown hgr hob hbm.size); have HCX5 := Lib.hid (HFB.out wm hbm hgr g5 cap5); have HC5 := Lib.hid (HC.out.chg HL.out HCX5.out); have kX5 := HC5.out.x; unfold nxF at kX5; clear hown hsh hgr hob hLm kLs kLE)
          refine (IHC.out _ _ HP5.out HC5.out).mono ?_
          rintro e w6 ⟨rfl, ⟨vl6, vb6, hi6⟩, hch6⟩
          obtain ⟨g6, cap6, rfl, _⟩ := hi6.rl.shpA (by rw [HNL.out]; omega)
          rw [HNL.out] at hi6
          have kL6 := hi6.cl.cell? (i := 0) rfl
          have fL6 := hi6.cl.frozen 0
          have hcp6 := (hi6.rl.preA HPL.out HNN.out).2
          have hu6 := (hi6.us.setOther (a := ⟨L, 0, none⟩) (fun e => HL.out.u.2.2 e.symm) (.slice (some ⟨g6, 0, none⟩) P cap6))
          have kB6 := hu6.cell? (bls_get hlt)
          have fB6 := hu6.frozen k
          have HI6 := Lib.hid (PermI.pop (V := V) (fp := fp) (fun h1 h2 => HH.out.loc h1 h2) hi6 HL.out HPL.out HNN.out HNM.out)
          have HC6 := Lib.hid (HC5.out.chg HL.out hch6)
          have HCH6 := Lib.hid (HCX5.out.trans hch6)
          have hsz6 := hi6.sz
          have HC7 := Lib.hid (HC6.out.chg HL.out (FrP.of_chg (Chg.set L 0 w6 (.slice (some ⟨g6, 0, none⟩) P cap6)) hsz6 (Or.inr (Or.inl rfl))))
          have kU7 := HC7.out.u
          have HCH7 := Lib.hid ((HCH6.out.trans (FrP.of_chg (Chg.set L 0 w6 (.slice (some ⟨g6, 0, none⟩) P cap6)) hsz6 (Or.inr (Or.inl rfl)))).trans (FrP.of_chg (Chg.set U k (w6.setCell ⟨L, 0, none⟩ (.slice (some ⟨g6, 0, none⟩) P cap6)) (.bool false)) (by simp; omega) (Or.inr (Or.inr (Or.inl rfl)))))
          have z1 : (0 : Int) ≤ (P : Int) := by omega
          have z2 : (P : Int) ≤ (cap6 : Int) := by omega
          clear kX5 kLm fLm hi6 hch6 HP5 HC5 HCX5 IHC hbm hu6 kU kB fB
          go_wp2_with fail
          go_roundw
          case rel => exact ⟨k + 1, by omega, by go_num, ⟨_, vb6, by rw [HSU.out, if_neg (by simp), List.foldl_append]; exact HI6.out⟩, HCH7.out⟩
          case measure => simp [intOf]; omega
end
end Go.Proofs.YtfgdhlnmndgjbaaGreatDoor
