/-
  Some texts of this proof in one: RkP RkA RkB RkC. Each part tells what it proves. By an AI agent.
-/
import Derived.Test.YtfgdhlnmndgjbaaGreatDoorAsC

/-
  Permanents that are counted, choices of rows and columns: plain. By an AI agent.
-/
namespace Go.Proofs.YtfgdhlnmndgjbaaGreatDoor
open Go.RowKit

/-! ### the least of costs and how often it is reached -/
def bwF (s : Int × Nat) (x : Int) : Int × Nat := if x < s.1 then (x, 1) else if x = s.1 then (s.1, s.2 + 1) else s
def bwW (s t : Int × Nat) : Int × Nat := if t.1 < s.1 then t else if t.1 = s.1 then (s.1, s.2 + t.2) else s
def pmT (L : List Int) : Int × Nat := L.foldl bwF (1000000000, 0)
theorem bwF_le (s : Int × Nat) (x : Int) : (bwF s x).1 ≤ s.1 := by
  unfold bwF
  split
  · exact Int.le_of_lt (by assumption)
  · split <;> exact Int.le_refl _
theorem bwF_fold_le : ∀ (L : List Int) (s : Int × Nat), (L.foldl bwF s).1 ≤ s.1
  | [], _ => Int.le_refl _
  | x :: L, s => Int.le_trans (bwF_fold_le L _) (bwF_le s x)
theorem bwF_fold_cnt : ∀ (L : List Int) (s : Int × Nat), (L.foldl bwF s).2 ≤ s.2 + L.length
  | [], s => by simp
  | x :: L, s => by
    have h1 := bwF_fold_cnt L (bwF s x)
    have h2 : (bwF s x).2 ≤ s.2 + 1 := by
      unfold bwF
      split
      · simp
      · split <;> simp
    simp only [List.foldl_cons, List.length_cons]
    omega
theorem bwF_fold : ∀ (L : List Int) (s : Int × Nat), (∀ x ∈ L, x ≤ 1000000000) → s.1 ≤ 1000000000 → L.foldl bwF s = bwW s (pmT L)
  | [], s, _, h => by
    show s = bwW s (1000000000, 0)
    unfold bwW
    by_cases e : (1000000000 : Int) = s.1
    · rw [if_neg (by simp only; omega), if_pos e]; rfl
    · rw [if_neg (by simp only; omega), if_neg e]
  | x :: L, s, hL, h => by
    have hx := hL x (by simp)
    have h1 := bwF_fold L (bwF s x) (fun y hy => hL y (List.mem_cons_of_mem _ hy)) (Int.le_trans (bwF_le s x) h)
    have h2 := bwF_fold L (bwF (1000000000, 0) x) (fun y hy => hL y (List.mem_cons_of_mem _ hy)) (bwF_le _ _)
    have h3 : bwF (1000000000, 0) x = (x, 1) := by
      unfold bwF
      by_cases e : x < 1000000000
      · rw [if_pos e]
      · rw [if_neg e, if_pos (show x = 1000000000 by omega)]
        simp only
        rw [show x = 1000000000 by omega]
    rw [List.foldl_cons, h1]
    unfold pmT at h2 ⊢
    rw [List.foldl_cons, h2, h3]
    generalize L.foldl bwF (1000000000, 0) = t
    obtain ⟨a, p⟩ := s
    obtain ⟨b, q⟩ := t
    simp only at hx h
    grind [bwW, bwF]
theorem pmT_app {L M : List Int} (hM : ∀ x ∈ M, x ≤ 1000000000) : pmT (L ++ M) = bwW (pmT L) (pmT M) := by
  unfold pmT
  rw [List.foldl_append]
  exact bwF_fold M _ hM (bwF_fold_le L _)
/-- the permanent, and in how many ways it is reached. -/
def prmM (n : Nat) (m : Nat → Nat → Int) : Int × Nat := pmT ((prmA n).map (costP m))
def regF (n : Nat) (m : Nat → Nat → Int) : Bool := decide ((prmM n m).1 ≠ 1000000000) && decide ((prmM n m).2 = 1)
theorem prmM_fold (n : Nat) (m : Nat → Nat → Int) : prmM n m = (prmA n).foldl (fun s c => bwF s (costP m c)) (1000000000, 0) := by
  unfold prmM pmT
  rw [List.foldl_map]

/-! ### choices -/
structure Chs (N : Nat) (l : List Int) (s : Nat) : Prop where
  vt : vtB N l = true
  inc : ∀ i j, i < j → j < l.length → vx l i < vx l j
  lt : ∀ i, i < l.length → vx l i < s
theorem Chs.nil (N : Nat) : Chs N [] 0 := ⟨rfl, fun i j _ h => by simp at h, fun i h => by simp at h⟩
theorem Chs.ext {N : Nat} {l : List Int} {s k : Nat} (h : Chs N l s) (hs : s ≤ k) (hk : k < N) : Chs N (l ++ [(k : Int)]) (k + 1) := by
  have e1 : ∀ i, i < l.length → vx (l ++ [(k : Int)]) i = vx l i := fun i hi => vxA_lt (k : Int) hi
  have e2 : vx (l ++ [(k : Int)]) l.length = k := vxA_eq l k
  refine ⟨?_, fun i j hij hj => ?_, fun i hi => ?_⟩
  · unfold vtB
    refine allB_t.2 fun t ht => ?_
    rw [List.length_append, List.length_singleton] at ht
    by_cases e : t < l.length
    · rw [List.getD_eq_getElem?_getD, List.getElem?_append_left e, ← List.getD_eq_getElem?_getD]
      exact allB_t.1 h.vt t e
    · obtain rfl : t = l.length := by omega
      simp [List.getD_eq_getElem?_getD]
      omega
  · rw [List.length_append, List.length_singleton] at hj
    by_cases e : j < l.length
    · rw [e1 i (by omega), e1 j e]; exact h.inc i j hij e
    · obtain rfl : j = l.length := by omega
      rw [e1 i hij, e2]
      have := h.lt i hij
      omega
  · rw [List.length_append, List.length_singleton] at hi
    by_cases e : i < l.length
    · rw [e1 i e]; have := h.lt i e; omega
    · obtain rfl : i = l.length := by omega
      rw [e2]; omega
theorem Chs.mono {N : Nat} {l : List Int} {s t : Nat} (h : Chs N l s) (hs : s ≤ t) : Chs N l t := ⟨h.vt, h.inc, fun i hi => by have := h.lt i hi; omega⟩
/-- the choices that begin with some numbers, in order. -/
def cqP (N k : Nat) : Nat → List Int → Nat → List (List Int)
  | 0, l, _ => if l.length = k then [l] else []
  | f + 1, l, s => if l.length = k then [l] else (List.range (N - s)).flatMap fun t => cqP N k f (l ++ [((s + t : Nat) : Int)]) (s + t + 1)
def cqT (N k f : Nat) (l : List Int) (s j : Nat) : List (List Int) := (List.range j).flatMap fun t => cqP N k f (l ++ [((s + t : Nat) : Int)]) (s + t + 1)
theorem cqT_succ (N k f : Nat) (l : List Int) (s j : Nat) : cqT N k f l s (j + 1) = cqT N k f l s j ++ cqP N k f (l ++ [((s + j : Nat) : Int)]) (s + j + 1) := by
  unfold cqT
  rw [List.range_succ, List.flatMap_append]
  simp
theorem cqP_full {N k f : Nat} {l : List Int} {s : Nat} (h : l.length = k) : cqP N k f l s = [l] := by
  cases f <;> (unfold cqP; rw [if_pos h])
theorem cqP_step {N k f : Nat} {l : List Int} {s : Nat} (h : l.length ≠ k) (hf : k ≤ l.length + f) (hl : l.length ≤ k) : cqP N k f l s = cqT N k (f - 1) l s (N - s) := by
  cases f with
  | zero => omega
  | succ f => unfold cqP; rw [if_neg h]; rfl
/-- which lists they are. -/
theorem cqP_mem {N k : Nat} : ∀ (f : Nat) {l c : List Int} {s : Nat}, Chs N l s → s ≤ N → l.length ≤ k → k ≤ l.length + f → (c ∈ cqP N k f l s ↔ c.length = k ∧ Chs N c N ∧ (∃ r, c = l ++ r) ∧ ∀ i, l.length ≤ i → i < k → s ≤ vx c i)
  | f, l, c, s, hl, hsN, h1, h2 => by
    by_cases e : l.length = k
    · rw [cqP_full e, List.mem_singleton]
      constructor
      · rintro rfl
        exact ⟨e, hl.mono hsN, ⟨[], by simp⟩, fun i hi hi2 => by omega⟩
      · rintro ⟨g1, _, ⟨r, rfl⟩, _⟩
        rw [List.length_append] at g1
        have : r = [] := List.length_eq_zero_iff.1 (by omega)
        rw [this, List.append_nil]
    · cases f with
      | zero => omega
      | succ f =>
        rw [cqP_step e h2 h1]
        unfold cqT
        simp only [Nat.add_sub_cancel, List.mem_flatMap, List.mem_range]
        constructor
        · rintro ⟨t, ht, hc⟩
          have hx := hl.ext (k := s + t) (by omega) (by omega)
          have hxl : (l ++ [((s + t : Nat) : Int)]).length = l.length + 1 := by simp
          obtain ⟨g1, g2, ⟨r, g3⟩, g4⟩ := (cqP_mem f hx (by omega) (by omega) (by omega)).1 hc
          refine ⟨g1, g2, ⟨_, by rw [g3, List.append_assoc]⟩, fun i hi hi2 => ?_⟩
          by_cases ei : i = l.length
          · subst ei
            rw [g3]
            have : vx (l ++ [((s + t : Nat) : Int)] ++ r) l.length = s + t := by
              unfold vx
              rw [List.getD_eq_getElem?_getD, List.getElem?_append_left (by simp), List.getElem?_append_right (Nat.le_refl _), Nat.sub_self]
              simp only [List.getElem?_cons_zero, Option.getD_some]
              omega
            omega
          · have := g4 i (by omega) hi2
            omega
        · rintro ⟨g1, g2, ⟨r, rfl⟩, g4⟩
          rw [List.length_append] at g1
          cases r with
          | nil => simp at g1; omega
          | cons x r =>
            have h3 := vt_at g2.vt (t := l.length) (by simp)
            have h4 : (l ++ x :: r).getD l.length 0 = x := by simp [List.getD_eq_getElem?_getD]
            have h5 : vx (l ++ x :: r) l.length = x.toNat := by unfold vx; rw [h4]
            have h6 := g4 l.length (Nat.le_refl _) (by omega)
            rw [h4, h5] at h3
            rw [h5] at h6
            refine ⟨x.toNat - s, by omega, ?_⟩
            have h7 : ((s + (x.toNat - s) : Nat) : Int) = x := by omega
            have h8 : s + (x.toNat - s) + 1 = x.toNat + 1 := by omega
            rw [h7, h8]
            have hx := hl.ext (k := x.toNat) (by omega) (by omega)
            rw [show ((x.toNat : Nat) : Int) = x by omega] at hx
            simp only [List.length_cons] at g1
            refine (cqP_mem f hx (by omega) (by simp; omega) (by simp; omega)).2 ⟨by simp; omega, g2, ⟨r, by simp⟩, fun i hi hi2 => ?_⟩
            simp only [List.length_append, List.length_singleton] at hi
            have h9 := g2.inc l.length i (by omega) (by simp; omega)
            rw [h5] at h9
            omega
def cqA (N k : Nat) : List (List Int) := cqP N k k [] 0
theorem cqA_mem {N k : Nat} {c : List Int} : c ∈ cqA N k ↔ c.length = k ∧ Chs N c N := by
  unfold cqA
  rw [cqP_mem k (Chs.nil N) (Nat.zero_le _) (Nat.zero_le _) (by simp)]
  exact ⟨fun h => ⟨h.1, h.2.1⟩, fun h => ⟨h.1, h.2, ⟨c, by simp⟩, fun i _ _ => Nat.zero_le _⟩⟩
end Go.Proofs.YtfgdhlnmndgjbaaGreatDoor

/-
  The program's choices, whatever visits them: the function that calls itself. By an AI agent.
-/
namespace Go.Proofs.YtfgdhlnmndgjbaaGreatDoor
open Go.RowKit

/-- What visits and says whether it wants more: what it may write, and what it keeps. -/
structure VisB (V : World → Prop) (p : List Int → Bool) (fid : FuncId) (c1 c2 c3 c4 : Value) (N k N0 : Nat) (B0 : Nat → Prop) (w1 : World) : Prop where
  hcf : ∀ (xa : Array Value) (w : World), (callFunc fid xa).run Tryz.prog w = .ok (.enter fid xa) w
  lt : ∀ {q}, B0 q → q < N0
  loc : ∀ {w w'}, V w → (∀ q, B0 q → w'.heap[q]? = w.heap[q]?) → V w'
  call : ∀ w l al cl, V w → RdI w al l → (∀ a, al = some a → N0 ≤ a.block) → l.length = k → Chs N l N → FrP N0 B0 w1 w → Calls Tryz.prog fid #[.slice al k cl, c1, c2, c3, c4] w fun e w' => e = .returned (.bool (p l)) ∧ V w' ∧ FrP w.heap.size B0 w w'
structure ChI (V : World → Prop) (w : World) (N0 N1 L R0 : Nat) (l : List Int) (vl : Value) : Prop where
  sz : N1 ≤ w.heap.size
  cl : Own w L 38 [vl]
  rl : RowI w N0 vl l
  rb : ∀ q, vl.ownBlock = some q → q = R0 ∨ N1 ≤ q
  v : V w
structure ChL (N0 N1 L R0 X1 X2 X3 X4 : Nat) : Prop where
  n : N0 ≤ N1
  l : N0 ≤ L ∧ L < N1
  r : N0 ≤ R0 ∧ R0 < N1
  x1 : N0 ≤ X1 ∧ X1 < N1 ∧ X1 ≠ L ∧ X1 ≠ R0
  x2 : N0 ≤ X2 ∧ X2 < N1 ∧ X2 ≠ L ∧ X2 ≠ R0
  x3 : N0 ≤ X3 ∧ X3 < N1 ∧ X3 ≠ L ∧ X3 ≠ R0
  x4 : N0 ≤ X4 ∧ X4 < N1 ∧ X4 ≠ L ∧ X4 ≠ R0
def QP (N0 L R0 : Nat) (B0 : Nat → Prop) (q : Nat) : Prop := (q < N0 ∧ B0 q) ∨ q = L ∨ q = R0
section
variable {V : World → Prop} {p : List Int → Bool} {fid : FuncId} {c1 c2 c3 c4 : Value} {w1 : World} {N k N0 N1 L R0 X1 X2 X3 X4 : Nat} {B0 : Nat → Prop}
/-- visited. -/
theorem ChI.vis {w w' : World} {l : List Int} {vl : Value} (h : ChI V w N0 N1 L R0 l vl) (hlt : ∀ {q}, B0 q → q < N0) (hl : ChL N0 N1 L R0 X1 X2 X3 X4) (hv : V w') (hf : FrP w.heap.size B0 w w') : ChI V w' N0 N1 L R0 l vl :=
  ⟨Nat.le_trans h.sz hf.size, h.cl.of_block (hf.block L h.cl.lt (fun e => by have := hlt e; have := hl.l; omega)), h.rl.of_blk (fun q hq => hf.block q (World.ownsRow.lt h.rl q hq).2 (fun e => by have := hlt e; have := (World.ownsRow.lt h.rl q hq).1; omega)), h.rb, hv⟩
/-- one more. -/
theorem ChI.push (hV : ∀ {w w' : World}, V w → (∀ q, B0 q → w'.heap[q]? = w.heap[q]?) → V w') (hlt : ∀ {q}, B0 q → q < N0) {w w2 : World} {l : List Int} {vl v2 : Value} {x : Int} {o : Obj} (h : ChI V w N0 N1 L R0 l vl) (hl : ChL N0 N1 L R0 X1 X2 X3 X4)
    (hr : RowI w2 N0 v2 (l ++ [x])) (hg : (w.alloc o).grownBy w2 vl.ownBlock) (ho : v2.ownBlock = vl.ownBlock ∨ v2.ownBlock = some (w.alloc o).heap.size) (hsz : (w.alloc o).heap.size ≤ w2.heap.size) :
    ChI V (w2.setCell ⟨L, 0, none⟩ v2) N0 N1 L R0 (l ++ [x]) v2 := by
  have c1 := h.cl.alloc o
  have r1 : RowI (w.alloc o) N0 vl l := h.rl.alloc'
  have c2 := c1.grown hg (row_ne_ty r1 c1 (by decide))
  refine ⟨?_, c2.set 0 v2, ownsRow_setCell_other hr (row_ne_ty hr c2 (by decide)) _, fun q hq => ?_, hV h.v (fun q hq => ?_)⟩
  · have := h.sz
    simp at hsz ⊢
    omega
  · rcases ho with ho | ho
    · exact h.rb q (by rw [← ho, hq])
    · rw [hq] at ho
      injection ho with ho
      have := h.sz
      simp at ho
      omega
  · have h1 := hlt hq
    have h2 := hl.n
    have h3 := hl.l
    have h4 := h.sz
    rw [Deep.blk_setCell_other _ _ _ _ (show q ≠ L by omega), hg.block q (by simp; omega) (fun e => by have := (World.ownsRow.lt h.rl q e.symm).1; omega), Deep.blk_alloc_lt _ _ _ (by omega)]
/-- one less. -/
theorem ChI.pop (hV : ∀ {w w' : World}, V w → (∀ q, B0 q → w'.heap[q]? = w.heap[q]?) → V w') (hlt : ∀ {q}, B0 q → q < N0) {w : World} {l : List Int} {x : Int} {g P M cap : Nat} (h : ChI V w N0 N1 L R0 (l ++ [x]) (.slice (some ⟨g, 0, none⟩) M cap)) (hl : ChL N0 N1 L R0 X1 X2 X3 X4) (hP : l.length = P) (hM : P + 1 = M) :
    ChI V (w.setCell ⟨L, 0, none⟩ (.slice (some ⟨g, 0, none⟩) P cap)) N0 N1 L R0 l (.slice (some ⟨g, 0, none⟩) P cap) := by
  obtain ⟨r1, _⟩ := h.rl.preA hP hM
  refine ⟨?_, h.cl.set 0 _, ownsRow_setCell_other r1 (row_ne_ty r1 h.cl (by decide)) _, fun q hq => h.rb q hq, hV h.v (fun q hq => ?_)⟩
  · have := h.sz
    simp
    omega
  · have h1 := hlt hq
    have h3 := hl.l
    exact Deep.blk_setCell_other _ _ _ _ (show q ≠ L by omega)

end
end Go.Proofs.YtfgdhlnmndgjbaaGreatDoor

/-
  The program's choices: the call. By an AI agent.
-/
namespace Go.Proofs.YtfgdhlnmndgjbaaGreatDoor
open Go.RowKit

section
variable {V : World → Prop} {p : List Int → Bool} {fid : FuncId} {c1 c2 c3 c4 : Value} {N k : Nat} {B0 : Nat → Prop}
end
end Go.Proofs.YtfgdhlnmndgjbaaGreatDoor

/-
  The permanent and in how many ways it is reached, regular matrices: the program's. By an AI agent.
-/
namespace Go.Proofs.YtfgdhlnmndgjbaaGreatDoor
open Go.RowKit

theorem prm_len {n : Nat} (hn : n ≤ 6) : ∀ (f : Nat) (l : List Int), (prm n f l).length ≤ 6 ^ f
  | 0, l => by unfold prm; split <;> simp
  | f + 1, l => by
    have h1 : 1 ≤ 6 ^ f := Nat.pow_pos (by omega)
    have hT : ∀ j, (prmT n f l j).length ≤ j * 6 ^ f := by
      intro j
      induction j with
      | zero => simp [prmT]
      | succ j ih =>
        rw [prmT_succ, List.length_append, Nat.add_mul, Nat.one_mul]
        refine Nat.add_le_add ih ?_
        split
        · simp
        · exact prm_len hn f _
    unfold prm
    split
    · rw [List.length_singleton, Nat.pow_succ]; omega
    · have h2 := hT n
      have h3 : n * 6 ^ f ≤ 6 * 6 ^ f := Nat.mul_le_mul_right _ hn
      rw [Nat.pow_succ]
      have : (prmT n f l n).length = ((List.range n).flatMap fun k : Nat => if l.contains (k : Int) = true then [] else prm n f (l ++ [(k : Int)])).length := rfl
      omega
theorem prmM_cnt {n : Nat} (hn : n ≤ 6) (m : Nat → Nat → Int) : (prmM n m).2 ≤ 46656 := by
  have h1 := bwF_fold_cnt ((prmA n).map (costP m)) (1000000000, 0)
  rw [List.length_map] at h1
  have h2 : (prmA n).length ≤ 6 ^ n := prm_len hn n []
  have h3 : 6 ^ n ≤ 46656 := Nat.pow_le_pow_right (n := 6) (by omega) hn
  unfold prmM pmT
  omega
theorem wrap_next (a : Int) : IntKind.i64.wrap (IntKind.i64.wrap a + 1) = IntKind.i64.wrap (a + 1) := by
  have key : ∀ {x y : Int}, x % 2 ^ 64 = y % 2 ^ 64 → IntKind.i64.wrap x = IntKind.i64.wrap y := fun {x y} h => by
    simp only [IntKind.wrap, IntKind.bits, h]
    rfl
  have h1 : IntKind.i64.wrap a % 2 ^ 64 = a % 2 ^ 64 := by
    simp only [IntKind.wrap, IntKind.bits, IntKind.signed, Bool.true_and]
    split <;> omega
  refine key ?_
  generalize IntKind.i64.wrap a = x at h1
  omega

/-- The least cost so far and how often, in two variables. -/
def VpA (T1 T2 : Nat) (w : World) (s : Int × Nat) (_ : Value) : Prop := Own w T1 3 [.int .i64 s.1] ∧ Own w T2 3 [.int .i64 (IntKind.i64.wrap (s.2 : Int))]
def fpP (T1 T2 : Nat) (_ : Value) (q : Nat) : Prop := q = T1 ∨ q = T2

set_option maxHeartbeats 1600000 in
set_option maxRecDepth 100000 in
theorem permVis_c (n : Nat) (ad : Option Addr) (cap : Nat) (m : Nat → Nat → Int) (Mb T1 T2 : Nat) (al : Option Addr) (cl : Nat) (l : List Int) (s : Int × Nat) (vb : Value) (w : World) (hr : RdM w ad (toM n m)) (hn : 1 ≤ n ∧ n ≤ 6) (hnum : ∀ a b, a < n → b < n → numB (m a b) = true) (hT : T1 ≠ T2)
    (km : w.cell? ⟨Mb, 0, none⟩ = some (.slice ad n cap)) (hv : VpA T1 T2 w s vb) (hw : RdI w al l) (hp : Ndp n l) (hl : l.length = n) :
    Calls Tryz.prog 61 #[.slice al n cl, .pointer (some ⟨Mb, 0, none⟩), .pointer (some ⟨T1, 0, none⟩), .pointer (some ⟨T2, 0, none⟩)] w fun e w' => e = .returned (.tuple #[]) ∧ VpA T1 T2 w' (bwF s (costP m l)) vb ∧ FrP w.heap.size (fpP T1 T2 vb) w w' := by
  have C1 := Lib.hid (costOf_c n ad cap m al cl l w hr hw hn hl hp.vt hnum)
  obtain ⟨ho1, ho2⟩ := hv
  have kT := ho1.cell? (i := 0) rfl
  have HO1 := Lib.hid ho1; have HO2 := Lib.hid ho2
  clear hr hw hp hnum ho1 ho2 hl
  generalize costP m l = X at C1 ⊢
  obtain ⟨sc, sn⟩ := s
  simp only at kT HO1 HO2
  have HB := Lib.hid (show bwF (sc, sn) X = if X < sc then (X, 1) else if X = sc then (sc, sn + 1) else (sc, sn) from rfl)
  by_cases h1 : X < sc
  · have g1 : decide (X < sc) = true := decide_eq_true h1
    rw [HB.out, if_pos h1]
    clear HB h1
    go_enter Tryz.func61, Tryz.ntmps61
    go_wp2_with fail
    refine C1.out.mono ?_
    rintro e w1 ⟨rfl, hb1⟩
    have p1 := HO1.out.belowAll hb1
    have p2 := HO2.out.belowAll hb1
    have kT1 := p1.cell? (i := 0) rfl
    have kT2 := p2.cell? (i := 0) rfl
    have f1 := p1.frozen 0
    have f2 := p2.frozen 0
    have HS1 := Lib.hid ((p1.set 0 (.int .i64 X)).setOther (a := ⟨T2, 0, none⟩) hT (.int .i64 1))
    have HS2 := Lib.hid ((p2.setOther (a := ⟨T1, 0, none⟩) hT.symm (.int .i64 X)).set 0 (.int .i64 1))
    have HF := Lib.hid (show FrP w.heap.size (fpP T1 T2 vb) w ((w1.setCell ⟨T1, 0, none⟩ (.int .i64 X)).setCell ⟨T2, 0, none⟩ (.int .i64 1)) from ((FrP.of_below hb1 (Nat.le_refl _)).trans (FrP.of_chg (Chg.set T1 0 w1 _) hb1.size (Or.inl rfl))).trans (FrP.of_chg (Chg.set T2 0 _ _) (by have := hb1.size; simp; omega) (Or.inr rfl)))
    clear p1 p2 kT
    go_wp2_with fail
    go_end0
    exact ⟨rfl, ⟨HS1.out, HS2.out⟩, HF.out⟩
  · have g1 : decide (X < sc) = false := decide_eq_false h1
    rw [HB.out, if_neg h1]
    by_cases h2 : X = sc
    · subst h2
      rw [if_pos rfl]
      have g2 : (X == X) = true := beq_self_eq_true _
      have ew := wrap_next (sn : Int)
      have ec : (((sn + 1 : Nat)) : Int) = (sn : Int) + 1 := by omega
      clear HB h1
      obtain ⟨y, hy⟩ : ∃ y, IntKind.i64.wrap (sn : Int) = y := ⟨_, rfl⟩
      rw [hy] at HO2 ew
      obtain ⟨z, hz⟩ : ∃ z, IntKind.i64.wrap ((sn : Int) + 1) = z := ⟨_, rfl⟩
      rw [hz] at ew
      have HZ := Lib.hid (show IntKind.i64.wrap (((sn + 1 : Nat)) : Int) = z by rw [ec]; exact hz)
      clear hy hz ec
      go_enter Tryz.func61, Tryz.ntmps61
      go_wp2_with fail
      refine C1.out.mono ?_
      rintro e w1 ⟨rfl, hb1⟩
      have p1 := HO1.out.belowAll hb1
      have p2 := HO2.out.belowAll hb1
      have kT1 := p1.cell? (i := 0) rfl
      have kT2 := p2.cell? (i := 0) rfl
      have f2 := p2.frozen 0
      have HS1 := Lib.hid (p1.setOther (a := ⟨T2, 0, none⟩) hT (.int .i64 z))
      have HS2 := Lib.hid (p2.set 0 (.int .i64 z))
      have HF := Lib.hid (show FrP w.heap.size (fpP T1 T2 vb) w (w1.setCell ⟨T2, 0, none⟩ (.int .i64 z)) from (FrP.of_below hb1 (Nat.le_refl _)).trans (FrP.of_chg (Chg.set T2 0 w1 _) hb1.size (Or.inr rfl)))
      clear p1 p2 kT
      go_wp2_with fail
      go_end0
      refine ⟨rfl, ⟨HS1.out, ?_⟩, HF.out⟩
      rw [HZ.out]
      exact HS2.out
    · rw [if_neg h2]
      have g2 : (X == sc) = false := beq_eq_false_iff_ne.2 h2
      clear HB h1 h2
      go_enter Tryz.func61, Tryz.ntmps61
      go_wp2_with fail
      refine C1.out.mono ?_
      rintro e w1 ⟨rfl, hb1⟩
      have kT1 := (HO1.out.belowAll hb1).cell? (i := 0) rfl
      clear kT
      go_wp2_with fail
      go_end0
      exact ⟨rfl, ⟨HO1.out.belowAll hb1, HO2.out.belowAll hb1⟩, FrP.of_below hb1 (Nat.le_refl _)⟩
theorem permVisH (n : Nat) (ad : Option Addr) (cap : Nat) (m : Nat → Nat → Int) (w0 w1 : World) (Mb T1 T2 : Nat) (hr : RdM w0 ad (toM n m)) (hn : 1 ≤ n ∧ n ≤ 6) (hnum : ∀ a b, a < n → b < n → numB (m a b) = true) (hT : T1 ≠ T2) (hb : Below w0.heap.size w0 w1) (h1 : w0.heap.size ≤ T1) (h2 : w0.heap.size ≤ T2)
    (km : w1.cell? ⟨Mb, 0, none⟩ = some (.slice ad n cap)) (hM1 : Mb ≠ T1) (hM2 : Mb ≠ T2) :
    VisH (VpA T1 T2) (fpP T1 T2) (fun s c => bwF s (costP m c)) 61 (.pointer (some ⟨Mb, 0, none⟩)) (.pointer (some ⟨T1, 0, none⟩)) (.pointer (some ⟨T2, 0, none⟩)) n w1.heap.size (fun q => q = T1 ∨ q = T2) w1 where
  hcf := callFunc_plainM Tryz.func61 (by kernel_rfl) (by kernel_rfl)
  lt := fun {w s vb q} hv hq => by
    rcases hq with rfl | rfl
    · exact hv.1.lt
    · exact hv.2.lt
  loc := fun {w w' s vb} hv hq => ⟨hv.1.of_block (hq T1 (Or.inl rfl)), hv.2.of_block (hq T2 (Or.inr rfl))⟩
  call := fun w s vb l al cl hv hw hp hl hf => (permVis_c n ad cap m Mb T1 T2 al cl l s vb w (hr.below (hb.trans (hf.below hb.size (fun q hq e => by omega)))) hn hnum hT (hf.cell (cell_lt km) (by rintro (e | e); exact hM1 e; exact hM2 e) km) hv hw hp hl).mono fun e w' ⟨g1, g2, g3⟩ => ⟨g1, vb, g2, g3, fun q hq => Or.inl hq⟩

set_option maxHeartbeats 3200000 in
set_option maxRecDepth 100000 in
theorem permanent_c (n : Nat) (ad : Option Addr) (cap : Nat) (m : Nat → Nat → Int) (w : World) (hr : RdM w ad (toM n m)) (hn : 1 ≤ n ∧ n ≤ 6) (hnum : ∀ a b, a < n → b < n → numB (m a b) = true) :
    Calls Tryz.prog 27 #[.slice ad n cap] w fun e w' => e = .returned (.tuple #[.int .i64 (prmM n m).1, .int .i64 ((prmM n m).2 : Int)]) ∧ Below w.heap.size w w' := by
  have HR := Lib.hid hr; have HNUM := Lib.hid hnum
  clear hr hnum
  obtain ⟨h, hh⟩ : ∃ h, w.heap.size = h := ⟨_, rfl⟩
  obtain ⟨W1, hW1⟩ : ∃ W, w.alloc (.cells #[.slice ad n cap] 23) = W := ⟨_, rfl⟩
  have s1 : W1.heap.size = h + 1 := by rw [← hW1]; simp [hh]
  have o1 : Own W1 h 23 [.slice ad n cap] := by rw [← hW1]; exact Own.newHA _ _ _ rfl hh
  have b1 : Below h w W1 := by rw [← hW1, ← hh]; exact bal_alloc (Below.refl _ _)
  obtain ⟨W2, hW2⟩ : ∃ W, W1.alloc (.cells #[.int .i64 1000000000] 3) = W := ⟨_, rfl⟩
  have s2 : W2.heap.size = h + 1 + 1 := by rw [← hW2]; simp [s1]
  have o2 : Own W2 (h + 1) 3 [.int .i64 1000000000] := by rw [← hW2]; exact Own.newHA _ _ _ rfl s1
  have b2 : Below W1.heap.size W1 W2 := by rw [← hW2]; exact bal_alloc (Below.refl _ _)
  obtain ⟨W3, hW3⟩ : ∃ W, W2.alloc (.cells #[.int .i64 0] 3) = W := ⟨_, rfl⟩
  have s3 : W3.heap.size = h + 1 + 1 + 1 := by rw [← hW3]; simp [s2]
  have o3 : Own W3 (h + 1 + 1) 3 [.int .i64 0] := by rw [← hW3]; exact Own.newHA _ _ _ rfl s2
  have b3 : Below W2.heap.size W2 W3 := by rw [← hW3]; exact bal_alloc (Below.refl _ _)
  have kM := ((o1.belowAll b2).belowAll b3).cell? (i := 0) rfl
  have hbW : Below h w W3 := b1.trans ((ball b2 b3).mono (by omega))
  have HW := Lib.hid (show ((w.alloc (.cells #[.slice ad n cap] 23)).alloc (.cells #[.int .i64 1000000000] 3)).alloc (.cells #[.int .i64 0] 3) = W3 by rw [hW1, hW2, hW3])
  have hVis := permVisH n ad cap m w W3 h (h + 1) (h + 1 + 1) HR.out hn HNUM.out (by omega) (by rw [hh]; exact hbW) (by omega) (by omega) kM (by omega) (by omega)
  have CP := permutations_c W3 (1000000000, 0) (.slice none 0 0) hn hVis ⟨o2.belowAll b3, by have : IntKind.i64.wrap (((0 : Nat) : Int)) = 0 := i64_small (by omega) (by omega); simp only [this]; exact o3⟩ (fun q hq => hq)
  rw [← prmM_fold] at CP
  have CPP := Lib.hid CP
  have hcn := prmM_cnt hn.2 m
  have HBW := Lib.hid hbW
  clear CP
  obtain ⟨R, hR⟩ : ∃ R, prmM n m = R := ⟨_, rfl⟩
  rw [hR] at CPP hcn ⊢
  obtain ⟨Rc, Rn⟩ := R
  simp only at CPP hcn ⊢
  have e1 : IntKind.i64.wrap (Rn : Int) = (Rn : Int) := i64_small (by omega) (by omega)
  have E1 := Lib.hid e1
  clear hR hcn e1 hVis o1 o2 o3 b1 b2 b3 hW1 hW2 hW3 hbW
  go_enter Tryz.func27, Tryz.ntmps27
  go_wp2_with fail
  rw [HW.out]
  go_wp2_with fail
  refine CPP.out.mono ?_
  rintro e w2 ⟨rfl, vb, ⟨h1, h2⟩, hfr, -⟩
  simp only [E1.out] at h1 h2
  have k1 := h1.cell? (i := 0) rfl
  have k2 := h2.cell? (i := 0) rfl
  have HB2 := Lib.hid (show Below h w w2 from HBW.out.trans (hfr.below (by omega) (fun q hq e => by omega)))
  clear h1 h2 hfr
  go_wp2_with fail
  go_quiet (fail)
  go_wp2_with fail
  exact bodyPost_ret (v := .tuple #[.int .i64 Rc, .int .i64 (Rn : Int)]) (by simp [results, Tryz.results27, go_sem]) rfl ⟨rfl, by rw [hh]; exact bdrewN HB2.out _⟩
end Go.Proofs.YtfgdhlnmndgjbaaGreatDoor
