/-
  The program's choices, whatever visits them: the function that calls itself. By an AI agent.
-/
import Derived.Test.YtnbenpalneodlaaAsC
namespace Go.Proofs.Ytnbenpalneodlaa
open Go.RowKit

/-- What visits and says whether it wants more: what it may write, and what it keeps. -/
structure VisB (V : World → Prop) (p : List Int → Bool) (fid : FuncId) (c1 c2 c3 c4 : Value) (N k N0 : Nat) (B0 : Nat → Prop) (w1 : World) : Prop where
  hcf : ∀ (xa : Array Value) (w : World), (callFunc fid xa).run Try.prog w = .ok (.enter fid xa) w
  lt : ∀ {q}, B0 q → q < N0
  loc : ∀ {w w'}, V w → (∀ q, B0 q → w'.heap[q]? = w.heap[q]?) → V w'
  call : ∀ w l al cl, V w → RdI w al l → (∀ a, al = some a → N0 ≤ a.block) → l.length = k → Chs N l N → FrP N0 B0 w1 w → Calls Try.prog fid #[.slice al k cl, c1, c2, c3, c4] w fun e w' => e = .returned (.bool (p l)) ∧ V w' ∧ FrP w.heap.size B0 w w'
structure ChI (V : World → Prop) (w : World) (N0 N1 L R0 : Nat) (l : List Int) (vl : Value) : Prop where
  sz : N1 ≤ w.heap.size
  cl : Own w L 23 [vl]
  rl : RowI w N0 vl l
  rb : ∀ q, vl.ownBlock = some q → q = R0 ∨ N1 ≤ q
  v : V w
def nxC (L X1 X2 X3 X4 : Nat) : Value := .func (Fn.func 75) #[] #[.pointer (some ⟨L, 0, none⟩), .pointer (some ⟨X1, 0, none⟩), .pointer (some ⟨X2, 0, none⟩), .pointer (some ⟨X3, 0, none⟩), .pointer (some ⟨X4, 0, none⟩)]
structure ChC (w1 w : World) (fid : FuncId) (c1 c2 c3 c4 : Value) (N k N0 L X1 X2 X3 X4 : Nat) (B0 : Nat → Prop) : Prop where
  kk : w.cell? ⟨X1, 0, none⟩ = some (.int .i64 k)
  v : w.cell? ⟨X2, 0, none⟩ = some (.func (Fn.func fid) #[] #[c1, c2, c3, c4])
  nn : w.cell? ⟨X3, 0, none⟩ = some (.int .i64 N)
  x : w.cell? ⟨X4, 0, none⟩ = some (nxC L X1 X2 X3 X4)
  fr : FrP N0 B0 w1 w
structure ChL (N0 N1 L R0 X1 X2 X3 X4 : Nat) : Prop where
  n : N0 ≤ N1
  l : N0 ≤ L ∧ L < N1
  r : N0 ≤ R0 ∧ R0 < N1
  x1 : N0 ≤ X1 ∧ X1 < N1 ∧ X1 ≠ L ∧ X1 ≠ R0
  x2 : N0 ≤ X2 ∧ X2 < N1 ∧ X2 ≠ L ∧ X2 ≠ R0
  x3 : N0 ≤ X3 ∧ X3 < N1 ∧ X3 ≠ L ∧ X3 ≠ R0
  x4 : N0 ≤ X4 ∧ X4 < N1 ∧ X4 ≠ L ∧ X4 ≠ R0
def QP (N0 L R0 : Nat) (B0 : Nat → Prop) (q : Nat) : Prop := (q < N0 ∧ B0 q) ∨ q = L ∨ q = R0
section
variable {V : World → Prop} {p : List Int → Bool} {fid : FuncId} {c1 c2 c3 c4 : Value} {w1 : World} {N k N0 N1 L R0 X1 X2 X3 X4 : Nat} {B0 : Nat → Prop}
theorem ChC.chg {w w' : World} (h : ChC w1 w fid c1 c2 c3 c4 N k N0 L X1 X2 X3 X4 B0) (hl : ChL N0 N1 L R0 X1 X2 X3 X4) (hc : FrP N1 (QP N0 L R0 B0) w w') : ChC w1 w' fid c1 c2 c3 c4 N k N0 L X1 X2 X3 X4 B0 := by
  have hx : ∀ X, N0 ≤ X → X ≠ L → X ≠ R0 → ¬ QP N0 L R0 B0 X := fun X h1 h2 h3 h4 => by
    rcases h4 with ⟨h4, _⟩ | h4 | h4 <;> omega
  exact ⟨hc.cell hl.x1.2.1 (hx _ hl.x1.1 hl.x1.2.2.1 hl.x1.2.2.2) h.kk, hc.cell hl.x2.2.1 (hx _ hl.x2.1 hl.x2.2.2.1 hl.x2.2.2.2) h.v, hc.cell hl.x3.2.1 (hx _ hl.x3.1 hl.x3.2.2.1 hl.x3.2.2.2) h.nn, hc.cell hl.x4.2.1 (hx _ hl.x4.1 hl.x4.2.2.1 hl.x4.2.2.2) h.x,
    h.fr.trans (hc.mono hl.n (fun q hq e => by
      have := hl.l; have := hl.r
      rcases e with ⟨_, e⟩ | e | e
      · exact e
      · omega
      · omega))⟩
/-- visited. -/
theorem ChI.vis {w w' : World} {l : List Int} {vl : Value} (h : ChI V w N0 N1 L R0 l vl) (hlt : ∀ {q}, B0 q → q < N0) (hl : ChL N0 N1 L R0 X1 X2 X3 X4) (hv : V w') (hf : FrP w.heap.size B0 w w') : ChI V w' N0 N1 L R0 l vl :=
  ⟨Nat.le_trans h.sz hf.size, h.cl.of_block (hf.block L h.cl.lt (fun e => by have := hlt e; have := hl.l; omega)), h.rl.of_blk (fun q hq => hf.block q (World.ownsRow.lt h.rl q hq).2 (fun e => by have := hlt e; have := (World.ownsRow.lt h.rl q hq).1; omega)), h.rb, hv⟩
/-- one more. -/
theorem ChI.push (hV : ∀ {w w' : World}, V w → (∀ q, B0 q → w'.heap[q]? = w.heap[q]?) → V w') (hlt : ∀ {q}, B0 q → q < N0) {w w2 : World} {l : List Int} {vl v2 : Value} {x : Int} {o : Obj} (h : ChI V w N0 N1 L R0 l vl) (hl : ChL N0 N1 L R0 X1 X2 X3 X4)
    (hr : RowI w2 N0 v2 (l ++ [x])) (hg : (w.alloc o).grownBy w2 vl.ownBlock) (ho : v2.ownBlock = vl.ownBlock ∨ v2.ownBlock = some (w.alloc o).heap.size) (hsz : (w.alloc o).heap.size ≤ w2.heap.size) :
    ChI V (w2.setCell ⟨L, 0, none⟩ v2) N0 N1 L R0 (l ++ [x]) v2 := by
  have c1 := h.cl.alloc o
  have r1 : RowI (w.alloc o) N0 vl l := h.rl.alloc'
  have c2 := c1.grown hg (row_ne_ty r1 c1 (by decide))
  refine ⟨?_, c2.set 0 v2, ownsRow_setCell_other hr (row_ne_ty hr c2 (by decide)) _, fun q hq => ?_, hV h.v (fun q hq => ?_)⟩
  · have := h.sz
    simp at hsz ⊢
    omega
  · rcases ho with ho | ho
    · exact h.rb q (by rw [← ho, hq])
    · rw [hq] at ho
      injection ho with ho
      have := h.sz
      simp at ho
      omega
  · have h1 := hlt hq
    have h2 := hl.n
    have h3 := hl.l
    have h4 := h.sz
    rw [Deep.blk_setCell_other _ _ _ _ (show q ≠ L by omega), hg.block q (by simp; omega) (fun e => by have := (World.ownsRow.lt h.rl q e.symm).1; omega), Deep.blk_alloc_lt _ _ _ (by omega)]
/-- one less. -/
theorem ChI.pop (hV : ∀ {w w' : World}, V w → (∀ q, B0 q → w'.heap[q]? = w.heap[q]?) → V w') (hlt : ∀ {q}, B0 q → q < N0) {w : World} {l : List Int} {x : Int} {g P M cap : Nat} (h : ChI V w N0 N1 L R0 (l ++ [x]) (.slice (some ⟨g, 0, none⟩) M cap)) (hl : ChL N0 N1 L R0 X1 X2 X3 X4) (hP : l.length = P) (hM : P + 1 = M) :
    ChI V (w.setCell ⟨L, 0, none⟩ (.slice (some ⟨g, 0, none⟩) P cap)) N0 N1 L R0 l (.slice (some ⟨g, 0, none⟩) P cap) := by
  obtain ⟨r1, _⟩ := h.rl.preA hP hM
  refine ⟨?_, h.cl.set 0 _, ownsRow_setCell_other r1 (row_ne_ty r1 h.cl (by decide)) _, fun q hq => h.rb q hq, hV h.v (fun q hq => ?_)⟩
  · have := h.sz
    simp
    omega
  · have h1 := hlt hq
    have h3 := hl.l
    exact Deep.blk_setCell_other _ _ _ _ (show q ≠ L by omega)

set_option maxHeartbeats 6400000 in
set_option maxRecDepth 100000 in
theorem nextQ_c (hN : N ≤ 6) (hk6 : k ≤ 6) (hH : VisB V p fid c1 c2 c3 c4 N k N0 B0 w1) (hL : ChL N0 N1 L R0 X1 X2 X3 X4) :
    ∀ (f : Nat) (l : List Int) (s : Nat) (vl : Value) (w : World), Chs N l s → s ≤ N → l.length ≤ k → k ≤ l.length + f → ChI V w N0 N1 L R0 l vl → ChC w1 w fid c1 c2 c3 c4 N k N0 L X1 X2 X3 X4 B0 →
    Calls Try.prog 75 #[.int .i64 s, .pointer (some ⟨L, 0, none⟩), .pointer (some ⟨X1, 0, none⟩), .pointer (some ⟨X2, 0, none⟩), .pointer (some ⟨X3, 0, none⟩), .pointer (some ⟨X4, 0, none⟩)] w fun e w' => e = .returned (.bool ((cqP N k f l s).all p)) ∧ V w' ∧ ((cqP N k f l s).all p = true → ∃ vl', ChI V w' N0 N1 L R0 l vl') ∧ FrP N1 (QP N0 L R0 B0) w w' := by
  intro f
  induction f using Nat.strongRecOn with
  | _ f ih =>
  intro l s vl w hp hsN hlk hf hi hc
  have hcf := hH.hcf
  have HIH := Lib.hid ih; clear ih
  have HP := Lib.hid hp; have HC := Lib.hid hc; have HI := Lib.hid hi; have HL := Lib.hid hL; have HH := Lib.hid hH
  obtain ⟨al, cl, rfl, hrl⟩ := hi.rl.shape
  have kL := hi.cl.cell? (i := 0) rfl
  have kN := hc.nn
  have kK := hc.kk
  have kV := hc.v
  have CV := Lib.hid (fun (e : l.length = k) => hH.call w l al cl hi.v hrl (fun a ha => by subst ha; exact RowI.blk hi.rl a.block rfl) e (hp.mono hsN) hc.fr)
  obtain ⟨P, hPl⟩ : ∃ P, l.length = P := ⟨_, rfl⟩
  have HPL := Lib.hid hPl
  rw [hPl] at kL hlk hf CV HI
  clear hp hi hc hL hH hrl hPl
  by_cases hPn : P = k
  · rw [cqP_full (show l.length = k by rw [HPL.out]; exact hPn)]
    rw [show [l].all p = p l by simp]
    subst hPn
    have C2 := Lib.hid (CV.out rfl)
    have g1 : ((P : Int) == (P : Int)) = true := beq_self_eq_true _
    clear CV HIH
    generalize p l = B at C2 ⊢
    go_enter Try.func75, Try.ntmps75
    go_wp2_with fail
    refine C2.out.mono ?_
    rintro e w2 ⟨rfl, hv, hfr⟩
    have HPI := Lib.hid (HI.out.vis HH.out.lt HL.out hv hfr)
    have HV := Lib.hid hv
    have HFR := Lib.hid (show FrP N1 (QP N0 L R0 B0) w w2 from hfr.mono HI.out.sz (fun q hq e => Or.inl ⟨HH.out.lt e, e⟩))
    clear hv hfr kL kN kV kK
    go_wp2_with fail
    go_ret
    exact ⟨rfl, HV.out, fun _ => ⟨_, HPI.out⟩, HFR.out⟩
  · rw [cqP_step (show l.length ≠ k by rw [HPL.out]; exact hPn) (by rw [HPL.out]; exact hf) (by rw [HPL.out]; exact hlk)]
    have g1 : ((P : Int) == (k : Int)) = false := beq_eq_false_iff_ne.2 (by omega)
    obtain ⟨D, hD⟩ : ∃ D, (cqT N k (f - 1) l s (N - s)).all p = D := ⟨_, rfl⟩
    rw [hD]
    have HD := Lib.hid hD
    have HPRE := Lib.hid (fun j (hj : j + 1 ≤ N - s) (h : (cqT N k (f - 1) l s (j + 1)).all p = false) => show D = false by
      rw [← hD]
      obtain ⟨d, hd⟩ : ∃ d, N - s = (j + 1) + d := ⟨N - s - (j + 1), by omega⟩
      rw [hd]
      clear hd hj hD
      induction d with
      | zero => exact h
      | succ d ih => rw [← Nat.add_assoc, cqT_succ, List.all_append, ih, Bool.false_and])
    clear CV hD
    go_enter Try.func75, Try.ntmps75
    go_wp2_with fail
    go_loopw [8] (fun v wr => ∃ j : Nat, j ≤ N - s ∧ v = .int .i64 ((s + j : Nat) : Int) ∧ (cqT N k (f - 1) l s j).all p = true ∧ (∃ vl', ChI V wr N0 N1 L R0 l vl') ∧ FrP N1 (QP N0 L R0 B0) w wr) (fun v _ => N - (intOf v).toNat)
    case atStart => exact ⟨0, Nat.zero_le _, by simp, rfl, ⟨_, HI.out⟩, FrP.refl _ _ _⟩
    case round =>
      obtain ⟨wE, rfl⟩ : ∃ x : World, x = wr := ⟨_, rfl⟩
      obtain ⟨j, hj, rfl, hall, ⟨vl', hi⟩, hch⟩ := hrel
      have HIE := Lib.hid hi; have HCH := Lib.hid hch
      obtain ⟨q, hq⟩ : ∃ q, s + j = q := ⟨_, rfl⟩
      rw [hq]
      have HCE := Lib.hid (HC.out.chg HL.out hch)
      have kNE := HCE.out.nn
      have HALL := Lib.hid hall
      by_cases hlt : j < N - s
      case neg =>
        obtain rfl : j = N - s := by omega
        obtain rfl : q = N := by omega
        clear hi hch kL kN kV kK
        rw [HD.out] at hall
        subst hall
        go_wp2_with fail
        go_ret
        exact ⟨rfl, HIE.out.v, ⟨_, HIE.out⟩, HCH.out⟩
      case pos =>
        obtain ⟨aE, cE, rfl, hrE⟩ := hi.rl.shape
        have kLE := hi.cl.cell? (i := 0) rfl
        have fLE := hi.cl.frozen 0
        rw [HPL.out] at kLE HIE
        have HSU := Lib.hid (cqT_succ N k (f - 1) l s j)
        rw [hq] at HSU
        have hqN : q < N := by omega
        have hpx := HP.out.ext (k := q) (by omega) hqN
        obtain ⟨M, hM⟩ : ∃ M, P + 1 = M := ⟨_, rfl⟩
        have HNL := Lib.hid (show (l ++ [(q : Int)]).length = M by rw [List.length_append, HPL.out]; exact hM)
        have HNN := Lib.hid hM
        have HPX := Lib.hid hpx
        have IHC := Lib.hid (fun u v5 (h1 : ChI V u N0 N1 L R0 (l ++ [(q : Int)]) v5) (h2 : ChC w1 u fid c1 c2 c3 c4 N k N0 L X1 X2 X3 X4 B0) => HIH.out (f - 1) (by omega) (l ++ [(q : Int)]) (q + 1) v5 u HPX.out (by omega) (by rw [HNL.out]; omega) (by rw [HNL.out]; omega) h1 h2)
        have HHN := Lib.hid (show (cqT N k (f - 1) l s (j + 1)).all p = (cqP N k (f - 1) (l ++ [(q : Int)]) (q + 1)).all p by
          rw [HSU.out, List.all_append, HALL.out, Bool.true_and])
        generalize (cqP N k (f - 1) (l ++ [(q : Int)]) (q + 1)).all p = G at IHC HHN
        have hszE := HIE.out.sz
        have hM0 : 0 < M := by omega
        have hP6 : P ≤ 6 := by omega
        have HRL2 := Lib.hid (show RowI wE N0 (.slice aE P cE) l from HIE.out.rl)
        have HLA := Lib.hid (HIE.out.cl.alloc (.cells #[.int .i64 (q : Int)] 3))
        have HNE := Lib.hid (row_ne_ty HRL2.out HIE.out.cl (by decide))
        have HPU := Lib.hid (show ∀ (wm : World) (v5 : Value), RowI wm N0 v5 (l ++ [(q : Int)]) → (wE.alloc (.cells #[.int .i64 (q : Int)] 3)).grownBy wm (Value.slice aE P cE).ownBlock → (v5.ownBlock = (Value.slice aE P cE).ownBlock ∨ v5.ownBlock = some (wE.alloc (.cells #[.int .i64 (q : Int)] 3)).heap.size) → (wE.alloc (.cells #[.int .i64 (q : Int)] 3)).heap.size ≤ wm.heap.size → ChI V (wm.setCell ⟨L, 0, none⟩ v5) N0 N1 L R0 (l ++ [(q : Int)]) v5 from fun wm v5 g1 g2 g3 g4 => ChI.push (fun h1 h2 => HH.out.loc h1 h2) HH.out.lt HIE.out HL.out g1 g2 g3 g4)
        have HFB := Lib.hid (show ∀ (wm : World), Below N0 (wE.alloc (.cells #[.int .i64 (q : Int)] 3)) wm → (wE.alloc (.cells #[.int .i64 (q : Int)] 3)).grownBy wm (Value.slice aE P cE).ownBlock → ∀ g5 cap5, FrP N1 (QP N0 L R0 B0) w (wm.setCell ⟨L, 0, none⟩ (.slice (some ⟨g5, 0, none⟩) M cap5)) from fun wm hbm hgr g5 cap5 => by
          have h2 : FrP N1 (QP N0 L R0 B0) wE (wE.alloc (.cells #[.int .i64 (q : Int)] 3)) := FrP.of_below (Below.alloc (Below.refl N1 _) (by omega) _) (Nat.le_refl _)
          have h2b : FrP N1 (QP N0 L R0 B0) (wE.alloc (.cells #[.int .i64 (q : Int)] 3)) wm := ⟨hbm.os, hbm.tape, hbm.output, hbm.size, fun x hx hn => hgr.block x (by simp; omega) (fun e => by
            rcases HIE.out.rb x e.symm with h | h
            · exact hn (Or.inr (Or.inr h))
            · omega)⟩
          have h3 : FrP N1 (QP N0 L R0 B0) wm (wm.setCell ⟨L, 0, none⟩ (.slice (some ⟨g5, 0, none⟩) M cap5)) := FrP.of_chg (Chg.set L 0 wm _) (by have := hbm.size; simp at this; omega) (Or.inr (Or.inl rfl))
          exact ((HCH.out.trans h2).trans h2b).trans h3)
        have eq1 : IntKind.i64.wrap ((q : Int) + 1) = ((q + 1 : Nat) : Int) := by rw [i64_small (by omega) (by omega)]; omega
        clear hM hpx hi hch hrE kL kN kV kK fLE
        go_wp2_with (at_builtin; refine wpList_appB rfl _ _ rfl N0 _ 0 1 _ l [(q : Int)] M (by rw [HPL.out]; exact HNN.out) rfl rfl (RowI.alloc' HRL2.out) (rdI_one _ _ _ (by simp)) (by rw [HPL.out]; omega) (by simp) (by have := HL.out.n; simp; omega) ?_; intro v5 wm hown hsh hbm hgr hob; obtain ⟨g5, cap5, rfl, _⟩ := hsh (by omega); have hLm := HLA.out.grown hgr HNE.out; have kLm := hLm.cell? (i := 0) rfl; have fLm := hLm.frozen 0; have HP5 := Lib.hid (HPU.out wm _ hown hgr hob hbm.size); have HCX5 := Lib.hid (HFB.out wm hbm hgr g5 cap5); have HC5 := Lib.hid (HC.out.chg HL.out HCX5.out); have kX5 := HC5.out.x; unfold nxC at kX5; clear hown hsh hgr hob hLm kLE)
        have C6 := IHC.out _ _ HP5.out HC5.out
        refine C6.mono ?_
        rintro e w6 ⟨rfl, hv6, hi6, hch6⟩
        have HV6 := Lib.hid hv6
        have HCH6 := Lib.hid (HCX5.out.trans hch6)
        cases G
        case false =>
          have hDf := HPRE.out j (by omega) HHN.out
          subst hDf
          clear hi6 hch6 hv6 kX5 kLm fLm
          go_wp2_with fail
          go_ret
          exact ⟨rfl, HV6.out, (fun h => by cases h), HCH6.out⟩
        case true =>
          obtain ⟨vl6, hi6⟩ := hi6 rfl
          obtain ⟨g6, cap6, rfl, _⟩ := hi6.rl.shpA (by rw [HNL.out]; omega)
          rw [HNL.out] at hi6
          have kL6 := hi6.cl.cell? (i := 0) rfl
          have fL6 := hi6.cl.frozen 0
          have hcp6 := (hi6.rl.preA HPL.out HNN.out).2
          have HI6 := Lib.hid (ChI.pop (fun h1 h2 => HH.out.loc h1 h2) HH.out.lt hi6 HL.out HPL.out HNN.out)
          have hsz6 := hi6.sz
          have HCH7 := Lib.hid (HCH6.out.trans (FrP.of_chg (Chg.set L 0 w6 (.slice (some ⟨g6, 0, none⟩) P cap6)) hsz6 (Or.inr (Or.inl rfl))))
          have eN : IntKind.i64.wrap ((M : Int) - 1) = (P : Int) := by
            have hM7 := HNN.out
            rw [i64_small (by omega) (by omega)]; omega
          have z1 : (0 : Int) ≤ (P : Int) := by omega
          have z2 : (P : Int) ≤ (cap6 : Int) := by omega
          clear kX5 kLm fLm hi6 hch6 HP5 HC5 HCX5 IHC hbm hv6 C6
          go_wp2_with fail
          go_roundw
          case rel => exact ⟨j + 1, by omega, by go_num, HHN.out, ⟨_, HI6.out⟩, HCH7.out⟩
          case measure => simp [intOf]; omega
end
end Go.Proofs.Ytnbenpalneodlaa
