/-
  The first regular part of a size, the tropical rank: the program's. By an AI agent.
-/
import Derived.Test.YtnbenpalneodlaaRkD
namespace Go.Proofs.Ytnbenpalneodlaa
open Go.RowKit

/-- Two variables of lists. -/
def VfR (T1 T2 : Nat) (w : World) : Prop := (∃ a n c, Own w T1 23 [.slice a n c]) ∧ ∃ a n c, Own w T2 23 [.slice a n c]
def BfR (T1 T2 : Nat) (q : Nat) : Prop := q = T1 ∨ q = T2
theorem VfR.loc {T1 T2 : Nat} {w w' : World} (h : VfR T1 T2 w) (hq : ∀ q, BfR T1 T2 q → w'.heap[q]? = w.heap[q]?) : VfR T1 T2 w' := by
  obtain ⟨⟨a, n, c, h1⟩, ⟨a2, n2, c2, h2⟩⟩ := h
  exact ⟨⟨a, n, c, h1.of_block (hq T1 (Or.inl rfl))⟩, ⟨a2, n2, c2, h2.of_block (hq T2 (Or.inr rfl))⟩⟩
theorem RdI.frO {w w' : World} {N : Nat} {P : Nat → Prop} {ad : Option Addr} {xs : List Int} (h : RdI w ad xs) (hf : FrP N P w w') (hN : w.heap.size ≤ N) (hP : ∀ a, ad = some a → ¬ P a.block) : RdI w' ad xs := fun j hj => by
  obtain ⟨b, off, e, hl, h1⟩ := h j hj
  exact ⟨b, off, e, Nat.lt_of_lt_of_le hl hf.size, hf.cell (p := ⟨b, off + j, none⟩) (by simp; omega) (show ¬ P b from hP _ e) h1⟩
theorem ptM_num {R C : Nat} {m : Nat → Nat → Int} (hnum : ∀ a b, a < R → b < C → numB (m a b) = true) {r c : List Int} (hr : vtB R r = true) (hc : vtB C c = true) {n : Nat} (hlr : r.length = n) (hlc : c.length = n) : ∀ i j, i < n → j < n → numB (ptM m r c i j) = true := fun i j hi hj =>
  hnum _ _ (vt_at hr (t := i) (by omega)).2 (vt_at hc (t := j) (by omega)).2

set_option maxHeartbeats 3200000 in
set_option maxRecDepth 100000 in
theorem inVis_c (R C n : Nat) (ad : Option Addr) (cap : Nat) (m : Nat → Nat → Int) (Mb Rb T1 T2 : Nat) (ar : Option Addr) (capr : Nat) (r : List Int) (al : Option Addr) (cl : Nat) (c : List Int) (w : World) (hr : RdM w ad (toG R C m)) (hR : 1 ≤ R ∧ R ≤ 6) (hC : 1 ≤ C ∧ C ≤ 6) (hn : 1 ≤ n ∧ n ≤ 6) (hnum : ∀ a b, a < R → b < C → numB (m a b) = true) (hT : T1 ≠ T2)
    (km : w.cell? ⟨Mb, 0, none⟩ = some (.slice ad R cap)) (kr : w.cell? ⟨Rb, 0, none⟩ = some (.slice ar n capr)) (hrr : RdI w ar r) (hvr : vtB R r = true) (hlr : r.length = n) (hcc : RdI w al c) (hvc : vtB C c = true) (hlc : c.length = n) (hv : VfR T1 T2 w) :
    Calls Try.prog 68 #[.slice al n cl, .pointer (some ⟨Mb, 0, none⟩), .pointer (some ⟨Rb, 0, none⟩), .pointer (some ⟨T1, 0, none⟩), .pointer (some ⟨T2, 0, none⟩)] w fun e w' => e = .returned (.bool (!regF n (ptM m r c))) ∧ VfR T1 T2 w' ∧ FrP w.heap.size (BfR T1 T2) w w' := by
  have C1 := Lib.hid (partOf_c R C n ad cap m ar capr r al cl c w hr hR hC hrr hcc hvr hvc hlr hlc hn)
  have hptn := ptM_num hnum hvr hvc hlr hlc
  have C2 := Lib.hid (fun ad' cap' u (h : RdM u ad' (toM n (ptM m r c))) => isRegular_c n ad' cap' (ptM m r c) u h hn hptn)
  have C3 := Lib.hid (fun u (hb : Below w.heap.size w u) => cloneI_c ar capr r u (hrr.below hb) (by omega) (by omega))
  have C4 := Lib.hid (fun u (hb : Below w.heap.size w u) => cloneI_c al cl c u (hcc.below hb) (by omega) (by omega))
  rw [hlr] at C3
  rw [hlc] at C4
  obtain ⟨⟨a1, n1, c1, ho1⟩, ⟨a2, n2, c2, ho2⟩⟩ := hv
  have HO1 := Lib.hid ho1; have HO2 := Lib.hid ho2
  clear hr hrr hcc hvr hvc hlr hlc hnum hptn ho1 ho2
  generalize ptM m r c = F at C1 C2 ⊢
  generalize regF n F = B at C2 ⊢
  cases B
  · clear C3 C4
    go_enter Try.func68, Try.ntmps68
    go_wp2_with fail
    refine C1.out.mono ?_
    rintro e w1 ⟨ad', cap', rfl, hrd, hb1⟩
    have C5 := Lib.hid (C2.out ad' cap' w1 hrd)
    clear hrd
    go_wp2_with fail
    refine C5.out.mono ?_
    rintro e w2 ⟨rfl, hb2⟩
    have hb := ball hb1 hb2
    go_wp2_with fail
    go_ret
    exact ⟨rfl, ⟨⟨a1, n1, c1, HO1.out.belowAll hb⟩, ⟨a2, n2, c2, HO2.out.belowAll hb⟩⟩, FrP.of_below hb (Nat.le_refl _)⟩
  · go_enter Try.func68, Try.ntmps68
    go_wp2_with fail
    refine C1.out.mono ?_
    rintro e w1 ⟨ad', cap', rfl, hrd, hb1⟩
    have C5 := Lib.hid (C2.out ad' cap' w1 hrd)
    clear hrd
    go_wp2_with fail
    refine C5.out.mono ?_
    rintro e w2 ⟨rfl, hb2⟩
    have hb := ball hb1 hb2
    have kr2 := bcell' hb kr
    go_wp2_with fail
    refine (C3.out _ hb).mono ?_
    rintro e w3 ⟨g3, cp3, rfl, -, -, hb3⟩
    have hb' := ball hb hb3
    go_wp2_with fail
    refine (C4.out _ hb').mono ?_
    rintro e w4 ⟨g4, cp4, rfl, -, -, hb4⟩
    have hb5 := ball hb' hb4
    have p1 := HO1.out.belowAll hb5
    have p2 := HO2.out.belowAll hb5
    have k1 := p1.cell? (i := 0) rfl
    have k2 := p2.cell? (i := 0) rfl
    have f1 := p1.frozen 0
    have f2 := p2.frozen 0
    have HS1 := Lib.hid ((p1.set 0 (.slice (some ⟨g3, 0, none⟩) n cp3)).setOther (a := ⟨T2, 0, none⟩) hT (.slice (some ⟨g4, 0, none⟩) n cp4))
    have HS2 := Lib.hid ((p2.setOther (a := ⟨T1, 0, none⟩) hT.symm (.slice (some ⟨g3, 0, none⟩) n cp3)).set 0 (.slice (some ⟨g4, 0, none⟩) n cp4))
    have HF := Lib.hid (show FrP w.heap.size (BfR T1 T2) w ((w4.setCell ⟨T1, 0, none⟩ (.slice (some ⟨g3, 0, none⟩) n cp3)).setCell ⟨T2, 0, none⟩ (.slice (some ⟨g4, 0, none⟩) n cp4)) from ((FrP.of_below hb5 (Nat.le_refl _)).trans (FrP.of_chg (Chg.set T1 0 w4 _) hb5.size (Or.inl rfl))).trans (FrP.of_chg (Chg.set T2 0 _ _) (by have := hb5.size; simp; omega) (Or.inr rfl)))
    clear p1 p2 km kr kr2
    go_wp2_with fail
    go_ret
    exact ⟨rfl, ⟨⟨_, _, _, HS1.out⟩, ⟨_, _, _, HS2.out⟩⟩, HF.out⟩

/-- what the outer visitor asks. -/
def inB6 (C n : Nat) (m : Nat → Nat → Int) (r : List Int) : Bool := (cqA C n).all fun c => !regF n (ptM m r c)
theorem inCh_c (R C n : Nat) (ad : Option Addr) (cap : Nat) (m : Nat → Nat → Int) (Mb Rb T1 T2 : Nat) (ar : Option Addr) (capr : Nat) (r : List Int) (w0 u : World) (hr : RdM w0 ad (toG R C m)) (hb : Below w0.heap.size w0 u) (hR : 1 ≤ R ∧ R ≤ 6) (hC : 1 ≤ C ∧ C ≤ 6) (hn : 1 ≤ n ∧ n ≤ 6) (hnum : ∀ a b, a < R → b < C → numB (m a b) = true) (hT : T1 ≠ T2)
    (h1 : w0.heap.size ≤ T1 ∧ T1 < u.heap.size) (h2 : w0.heap.size ≤ T2 ∧ T2 < u.heap.size) (hM : Mb ≠ T1 ∧ Mb ≠ T2) (hRb : Rb ≠ T1 ∧ Rb ≠ T2)
    (km : u.cell? ⟨Mb, 0, none⟩ = some (.slice ad R cap)) (kr : u.cell? ⟨Rb, 0, none⟩ = some (.slice ar n capr)) (hrr : RdI u ar r) (har : ∀ a, ar = some a → a.block ≠ T1 ∧ a.block ≠ T2) (hvr : vtB R r = true) (hlr : r.length = n) (hv : VfR T1 T2 u) :
    Calls Try.prog 66 #[.int .i64 C, .int .i64 n, .func (Fn.func 68) #[] #[.pointer (some ⟨Mb, 0, none⟩), .pointer (some ⟨Rb, 0, none⟩), .pointer (some ⟨T1, 0, none⟩), .pointer (some ⟨T2, 0, none⟩)]] u fun e w' => e = .returned (.bool (inB6 C n m r)) ∧ VfR T1 T2 w' ∧ FrP u.heap.size (BfR T1 T2) u w' := by
  refine choices_c (V := VfR T1 T2) (p := fun c => !regF n (ptM m r c)) (B0 := BfR T1 T2) u hC.2 hn.2 ⟨callFunc_plainM Try.func68 (by kernel_rfl) (by kernel_rfl), fun {q} hq => by rcases hq with rfl | rfl <;> omega, fun h hq => h.loc hq, fun w l al cl hvw hl _ hll hch hf => ?_⟩ hv
  have hbw : Below w0.heap.size w0 w := hb.trans (hf.below hb.size (fun q hq e => by rcases e with e | e <;> omega))
  have hcell : ∀ {X : Nat} {v : Value}, X ≠ T1 ∧ X ≠ T2 → u.cell? ⟨X, 0, none⟩ = some v → w.cell? ⟨X, 0, none⟩ = some v := fun {X v} hX hc => hf.cell (p := ⟨X, 0, none⟩) (cell_lt hc) (by rintro (e | e); exact hX.1 e; exact hX.2 e) hc
  exact inVis_c R C n ad cap m Mb Rb T1 T2 ar capr r al cl l w (hr.below hbw) hR hC hn hnum hT (hcell hM km) (hcell hRb kr) (hrr.frO hf (Nat.le_refl _) (fun a ha => by rintro (e | e); exact (har a ha).1 e; exact (har a ha).2 e)) hvr hlr hl hch.vt hll hvw

set_option maxHeartbeats 3200000 in
set_option maxRecDepth 100000 in
theorem outVis_c (R C n : Nat) (ad : Option Addr) (cap : Nat) (m : Nat → Nat → Int) (Mb Nb T1 T2 : Nat) (al : Option Addr) (cl : Nat) (r : List Int) (w0 w : World) (hr : RdM w0 ad (toG R C m)) (hb : Below w0.heap.size w0 w) (hR : 1 ≤ R ∧ R ≤ 6) (hC : 1 ≤ C ∧ C ≤ 6) (hn : 1 ≤ n ∧ n ≤ 6) (hnum : ∀ a b, a < R → b < C → numB (m a b) = true) (hT : T1 ≠ T2)
    (h1 : w0.heap.size ≤ T1 ∧ T1 < w.heap.size) (h2 : w0.heap.size ≤ T2 ∧ T2 < w.heap.size) (hM : Mb ≠ T1 ∧ Mb ≠ T2) (hNb : Nb ≠ T1 ∧ Nb ≠ T2)
    (km : w.cell? ⟨Mb, 0, none⟩ = some (.slice ad R cap)) (kn : w.cell? ⟨Nb, 0, none⟩ = some (.int .i64 n)) (hrr : RdI w al r) (har : ∀ a, al = some a → a.block ≠ T1 ∧ a.block ≠ T2) (hvr : vtB R r = true) (hlr : r.length = n) (hv : VfR T1 T2 w) :
    Calls Try.prog 67 #[.slice al n cl, .pointer (some ⟨Mb, 0, none⟩), .pointer (some ⟨Nb, 0, none⟩), .pointer (some ⟨T1, 0, none⟩), .pointer (some ⟨T2, 0, none⟩)] w fun e w' => e = .returned (.bool (inB6 C n m r)) ∧ VfR T1 T2 w' ∧ FrP w.heap.size (BfR T1 T2) w w' := by
  obtain ⟨bM, oM, rfl, hbM, hrow⟩ := hr.rowG (by omega) (by omega)
  obtain ⟨b2, o2, c2, e2, hl2, hc2⟩ := hrow 0 (by omega)
  rw [Nat.add_zero] at e2
  have e2 := bcell hb hbM e2
  have y0 : 0 < R := by omega
  have HK := Lib.hid (show ∀ W1, FrP w.heap.size (BfR T1 T2) w W1 → W1.cell? ⟨Mb, 0, none⟩ = some (.slice (some ⟨bM, oM, none⟩) R cap) ∧ W1.cell? ⟨Nb, 0, none⟩ = some (.int .i64 n) ∧ W1.cell? ⟨bM, oM, none⟩ = some (.slice (some ⟨b2, o2, none⟩) C c2) from fun W1 hf =>
    ⟨hf.cell (p := ⟨Mb, 0, none⟩) (cell_lt km) (by rintro (e | e); exact hM.1 e; exact hM.2 e) km, hf.cell (p := ⟨Nb, 0, none⟩) (cell_lt kn) (by rintro (e | e); exact hNb.1 e; exact hNb.2 e) kn, hf.cell (p := ⟨bM, oM, none⟩) (cell_lt e2) (by rintro (e | e) <;> simp at e <;> omega) e2⟩)
  have HW := Lib.hid (show ∀ u, Below w.heap.size w u → Own u w.heap.size 23 [.slice al n cl] → Calls Try.prog 66 #[.int .i64 C, .int .i64 n, .func (Fn.func 68) #[] #[.pointer (some ⟨Mb, 0, none⟩), .pointer (some ⟨w.heap.size, 0, none⟩), .pointer (some ⟨T1, 0, none⟩), .pointer (some ⟨T2, 0, none⟩)]] u fun e w' => e = .returned (.bool (inB6 C n m r)) ∧ VfR T1 T2 w' ∧ FrP w.heap.size (BfR T1 T2) w w' from fun u hu ho =>
    (inCh_c R C n _ cap m Mb w.heap.size T1 T2 al cl r w0 u hr (ball hb hu) hR hC hn hnum hT ⟨h1.1, Nat.lt_of_lt_of_le h1.2 hu.size⟩ ⟨h2.1, Nat.lt_of_lt_of_le h2.2 hu.size⟩ hM ⟨by omega, by omega⟩ (bcell' hu km) (ho.cell? (i := 0) rfl) (hrr.below hu) har hvr hlr (hv.loc fun q hq => hu.block q (by rcases hq with rfl | rfl; exact h1.2; exact h2.2))).mono fun e w' ⟨g1, g2, g3⟩ => ⟨g1, g2, (FrP.of_below hu (Nat.le_refl _)).trans (g3.mono hu.size (fun q _ e => e))⟩)
  have kM := cell_alloc' (o := .cells #[.slice al n cl] 23) km
  have kN := cell_alloc' (o := .cells #[.slice al n cl] 23) kn
  have kR := cell_alloc' (o := .cells #[.slice al n cl] 23) e2
  have HOW := Lib.hid (Own.newA w #[.slice al n cl] 23 rfl)
  have hbW := bal_alloc (o := .cells #[.slice al n cl] 23) (Below.refl w.heap.size w)
  have HBW := Lib.hid hbW
  clear hr hrr hvr hlr hnum hrow hc2 km kn e2 hv hbW
  go_enter Try.func67, Try.ntmps67
  go_wp2_with fail
  go_region_held3 (fun w' => w'.cell? ⟨Mb, 0, none⟩ = some (.slice (some ⟨bM, oM, none⟩) R cap) ∧ w'.cell? ⟨Nb, 0, none⟩ = some (.int .i64 n) ∧ w'.cell? ⟨bM, oM, none⟩ = some (.slice (some ⟨b2, o2, none⟩) C c2)) (with_reducible repeat' (first | apply And.intro | assumption | apply cell_alloc' | apply cell_drew'))
    (first
      | (go_at_call 66; (refine (HW.out _ (by with_reducible repeat (first | exact HBW.out | apply Below.drew)) (by first | exact HOW.out | exact HOW.out.drew)).mono ?_); rintro e W1 ⟨rfl, hv1, hf1⟩; obtain ⟨m1, m2, m3⟩ := HK.out W1 hf1; have HV1 := Lib.hid hv1; have HF1 := Lib.hid hf1; clear hv1 hf1)
      | fail)
  go_wp2_with fail
  go_ret
  exact ⟨rfl, HV1.out, HF1.out⟩
end Go.Proofs.Ytnbenpalneodlaa
