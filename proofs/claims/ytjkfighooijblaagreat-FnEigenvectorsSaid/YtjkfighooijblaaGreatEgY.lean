/-
  The circuits of the program, whatever visits them: the call. By an AI agent.
-/
import Derived.Test.YtjkfighooijblaaGreatEgX
import Derived.Laws.EntriesVeiled
namespace Go.Proofs.YtjkfighooijblaaGreat
open Go.RowKit

theorem Own.newHG (w : World) (c : Array Value) (E : TypeId) {cs : List Value} {H : Nat} (h : c.toList = cs) (hH : w.heap.size = H) : Own (w.alloc (.cells c E)) H E cs := by subst hH; exact Own.newA w c E h
section
variable {σ τ : Type} {V : World → σ → τ → Prop} {fp : τ → Nat → Prop} {step : σ → List Int → σ} {fid : FuncId} {c1 c2 c3 c4 : Value} {w1 : World} {n N0 N1 L Mb Vb Xb : Nat} {B0 : Nat → Prop} {m : Nat → Nat → Int}
theorem GoI.start (hV : ∀ {w w' : World} {s : σ} {vb : τ}, V w s vb → (∀ q, fp vb q → w'.heap[q]? = w.heap[q]?) → V w' s vb) (hlt : ∀ {w : World} {s : σ} {vb : τ} {q : Nat}, V w s vb → fp vb q → q < w.heap.size) {w : World} {s : σ} {vl : Value} {vb : τ} {i : Int} (hs : N1 ≤ w.heap.size) (hne : ∀ q, fp vb q → q ≠ L) (hl : Own w L 25 [vl]) (hv : V w s vb) (hf : ∀ q, fp vb q → (q < N0 ∧ B0 q) ∨ N1 ≤ q) :
    GoI V fp ((w.alloc (.cells #[.int .i64 i] 3)).setCell ⟨L, 0, none⟩ (.slice (some ⟨w.heap.size, 0, none⟩) 1 1)) N0 N1 L B0 [i] s (.slice (some ⟨w.heap.size, 0, none⟩) 1 1) vb := by
  have hr : RowI (w.alloc (.cells #[.int .i64 i] 3)) N1 (.slice (some ⟨w.heap.size, 0, none⟩) 1 1) [i] := rowI_single w N1 _ i hs rfl
  have hl2 := hl.alloc (.cells #[.int .i64 i] 3)
  refine ⟨by simp; omega, hl2.set 0 _, ownsRow_setCell_other hr (row_ne_ty hr hl2 (by decide)) _, hV hv (fun q hq => ?_), hf, fun q hq e => ?_⟩
  · rw [Deep.blk_setCell_other _ _ _ _ (hne q hq), Deep.blk_alloc_lt _ _ _ (hlt hv hq)]
  · have := hlt hv hq
    simp only [Value.ownBlock, Option.some.injEq] at e
    omega

set_option maxHeartbeats 6400000 in
set_option maxRecDepth 100000 in
theorem circuitsV_c (ad : Option Addr) (cap : Nat) (w0 w : World) (s : σ) (vb : τ) (hm : RdM w0 ad (toM n m)) (hn : 1 ≤ n ∧ n ≤ 6) (hB0 : ∀ q, B0 q → w0.heap.size ≤ q) (hb01 : Below w0.heap.size w0 w) (hH : VisC V fp step fid c1 c2 c3 c4 n m w.heap.size B0 w) (hv : V w s vb) (hB : ∀ q, fp vb q → B0 q) :
    Calls Tryz.prog 59 #[.slice ad n cap, .func (Fn.func fid) #[] #[c1, c2, c3, c4]] w fun e w' => e = .returned (.tuple #[]) ∧ ∃ vb', V w' ((allC n m n).foldl step s) vb' ∧ FrP w.heap.size B0 w w' ∧ ∀ q, fp vb' q → B0 q ∨ w.heap.size ≤ q := by
  have HH := Lib.hid hH; have HV := Lib.hid hv; have HB := Lib.hid hB
  obtain ⟨h, hh⟩ : ∃ h, w.heap.size = h := ⟨_, rfl⟩
  have hLL : GoL h (h + 1 + 1 + 1 + 1 + 1) (h + 1 + 1 + 1) h (h + 1) (h + 1 + 1 + 1 + 1) := ⟨by omega, by omega, by omega, by omega, by omega⟩
  have HL := Lib.hid hLL
  have hH2 := hH
  rw [hh] at hH2
  have CN := Lib.hid (nextV_c (w1 := w) ad cap w0 hm hn hB0 (by have := hb01.size; omega) hb01 hH2 hLL (n - 1))
  have HQ := Lib.hid (show ∀ fv : Value, fv = nexF (h + 1 + 1 + 1) h (h + 1) (h + 1 + 1 + 1 + 1) → ∀ W, (((((w.alloc (.cells #[.slice ad n cap] 23)).alloc (.cells #[.func (Fn.func fid) #[] #[c1, c2, c3, c4]] 77)).alloc (.cells #[] 3)).alloc (.cells #[.slice (some ⟨h + 1 + 1, 0, none⟩) 0 0] 25)).alloc (.cells #[fv] 1)) = W → Own W (h + 1 + 1 + 1) 25 [.slice (some ⟨h + 1 + 1, 0, none⟩) 0 0] ∧ GoC w W fid c1 c2 c3 c4 ad n cap h (h + 1 + 1 + 1) h (h + 1) (h + 1 + 1 + 1 + 1) B0 ∧ V W s vb ∧ FrP h B0 w W ∧ h + 1 + 1 + 1 + 1 + 1 ≤ W.heap.size from fun fv hfv W hW => by
    obtain ⟨W1, hW1⟩ : ∃ W, w.alloc (.cells #[.slice ad n cap] 23) = W := ⟨_, rfl⟩
    have b1 : Below h w W1 := by rw [← hW1, ← hh]; exact bal_alloc (Below.refl _ _)
    have s1 : W1.heap.size = h + 1 := by rw [← hW1]; simp [hh]
    have o1 : Own W1 h 23 [.slice ad n cap] := by rw [← hW1]; exact Own.newHG _ _ _ rfl hh
    obtain ⟨W2, hW2⟩ : ∃ W, W1.alloc (.cells #[.func (Fn.func fid) #[] #[c1, c2, c3, c4]] 77) = W := ⟨_, rfl⟩
    have b2 : Below W1.heap.size W1 W2 := by rw [← hW2]; exact bal_alloc (Below.refl _ _)
    have s2 : W2.heap.size = h + 1 + 1 := by rw [← hW2]; simp [s1]
    have o2 : Own W2 (h + 1) 77 [.func (Fn.func fid) #[] #[c1, c2, c3, c4]] := by rw [← hW2]; exact Own.newHG _ _ _ rfl s1
    obtain ⟨W3, hW3⟩ : ∃ W, W2.alloc (.cells #[] 3) = W := ⟨_, rfl⟩
    have b3 : Below W2.heap.size W2 W3 := by rw [← hW3]; exact bal_alloc (Below.refl _ _)
    have s3 : W3.heap.size = h + 1 + 1 + 1 := by rw [← hW3]; simp [s2]
    obtain ⟨W4, hW4⟩ : ∃ W, W3.alloc (.cells #[.slice (some ⟨h + 1 + 1, 0, none⟩) 0 0] 25) = W := ⟨_, rfl⟩
    have b4 : Below W3.heap.size W3 W4 := by rw [← hW4]; exact bal_alloc (Below.refl _ _)
    have s4 : W4.heap.size = h + 1 + 1 + 1 + 1 := by rw [← hW4]; simp [s3]
    have o4 : Own W4 (h + 1 + 1 + 1) 25 [.slice (some ⟨h + 1 + 1, 0, none⟩) 0 0] := by rw [← hW4]; exact Own.newHG _ _ _ rfl s3
    obtain ⟨W5, hW5⟩ : ∃ W, W4.alloc (.cells #[fv] 1) = W := ⟨_, rfl⟩
    have b5 : Below W4.heap.size W4 W5 := by rw [← hW5]; exact bal_alloc (Below.refl _ _)
    have s5 : W5.heap.size = h + 1 + 1 + 1 + 1 + 1 := by rw [← hW5]; simp [s4]
    have o5 : Own W5 (h + 1 + 1 + 1 + 1) 1 [fv] := by rw [← hW5]; exact Own.newHG _ _ _ rfl s4
    have d4 := ball b4 b5
    have d3 := ball b3 d4
    have d2 := ball b2 d3
    have d1 : Below h w W5 := b1.trans (d2.mono (by omega))
    have hWW : W5 = W := by rw [← hW, ← hW5, ← hW4, ← hW3, ← hW2, ← hW1]
    subst hWW
    refine ⟨o4.belowAll b5, ⟨(o1.belowAll d2).cell? (i := 0) rfl, (o2.belowAll d3).cell? (i := 0) rfl, ?_, FrP.of_below d1 (Nat.le_refl _)⟩, HH.out.loc HV.out (fun q hq => d1.block q (by have := HH.out.lt HV.out hq; omega)), FrP.of_below d1 (Nat.le_refl _), by omega⟩
    rw [← hfv]
    exact o5.cell? (i := 0) rfl)
  have HBV := Lib.hid (show ∀ q, fp vb q → (q < h ∧ B0 q) ∨ h + 1 + 1 + 1 + 1 + 1 ≤ q from fun q hq => Or.inl ⟨by have := HH.out.lt HV.out hq; omega, HB.out q hq⟩)
  clear hH hv hB hm hH2 hb01 hB0 hLL
  unfold nexF at HQ
  go_enter Tryz.func59, Tryz.ntmps59
  go_wp2_with fail
  obtain ⟨W, hW⟩ : ∃ W, (((((w.alloc (.cells #[.slice ad n cap] 23)).alloc (.cells #[.func (Fn.func fid) #[] #[c1, c2, c3, c4]] 77)).alloc (.cells #[] 3)).alloc (.cells #[.slice (some ⟨h + 1 + 1, 0, none⟩) 0 0] 25)).alloc (.cells #[.func (Fn.func 86) #[] #[.pointer (some ⟨h + 1 + 1 + 1, 0, none⟩), .pointer (some ⟨h, 0, none⟩), .pointer (some ⟨h + 1, 0, none⟩), .pointer (some ⟨h + 1 + 1 + 1 + 1, 0, none⟩)]] 1)) = W := ⟨_, rfl⟩
  have HQ2 := Lib.hid (HQ.out _ rfl W hW)
  rw [hW]
  clear hW HQ
  go_loopw [11] (fun i wr => ∃ j : Nat, j ≤ n ∧ i = .int .i64 j ∧ (∃ vl vb', Own wr (h + 1 + 1 + 1) 25 [vl] ∧ V wr ((allC n m j).foldl step s) vb' ∧ (∀ q, fp vb' q → (q < h ∧ B0 q) ∨ h + 1 + 1 + 1 + 1 + 1 ≤ q)) ∧ GoC w wr fid c1 c2 c3 c4 ad n cap h (h + 1 + 1 + 1) h (h + 1) (h + 1 + 1 + 1 + 1) B0 ∧ FrP h B0 w wr ∧ h + 1 + 1 + 1 + 1 + 1 ≤ wr.heap.size) (fun i _ => n - (intOf i).toNat)
  case atStart => exact ⟨0, Nat.zero_le _, rfl, ⟨_, vb, HQ2.out.1, HQ2.out.2.2.1, HBV.out⟩, HQ2.out.2.1, HQ2.out.2.2.2.1, HQ2.out.2.2.2.2⟩
  case round =>
    obtain ⟨wE, rfl⟩ : ∃ x : World, x = wr := ⟨_, rfl⟩
    obtain ⟨j, hj, rfl, ⟨vl, vb', hol, hve, hfe⟩, hc, hch, hsz⟩ := hrel
    have HC := Lib.hid hc; have HCH := Lib.hid hch; have HVE := Lib.hid hve; have HFE := Lib.hid hfe
    by_cases hlt : j < n
    case neg =>
      obtain rfl : j = n := by omega
      clear hol hc hch hve hfe
      go_wp2_with fail
      go_end0
      exact ⟨rfl, vb', HVE.out, by rw [hh]; exact HCH.out, fun q hq => by
        rcases HFE.out q hq with g | g
        · exact Or.inl g.2
        · exact Or.inr (by omega)⟩
    case pos =>
      have hne : ∀ q, fp vb' q → q ≠ h + 1 + 1 + 1 := fun q hq => by
        rcases hfe q hq with g | g <;> omega
      have HS := Lib.hid (GoI.start (V := V) (fp := fp) (i := (j : Int)) (fun h1 h2 => HH.out.loc h1 h2) (fun h1 h2 => HH.out.lt h1 h2) hsz hne hol hve hfe)
      have k1 := (hol.alloc (.cells #[.int .i64 (j : Int)] 3)).cell? (i := 0) rfl
      have f1 := (hol.alloc (.cells #[.int .i64 (j : Int)] 3)).frozen 0
      have HX := Lib.hid (show FrP (h + 1 + 1 + 1 + 1 + 1) (GP h (h + 1 + 1 + 1) B0) wE ((wE.alloc (.cells #[.int .i64 (j : Int)] 3)).setCell ⟨h + 1 + 1 + 1, 0, none⟩ (.slice (some ⟨wE.heap.size, 0, none⟩) 1 1)) from (FrP.of_below (bal_alloc (Below.refl _ _)) hsz).trans (FrP.of_chg (Chg.set _ _ _ _) (by simp; omega) (Or.inr rfl)))
      have HC2 := Lib.hid (hc.chg HL.out HX.out)
      have kx := HC2.out.x
      unfold nexF at kx
      have HA := Lib.hid (allC_succ n m j)
      have hP := Pth.one m hlt
      have CN2 := Lib.hid (CN.out [(j : Int)] _ _ vb' _ hP (by simp; omega) HS.out HC2.out)
      have hX := Lib.hid (show FrP h B0 w ((wE.alloc (.cells #[.int .i64 (j : Int)] 3)).setCell ⟨h + 1 + 1 + 1, 0, none⟩ (.slice (some ⟨wE.heap.size, 0, none⟩) 1 1)) from HCH.out.trans (HX.out.mono (by omega) (fun q hq e => by
        rcases e with ⟨_, e⟩ | e
        · exact e
        · omega)))
      clear hol hc hch hve hfe hP hne
      go_wp2_with fail
      refine CN2.out.mono ?_
      rintro e w2 ⟨rfl, ⟨vl6, vb6, hi6⟩, hch6⟩
      have HI6 := Lib.hid hi6; have HCH6 := Lib.hid hch6
      have HC6 := Lib.hid (HC2.out.chg HL.out hch6)
      have HX6 := Lib.hid (show FrP h B0 w w2 from hX.out.trans (hch6.mono (by omega) (fun q hq e => by
        rcases e with ⟨_, e⟩ | e
        · exact e
        · omega)))
      have hsz6 := hi6.sz
      clear hi6 hch6 k1 f1 kx
      go_wp2_with fail
      go_roundw
      case rel => exact ⟨j + 1, by omega, by go_num, ⟨vl6, vb6, HI6.out.cl, by rw [HA.out, List.foldl_append]; exact HI6.out.v, HI6.out.fpb⟩, HC6.out, HX6.out, hsz6⟩
      case measure => simp [intOf]; omega
end
end Go.Proofs.YtjkfighooijblaaGreat
