/-
  The draw of prices. By an AI agent.
-/
import Derived.Test.YtjlkgioinogbkaaAsY
import Derived.Deep.RegionLaw
namespace Go.Proofs.Ytjlkgioinogbkaa
open Go.RowKit

/-- an address from B on. -/
def AdO (B : Nat) (ad : Option Addr) : Prop := ∀ a, ad = some a → B ≤ a.block
theorem AdO.mono {B B' : Nat} {ad : Option Addr} (h : AdO B ad) (hB : B' ≤ B) : AdO B' ad := fun a ha => Nat.le_trans hB (h a ha)
theorem AdO.of_cell {w : World} {B n cap : Nat} {ad : Option Addr} {xs : List Int} (h : CellO w B (.slice ad n cap) xs) : AdO B ad := fun a ha => by
  subst ha
  exact (h.lt (q := a.block) rfl).1
theorem AdO.of_row {w : World} {B n cap : Nat} {ad : Option Addr} {xs : List Int} (h : RowI w B (.slice ad n cap) xs) : AdO B ad := AdO.of_cell (CellO.of_row h)
theorem RdI.chgO {w w' : World} {c B : Nat} {ad : Option Addr} {xs : List Int} (h : RdI w ad xs) (hc : Chg c w w') (ho : AdO B ad) (hB : c < B) : RdI w' ad xs := fun j hj => by
  obtain ⟨b, off, e, hl, h1⟩ := h j hj
  have := ho _ e
  exact ⟨b, off, e, Nat.lt_of_lt_of_le hl hc.size, (World.cell?_of_block (hc.block b hl (by simp at this; omega))).trans h1⟩
def PrcD (c n : Nat) (w : World) (e : Ending) (w' : World) : Prop := ∃ (a1 a2 : Option Addr) (c1 c2 : Nat) (u v : List Int), e = .returned (.tuple #[.slice a1 u.length c1, .slice a2 v.length c2]) ∧ RdI w' a1 u ∧ RdI w' a2 v ∧ (AdO w.heap.size a1 ∧ AdO w.heap.size a2) ∧ u.length ≤ 7 ∧ v.length ≤ 7 ∧ Cur w' c n ∧ Chg c w w'

theorem row_ownI {w : World} {B g n cap : Nat} {xs : List Int} (h : RowI w B (.slice (some ⟨g, 0, none⟩) n cap) xs) : Own w g 3 (ints xs) := by
  rcases Own.of_row h with ⟨h1, _⟩ | ⟨g', cap', h1, _, _, _, ho⟩
  · cases h1
  · injection h1 with h1 _ _
    injection h1 with h1
    injection h1 with h1 _ _
    subst h1
    exact ho

theorem prices_end {w W1 wS : World} {c n m k g c1 c2 N B1 : Nat} {a2 : Option Addr} {U V : List Int} {y : Int} (hcl : c < w.heap.size) (h7 : N ≤ 7) (hg1 : g < B1) (hBg : w.heap.size ≤ g)
    (hU : U.length = N) (hV : V.length = N) (hcu : Cur W1 c m) (hch : Chg c w W1) (hrb : W1.ownsRow w.heap.size 3 1 (.slice (some ⟨g, 0, none⟩) N c1) (onL true U).length (ints (onL true U)))
    (hrv : CellO wS B1 (.slice a2 (onL true V).length c2) (onL true V)) (hz : Chg c wS W1) (hzB : w.heap.size ≤ B1) (hm : m ≤ n + 200) :
    PrcD c (n + 200) w (.returned (.tuple #[.slice (some ⟨g, 0, none⟩) N c1, .slice a2 N c2])) (W1.setCell ⟨g, k, none⟩ (.int .i64 y)) := by
  have hbw : Below w.heap.size W1 (W1.setCell ⟨g, k, none⟩ (.int .i64 y)) := (Below.refl w.heap.size W1).setCell (p := ⟨g, k, none⟩) hBg (.int .i64 y)
  have ho := (row_ownI (B := w.heap.size) (n := N) (cap := c1) (xs := U) hrb).set k (.int .i64 y)
  rw [ints_set] at ho
  refine ⟨some ⟨g, 0, none⟩, a2, c1, c2, U.set k y, V, by rw [List.length_set, hU, hV], ho.rd, ?_, ⟨fun a ha => by cases ha; exact hBg, AdO.mono (AdO.of_cell hrv) hzB⟩, by rw [List.length_set, hU]; exact h7, by rw [hV]; exact h7, (hcu.under hbw hcl).mono hm, hch.under hbw (Nat.le_refl _) (by simp)⟩
  exact (hrv.of_block (w' := W1.setCell ⟨g, k, none⟩ (.int .i64 y)) fun q hq => by
    have h1 := hrv.lt hq
    exact (Below.heap_setCell _ _ _ _ (by simp; omega)).trans (hz.block q h1.2 (by omega))).rd

set_option maxHeartbeats 3200000 in
set_option maxRecDepth 100000 in
theorem prices_c (ad : Option Addr) (cap : Nat) (M : List (List Int)) (c n : Nat) (w : World) (hr : RdM w ad M) (hl : smM M) (h7 : M.length ≤ 7) (h : Cur w c n) (hn : n ≤ 4611686018427350000) :
    Calls Try.prog 38 #[.pointer (some ⟨c, 0, none⟩), .slice ad M.length cap] w (PrcD c (n + 200) w) := by
  have hcl := h.lt
  have H := Lib.hid h; clear h
  have C1 := Lib.hid (sRowO_c ad cap M w hr hl)
  have C2 := Lib.hid (fun u (hb : Below w.heap.size w u) => sColumnO_c ad cap M u (hr.below hb) hl)
  have HLR := Lib.hid (show (rpL M).length = M.length from tab_length _ _)
  have HLC := Lib.hid (show (cpL M).length = M.length from tab_length _ _)
  have HN1 := Lib.hid (fun (h : rpB M = true) => show 1 ≤ M.length from by
    unfold rpB at h
    rw [Bool.and_eq_true] at h
    exact (sq_facts (bsB_sq h.1)).1.1)
  clear hr hl
  generalize rpL M = U at C1 HLR
  generalize cpL M = V at C2 HLC
  generalize rpB M = B1 at C1 HN1
  generalize cpB M = B2 at C2
  generalize M.length = N at C1 C2 HLR HLC HN1 h7 ⊢
  go_enter Try.func38, Try.ntmps38
  go_wp2_with fail
  refine C1.out.mono ?_
  rintro e w1 ⟨a1, c1, rfl, hrow, hb1⟩
  go_wp2_with fail
  refine (C2.out _ hb1).mono ?_
  rintro e w2 ⟨a2, c2, rfl, hrv, hb2⟩
  have hb3 := ball hb1 hb2
  have HU := Lib.hid (H.out.below hb3)
  have HF := Lib.hid (Chg.of_below (b := c) hb3)
  have HRW := Lib.hid (hrow.below hb2)
  have HR0 := Lib.hid hrow
  have HRV := Lib.hid hrv
  have hz3 := hb3.size
  clear hrow hrv C1 C2
  cases B1
  case false =>
    go_wp2_with fail
    refine (vector_c N c n w2 HU.out (by omega) h7).mono ?_
    rintro e w3 ⟨pv, ps, rfl, hps, hrowp, hcu, hch⟩
    obtain ⟨adp, capp, rfl, hrdp⟩ := hrowp.shape
    rw [hps]
    have HR3 := Lib.hid hrowp; have HU3 := Lib.hid hcu; have HF3 := Lib.hid (HF.out.trans hch); have HP3 := Lib.hid hps
    have hz4 := hch.size
    clear hrowp hcu hch hps hrdp
    go_wp2_with fail
    refine (vector_c N c (n + 60) w3 HU3.out (by omega) h7).mono ?_
    rintro e w4 ⟨qv, qs, rfl, hqs, hrowq, hcu, hch⟩
    obtain ⟨adq, capq, rfl, hrdq⟩ := hrowq.shape
    rw [hqs]
    have hr3 := CellO.rd (CellO.of_row (row_chg HR3.out hch (by omega)))
    have HAP := Lib.hid (AdO.mono (B' := w.heap.size) (AdO.of_row HR3.out) (by omega)); have HAQ := Lib.hid (AdO.mono (B' := w.heap.size) (AdO.of_row hrowq) (by omega))
    have HRP := Lib.hid hr3; have HRQ := Lib.hid hrdq; have HU4 := Lib.hid hcu; have HF4 := Lib.hid (HF3.out.trans hch); have HQ4 := Lib.hid hqs
    clear hrowq hcu hch hqs hrdq hr3
    go_wp2_with fail
    refine bodyPost_ret (v := .tuple #[.slice adp N capp, .slice adq N capq]) (by simp [results, Try.results38, go_sem]) rfl ?_
    exact ⟨adp, adq, capp, capq, ps, qs, by rw [HP3.out, HQ4.out], HRP.out, HRQ.out, ⟨HAP.out, HAQ.out⟩, by rw [HP3.out]; exact h7, by rw [HQ4.out]; exact h7, HU4.out.mono (by omega), HF4.out⟩
  case true =>
    cases B2
    case false =>
      go_wp2_with fail
      refine (vector_c N c (n) w2 HU.out (by omega) h7).mono ?_
      rintro e w3 ⟨pv, ps, rfl, hps, hrowp, hcu, hch⟩
      obtain ⟨adp, capp, rfl, hrdp⟩ := hrowp.shape
      rw [hps]
      have HR3 := Lib.hid hrowp; have HU3 := Lib.hid hcu; have HF3 := Lib.hid (HF.out.trans hch); have HP3 := Lib.hid hps
      have hz4 := hch.size
      clear hrowp hcu hch hps hrdp
      go_wp2_with fail
      refine (vector_c N c (n + 60) w3 HU3.out (by omega) h7).mono ?_
      rintro e w4 ⟨qv, qs, rfl, hqs, hrowq, hcu, hch⟩
      obtain ⟨adq, capq, rfl, hrdq⟩ := hrowq.shape
      rw [hqs]
      have hr3 := CellO.rd (CellO.of_row (row_chg HR3.out hch (by omega)))
      have HAP := Lib.hid (AdO.mono (B' := w.heap.size) (AdO.of_row HR3.out) (by omega)); have HAQ := Lib.hid (AdO.mono (B' := w.heap.size) (AdO.of_row hrowq) (by omega))
      have HRP := Lib.hid hr3; have HRQ := Lib.hid hrdq; have HU4 := Lib.hid hcu; have HF4 := Lib.hid (HF3.out.trans hch); have HQ4 := Lib.hid hqs
      clear hrowq hcu hch hqs hrdq hr3
      go_wp2_with fail
      refine bodyPost_ret (v := .tuple #[.slice adp N capp, .slice adq N capq]) (by simp [results, Try.results38, go_sem]) rfl ?_
      exact ⟨adp, adq, capp, capq, ps, qs, by rw [HP3.out, HQ4.out], HRP.out, HRQ.out, ⟨HAP.out, HAQ.out⟩, by rw [HP3.out]; exact h7, by rw [HQ4.out]; exact h7, HU4.out.mono (by omega), HF4.out⟩
    case true =>
      have hlu : (onL true U).length = N := HLR.out
      have hlv : (onL true V).length = N := HLC.out
      rw [hlu] at HRW ⊢
      rw [hlv]
      go_wp2_with fail
      refine (one_c 4 c n w2 HU.out (by omega)).mono ?_
      rintro e wQ ⟨b4, rfl, hcu, hch⟩
      have HU5 := Lib.hid hcu; have HF5 := Lib.hid (HF.out.trans hch)
      have HRW5 := Lib.hid (row_chg HRW.out hch hcl)
      have HRV5 := Lib.hid (HRV.out.of_block (w' := wQ) fun q hq => hch.block q (HRV.out.lt hq).2 (by have := (HRV.out.lt hq).1; have := hb1.size; omega))
      have hz5 := hch.size
      clear hcu hch
      cases b4
      case true =>
        go_wp2_with fail
        refine (vector_c N c (n + 2) wQ HU5.out (by omega) h7).mono ?_
        rintro e w3 ⟨pv, ps, rfl, hps, hrowp, hcu, hch⟩
        obtain ⟨adp, capp, rfl, hrdp⟩ := hrowp.shape
        rw [hps]
        have HR3 := Lib.hid hrowp; have HU3 := Lib.hid hcu; have HF3 := Lib.hid (HF5.out.trans hch); have HP3 := Lib.hid hps
        have hz4 := hch.size
        clear hrowp hcu hch hps hrdp
        go_wp2_with fail
        refine (vector_c N c (n + 2 + 60) w3 HU3.out (by omega) h7).mono ?_
        rintro e w4 ⟨qv, qs, rfl, hqs, hrowq, hcu, hch⟩
        obtain ⟨adq, capq, rfl, hrdq⟩ := hrowq.shape
        rw [hqs]
        have hr3 := CellO.rd (CellO.of_row (row_chg HR3.out hch (by omega)))
        have HAP := Lib.hid (AdO.mono (B' := w.heap.size) (AdO.of_row HR3.out) (by omega)); have HAQ := Lib.hid (AdO.mono (B' := w.heap.size) (AdO.of_row hrowq) (by omega))
        have HRP := Lib.hid hr3; have HRQ := Lib.hid hrdq; have HU4 := Lib.hid hcu; have HF4 := Lib.hid (HF3.out.trans hch); have HQ4 := Lib.hid hqs
        clear hrowq hcu hch hqs hrdq hr3
        go_wp2_with fail
        refine bodyPost_ret (v := .tuple #[.slice adp N capp, .slice adq N capq]) (by simp [results, Try.results38, go_sem]) rfl ?_
        exact ⟨adp, adq, capp, capq, ps, qs, by rw [HP3.out, HQ4.out], HRP.out, HRQ.out, ⟨HAP.out, HAQ.out⟩, by rw [HP3.out]; exact h7, by rw [HQ4.out]; exact h7, HU4.out.mono (by omega), HF4.out⟩
      case false =>
        have hN1 := HN1.out trivial
        go_wp2_with fail
        refine (one_c 3 c (n + 2) wQ HU5.out (by omega)).mono ?_
        rintro e wR ⟨b3, rfl, hcu, hch⟩
        have HU6 := Lib.hid hcu; have HF6 := Lib.hid (HF5.out.trans hch)
        have HRW6 := Lib.hid (row_chg HRW5.out hch hcl)
        have HRV6 := Lib.hid (HRV5.out.of_block (w' := wR) fun q hq => hch.block q (HRV5.out.lt hq).2 (by have := (HRV5.out.lt hq).1; have := hb1.size; omega))
        have hz6 := hch.size
        clear hcu hch
        cases b3
        case false =>
          have hru : RdI wR a1 U := CellO.rd (B := w.heap.size) (n := N) (cap := c1) (CellO.of_row HRW6.out)
          have hrv : RdI wR a2 V := CellO.rd HRV6.out
          have HRU7 := Lib.hid hru; have HRV7 := Lib.hid hrv
          have HAU7 := Lib.hid (AdO.of_row (show RowI wR w.heap.size (.slice a1 N c1) U from HRW6.out)); have HAV7 := Lib.hid (AdO.mono (B' := w.heap.size) (AdO.of_cell HRV6.out) hb1.size)
          clear hru hrv
          go_wp2_with fail
          refine bodyPost_ret (v := .tuple #[.slice a1 N c1, .slice a2 N c2]) (by simp [results, Try.results38, go_sem]) rfl ?_
          exact ⟨a1, a2, c1, c2, U, V, by rw [HLR.out, HLC.out], HRU7.out, HRV7.out, ⟨HAU7.out, HAV7.out⟩, by rw [HLR.out]; exact h7, by rw [HLC.out]; exact h7, HU6.out.mono (by omega), HF6.out⟩
        case true =>
          obtain ⟨g, capg, eg, hBg⟩ := RowI.own (w := wR) (B := w.heap.size) (v := .slice a1 N c1) (xs := U) HRW6.out (by rw [HLR.out]; omega)
          rw [HLR.out] at eg
          injection eg with eg q1 q2
          subst eg
          clear q1 q2
          go_wp2_with fail
          refine (pick_c (N : Int) c (n + 2 + 2) wR HU6.out (by omega)).mono ?_
          rintro e wS ⟨x, rfl, hx, hcu, hch⟩
          obtain ⟨k, rfl⟩ : ∃ k : Nat, x = (k : Int) := ⟨x.toNat, by omega⟩
          have hkN : k < N := by omega
          have HU7 := Lib.hid hcu; have HF7 := Lib.hid (HF6.out.trans hch)
          have HRW7 := Lib.hid (row_chg HRW6.out hch hcl)
          have HRV7 := Lib.hid (HRV6.out.of_block (w' := wS) fun q hq => hch.block q (HRV6.out.lt hq).2 (by have := (HRV6.out.lt hq).1; have := hb1.size; omega))
          have hz7 := hch.size
          clear hcu hch
          have k5 := (show RdI wS (some ⟨g, 0, none⟩) U from CellO.rd (B := w.heap.size) (n := N) (cap := c1) (CellO.of_row HRW7.out)).at (j := k) (by rw [HLR.out]; exact hkN)
          rw [Nat.zero_add] at k5
          generalize U.getD k 0 = X at k5
          have x1 : (0 : Int) ≤ (k : Int) := by omega
          have x2 : (k : Int) < (N : Int) := by omega
          have hgc : g ≠ c := by omega
          have hg1 : g < w1.heap.size := by
            have h9 := HR0.out
            rw [hlu] at h9
            exact (row_ownI h9).lt
          have hz9 : w.heap.size ≤ w1.heap.size := hb1.size
          have k6 : ∀ o, (wS.alloc o).cell? ⟨g, k, none⟩ = some (.int .i64 X) := fun o => cell_alloc' k5
          go_wp2_with fail
          go_region_law (first
              | (go_simp; go_at_call 67; (refine (among_c wS.heap.size 2 [1, -1] c (n + 2 + 2 + 2) _ (by with_reducible repeat (first | exact HU7.out | apply Cur.alloc' | apply Cur.drew')) (by omega) (by simp) (by simp) (by first | omega | (simp; omega)) (by first | exact (Own.newA _ _ 3 rfl).drew | exact (Own.newA _ _ 3 rfl))).mono ?_); rintro e W1 ⟨z, rfl, -, hcu, hch⟩; have hchD := Chg.trans (Chg.of_below (b := c) ((Below.refl wS.heap.size wS).alloc (Nat.le_refl _) (.cells #[.int .i64 1, .int .i64 (-1)] 3)).drew) hch; have HUB := Lib.hid hcu; have HFB := Lib.hid (HF7.out.trans hchD); have m5 := hchD.cell hgc k5; have HRB := Lib.hid (row_chg HRW7.out hchD hcl); have f5 := (row_ownI (B := w.heap.size) (n := N) (cap := c1) (xs := U) HRB.out).frozen k; have HZ := Lib.hid hchD; clear hcu hch hchD)
              | fail)
          all_goals
            go_wp2_with fail
            refine bodyPost_ret (v := .tuple #[.slice (some ⟨g, 0, none⟩) N c1, .slice a2 N c2]) (by simp [results, Try.results38, go_sem]) rfl ?_
            exact prices_end hcl h7 hg1 hBg HLR.out HLC.out HUB.out HFB.out HRB.out HRV7.out HZ.out hz9 (by omega)
end Go.Proofs.Ytjlkgioinogbkaa
