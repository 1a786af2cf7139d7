/-
  The parts of a matrix of rank one: the program's and the reference's. By an AI agent.
-/
import Derived.Test.YtnbenpalneodlaaRkS
import Derived.Deep.RegionLaw
namespace Go.Proofs.Ytnbenpalneodlaa
open Go.RowKit

def p1L (R : Nat) (m : Nat → Nat → Int) : List Int := tab R fun i => m i 0
def p2L (C : Nat) (m : Nat → Nat → Int) : List Int := tab C fun k => m 0 k - m 0 0
def PaR (B : Bool) (U V : List Int) (w : World) (e : Ending) (w' : World) : Prop := ∃ a1 c1 a2 c2, e = .returned (.tuple #[.slice a1 (onL B U).length c1, .slice a2 (onL B V).length c2, .bool B]) ∧ RdI w' a1 (onL B U) ∧ RdI w' a2 (onL B V) ∧ Below w.heap.size w w'
theorem PaR.no {U V : List Int} {w w' : World} (hb : Below w.heap.size w w') : PaR false U V w (.returned (.tuple #[.slice none 0 0, .slice none 0 0, .bool false])) w' := ⟨none, 0, none, 0, rfl, RdI.nil _ _, RdI.nil _ _, hb⟩
theorem PaR.yes {U V : List Int} {w w' : World} {a1 a2 : Option Addr} {n1 n2 c1 c2 : Nat} (h1 : RdI w' a1 U) (h2 : RdI w' a2 V) (e1 : U.length = n1) (e2 : V.length = n2) (hb : Below w.heap.size w w') : PaR true U V w (.returned (.tuple #[.slice a1 n1 c1, .slice a2 n2 c2, .bool true])) w' := by
  subst e1; subst e2
  exact ⟨a1, c1, a2, c2, rfl, h1, h2, hb⟩
theorem row_rd {w : World} {B n cap : Nat} {ad : Option Addr} {xs : List Int} (h : RowI w B (.slice ad n cap) xs) : RdI w ad xs := (CellO.of_row h).rd

set_option maxHeartbeats 6400000 in
set_option maxRecDepth 100000 in
theorem iRankParts_c (ad : Option Addr) (cap : Nat) (M : List (List Int)) (w : World) (hr : RdM w ad M) (hl : smM M) :
    Calls Try.prog 9 #[.slice ad M.length cap] w (PaR (matB M && r1B M.length (colN M) (entM M)) (p1L M.length (entM M)) (p2L (colN M) (entM M)) w) := by
  have C1 := Lib.hid (isMatrix_c ad cap M w hr (by have := hl.1; omega) (fun i hi => by have := hl.2 i hi; omega))
  have C2 := Lib.hid (fun (h : matB M = true) u (hb : Below w.heap.size w u) => by
    obtain ⟨h1, h2, _, h4, h5⟩ := mat_facts h
    exact isRankOne_c M.length (colN M) ad cap (entM M) u (by rw [h5]; exact hr.below hb) h1 h2 h4)
  have HF := Lib.hid (fun (h : matB M = true) => mat_facts h)
  have HR := Lib.hid hr
  clear hr hl
  obtain ⟨B, hB⟩ : ∃ B, matB M = B := ⟨_, rfl⟩
  rw [hB] at C1 C2 HF ⊢
  have HRG := Lib.hid (fun (h : B = true) u (hb : Below w.heap.size w u) => show RdM u ad (toG M.length (colN M) (entM M)) by rw [(HF.out h).2.2.2.2]; exact HR.out.below hb)
  have HN := Lib.hid (fun (h : B = true) => (⟨(HF.out h).1, (HF.out h).2.1, (HF.out h).2.2.2.1⟩ : (1 ≤ M.length ∧ M.length ≤ 6) ∧ (1 ≤ colN M ∧ colN M ≤ 6) ∧ ∀ a b, a < M.length → b < colN M → numB (entM M a b) = true))
  clear hB HF HR
  generalize M.length = R at C1 C2 HRG HN ⊢
  generalize colN M = C at C2 HRG HN ⊢
  generalize entM M = m at C2 HRG HN ⊢
  cases B
  · rw [Bool.false_and]
    clear C2 HRG HN
    go_enter Try.func9, Try.ntmps9
    go_wp2_with fail
    refine C1.out.mono ?_
    rintro e w1 ⟨rfl, hb1⟩
    go_wp2_with fail
    exact bodyPost_ret (v := .tuple #[.slice none 0 0, .slice none 0 0, .bool false]) (by simp [results, Try.results9, go_sem]) rfl (PaR.no hb1)
  · rw [Bool.true_and]
    have D2 := Lib.hid (C2.out rfl)
    have DG := Lib.hid (HRG.out rfl)
    obtain ⟨hR, hC, hnum⟩ := HN.out rfl
    obtain ⟨T, hT⟩ : ∃ T, r1B R C m = T := ⟨_, rfl⟩
    rw [hT] at D2 ⊢
    clear C2 HRG HN
    cases T
    · clear DG hnum
      go_enter Try.func9, Try.ntmps9
      go_wp2_with fail
      refine C1.out.mono ?_
      rintro e w1 ⟨rfl, hb1⟩
      go_wp2_with fail
      refine (D2.out _ hb1).mono ?_
      rintro e w2 ⟨rfl, hb2⟩
      have hb3 := ball hb1 hb2
      go_wp2_with fail
      exact bodyPost_ret (v := .tuple #[.slice none 0 0, .slice none 0 0, .bool false]) (by simp [results, Try.results9, go_sem]) rfl (PaR.no hb3)
    · have hone := r1B_t.1 hT
      have hfin : ∀ a b, a < R → b < C → -1000000 ≤ m a b ∧ m a b ≤ 1000000 := fun a b ha hb => by
        have h1 := numB_t (hnum a b ha hb)
        have h2 := (hone a b ha hb).1
        omega
      have CT := Lib.hid (fun u (hb : Below w.heap.size w u) => show Calls Try.prog 33 #[.slice ad R cap] u fun e w' => ∃ g a c, e = .returned (.slice (some ⟨g, 0, none⟩) C C) ∧ w'.cell? ⟨g, 0, none⟩ = some (.slice a R c) ∧ RdI w' a (p1L R m) ∧ Below u.heap.size u w' from by
        refine (transposedG_c R C ad cap m u (DG.out u hb) hR hC).mono ?_
        rintro e w' ⟨g, rfl, ⟨ts, htr⟩, hbt⟩
        obtain ⟨bT, oT, a, c, eT, hlT, hcT, hrT⟩ := htr.rdG (F := fun i j => m j i) (by omega) 0 (by rw [toG_len]; omega)
        injection eT with eT
        injection eT with e1 e2 _
        subst e1; subst e2
        rw [toG_row _ (by omega)] at hcT hrT
        rw [tab_length] at hcT
        exact ⟨g, a, c, rfl, by rw [Nat.zero_add] at hcT; exact hcT, hrT, hbt⟩)
      have CC := Lib.hid (fun a c u (h : RdI u a (p1L R m)) => show Calls Try.prog 32 #[.slice a R c] u fun e w' => ∃ g cap', e = .returned (.slice (some ⟨g, 0, none⟩) R cap') ∧ RdI w' (some ⟨g, 0, none⟩) (p1L R m) ∧ Below u.heap.size u w' from by
        have hlen : (p1L R m).length = R := tab_length _ _
        have k := cloneI_c a c (p1L R m) u h (by rw [hlen]; omega) (by rw [hlen]; omega)
        rw [hlen] at k
        refine k.mono ?_
        rintro e w' ⟨g, cap', rfl, hrow, _, hb⟩
        exact ⟨g, cap', rfl, row_rd hrow, hb⟩)
      obtain ⟨Q, hQ⟩ : ∃ Q, m 0 0 = Q := ⟨_, rfl⟩
      have hQb := hfin 0 0 (by omega) (by omega)
      rw [hQ] at hQb
      have hrow0 : ∀ u, Below w.heap.size w u → ∃ bM oM b0 o0 c0, ad = some ⟨bM, oM, none⟩ ∧ u.cell? ⟨bM, oM, none⟩ = some (.slice (some ⟨b0, o0, none⟩) C c0) ∧ RdI u (some ⟨b0, o0, none⟩) (tab C fun k => m 0 k) := fun u hb => by
        obtain ⟨bM, oM, e, hbM, hrow⟩ := (DG.out u hb).rowG (by omega) (by omega)
        obtain ⟨b0, o0, c0, e0, hl0, hc0⟩ := hrow 0 (by omega)
        exact ⟨bM, oM, b0, o0, c0, e, by rw [Nat.add_zero] at e0; exact e0, fun j hj => by
          rw [tab_length] at hj
          exact ⟨b0, o0, rfl, hl0, by rw [tab_getD hj]; exact hc0 j hj⟩⟩
      have CS := Lib.hid (fun a c u (h : RdI u a (tab C fun k => m 0 k)) => show Calls Try.prog 25 #[.slice a C c, .int .i64 (-Q)] u fun e w' => ∃ g cap', e = .returned (.slice (some ⟨g, 0, none⟩) C cap') ∧ RdI w' (some ⟨g, 0, none⟩) (p2L C m) ∧ Below u.heap.size u w' from by
        have hlen : (tab C fun k => m 0 k).length = C := tab_length _ _
        have k := shifted_c a c (tab C fun k => m 0 k) (-Q) u h (by rw [hlen]; omega) (by rw [hlen]; omega) (by omega) (fun i hi => by rw [hlen] at hi; rw [tab_getD hi]; have := hfin 0 i (by omega) hi; omega)
        rw [hlen] at k
        refine k.mono ?_
        rintro e w' ⟨g, cap', rfl, hrow, hb⟩
        have e1 : ((tab C fun k => m 0 k).map fun x => prodZ x (-Q)) = p2L C m := by
          unfold p2L tab
          rw [List.map_map]
          refine List.map_congr_left fun j hj => ?_
          rw [List.mem_range] at hj
          have h5 := hfin 0 j (by omega) hj
          simp only [Function.comp]
          unfold prodZ
          rw [if_neg (by omega), hQ]
          omega
        rw [e1] at hrow
        exact ⟨g, cap', rfl, row_rd hrow, hb⟩)
      have HL1 := Lib.hid (show (p1L R m).length = R from tab_length _ _)
      have HL2 := Lib.hid (show (p2L C m).length = C from tab_length _ _)
      have HQ := Lib.hid (fun u (h : RdI u (some ⟨0, 0, none⟩) []) => h)
      have HRW := Lib.hid hrow0
      have HQ0 := Lib.hid hQ
      have y0 : 0 < R := by omega
      have y1 : 0 < C := by omega
      have en : IntKind.i64.wrap (-Q) = -Q := i64_small (by omega) (by omega)
      generalize p1L R m = U at CT CC HL1 ⊢
      generalize p2L C m = V at CS HL2 ⊢
      clear hone hfin hnum hT hQ hrow0 DG HQ
      go_enter Try.func9, Try.ntmps9
      go_wp2_with fail
      refine C1.out.mono ?_
      rintro e w1 ⟨rfl, hb1⟩
      go_wp2_with fail
      refine (D2.out _ hb1).mono ?_
      rintro e w2 ⟨rfl, hb2⟩
      have hb3 := ball hb1 hb2
      obtain ⟨bM, oM, b0, o0, c0, rfl, k0, hr0⟩ := HRW.out w2 hb3
      have kq : w2.cell? ⟨b0, o0, none⟩ = some (.int .i64 Q) := by
        have := hr0.at (j := 0) (by rw [tab_length]; omega)
        rw [tab_getD (by omega), HQ0.out, Nat.add_zero] at this
        exact this
      have HB3 := Lib.hid hb3
      have HR0 := Lib.hid hr0
      have HK := Lib.hid (fun W (hb : Below w2.heap.size w2 W) => (⟨bcell' hb k0, bcell' hb kq⟩ : W.cell? ⟨bM, oM, none⟩ = some (.slice (some ⟨b0, o0, none⟩) C c0) ∧ W.cell? ⟨b0, o0, none⟩ = some (.int .i64 Q)))
      clear hr0 hb3 hb1 hb2
      go_wp2_with fail
      go_region_law (first
          | (go_simp; go_at_call 33; (refine (CT.out _ (HB3.out.trans ((show Below w2.heap.size w2 _ by first | exact (Below.refl _ _).drew | exact hS2).mono HB3.out.size))).mono ?_); rintro e W1 ⟨gT, aT, cT, rfl, kT, hrT, hbT⟩; have hT2 : Below w2.heap.size w2 W1 := (by first | exact ball (Below.refl _ _).drew hbT | exact ball hS2 hbT); have HRT := Lib.hid hrT; obtain ⟨m1, m2⟩ := HK.out W1 hT2; clear hrT)
          | (go_simp; go_at_call 25; (refine (CS.out _ _ _ (by first | exact HR0.out.below (Below.refl _ _).drew | exact HR0.out.below hC2 | exact HR0.out.below hT2)).mono ?_); rintro e W2 ⟨gS, cS, rfl, hrS, hbS⟩; have hS2 : Below w2.heap.size w2 W2 := (by first | exact ball (Below.refl _ _).drew hbS | exact ball hC2 hbS | exact ball hT2 hbS); have HRS := Lib.hid hrS; obtain ⟨m1, m2⟩ := HK.out W2 hS2; (first | (have kT := bcell' hbS kT) | skip); clear hrS)
          | (go_simp; go_at_call 32; (refine (CC.out _ _ _ (by first | exact HRT.out | exact HRT.out.below hbS)).mono ?_); rintro e W3 ⟨gC, cC, rfl, hrC, hbC⟩; have hC2 : Below w2.heap.size w2 W3 := (by first | exact ball hT2 hbC | exact ball hS2 hbC); have HRC := Lib.hid hrC; obtain ⟨m1, m2⟩ := HK.out W3 hC2; clear hrC)
          | fail)
      all_goals
        go_simp
        go_wp2_with fail
        refine bodyPost_ret (v := .tuple #[.slice (some ⟨gC, 0, none⟩) R cC, .slice (some ⟨gS, 0, none⟩) C cS, .bool true]) (by simp [results, Try.results9, go_sem]) rfl ?_
        first
          | exact PaR.yes (HRC.out.below hbS) HRS.out HL1.out HL2.out (HB3.out.trans (hS2.mono HB3.out.size))
          | exact PaR.yes HRC.out (HRS.out.below hbC) HL1.out HL2.out (HB3.out.trans (hC2.mono HB3.out.size))
          | exact PaR.yes HRC.out ((HRS.out.below hbT).below hbC) HL1.out HL2.out (HB3.out.trans (hC2.mono HB3.out.size))
          | fail
end Go.Proofs.Ytnbenpalneodlaa
