/-
  The parts of a matrix of rank one: the reference's. By an AI agent.
-/
import Derived.Test.YtnbenpalneodlaaRkT
namespace Go.Proofs.Ytnbenpalneodlaa
open Go.RowKit

set_option maxHeartbeats 6400000 in
set_option maxRecDepth 100000 in
theorem sRankParts_c (ad : Option Addr) (cap : Nat) (M : List (List Int)) (w : World) (hr : RdM w ad M) (hl : smM M) :
    Calls Try.prog 12 #[.slice ad M.length cap] w (PaR (matB M && r1B M.length (colN M) (entM M)) (p1L M.length (entM M)) (p2L (colN M) (entM M)) w) := by
  have C1 := Lib.hid (mxGood_c ad cap M w hr (by have := hl.1; omega) (fun i hi => by have := hl.2 i hi; omega))
  have C2 := Lib.hid (fun (h : matB M = true) => by
    obtain ⟨h1, h2, _, h4, h5⟩ := mat_facts h
    exact rkOne_c M.length (colN M) ad cap (entM M) w (by rw [h5]; exact hr) h1 h2 h4)
  have HF := Lib.hid (fun (h : matB M = true) => mat_facts h)
  have HR := Lib.hid hr
  clear hr hl
  obtain ⟨B, hB⟩ : ∃ B, matB M = B := ⟨_, rfl⟩
  rw [hB] at C1 C2 HF ⊢
  have HRG := Lib.hid (fun (h : B = true) => show RdM w ad (toG M.length (colN M) (entM M)) by rw [(HF.out h).2.2.2.2]; exact HR.out)
  have HN := Lib.hid (fun (h : B = true) => (⟨(HF.out h).1, (HF.out h).2.1, (HF.out h).2.2.2.1⟩ : (1 ≤ M.length ∧ M.length ≤ 6) ∧ (1 ≤ colN M ∧ colN M ≤ 6) ∧ ∀ a b, a < M.length → b < colN M → numB (entM M a b) = true))
  clear hB HF HR
  generalize M.length = R at C1 C2 HRG HN ⊢
  generalize colN M = C at C2 HRG HN ⊢
  generalize entM M = m at C2 HRG HN ⊢
  cases B
  · rw [Bool.false_and]
    clear C2 HRG HN
    go_enter Try.func12, Try.ntmps12
    go_wp2_with fail
    refine C1.out.mono ?_
    rintro e w1 ⟨rfl, rfl⟩
    go_wp2_with fail
    exact bodyPost_ret (v := .tuple #[.slice none 0 0, .slice none 0 0, .bool false]) (by simp [results, Try.results12, go_sem]) rfl (PaR.no (Below.refl _ _))
  · rw [Bool.true_and]
    have D2 := Lib.hid (C2.out rfl)
    have hrg := HRG.out rfl
    obtain ⟨hR, hC, hnum⟩ := HN.out rfl
    obtain ⟨T, hT⟩ : ∃ T, r1B R C m = T := ⟨_, rfl⟩
    rw [hT] at D2 ⊢
    clear C2 HRG HN
    cases T
    · clear hrg hnum
      go_enter Try.func12, Try.ntmps12
      go_wp2_with fail
      refine C1.out.mono ?_
      rintro e w1 ⟨rfl, rfl⟩
      go_wp2_with fail
      refine D2.out.mono ?_
      rintro e w2 ⟨rfl, hb2⟩
      go_wp2_with fail
      exact bodyPost_ret (v := .tuple #[.slice none 0 0, .slice none 0 0, .bool false]) (by simp [results, Try.results12, go_sem]) rfl (PaR.no hb2)
    · have hone := r1B_t.1 hT
      have hfin : ∀ a b, a < R → b < C → -1000000 ≤ m a b ∧ m a b ≤ 1000000 := fun a b ha hb => by
        have h1 := numB_t (hnum a b ha hb)
        have h2 := (hone a b ha hb).1
        omega
      obtain ⟨bM, oM, rfl, hbM, hrow⟩ := hrg.rowG (by omega) (by omega)
      obtain ⟨b0, o0, c0, e0, hl0, hc0⟩ := hrow 0 (by omega)
      rw [Nat.add_zero] at e0
      have HROW := Lib.hid hrow; have HC0 := Lib.hid hc0; have HE0 := Lib.hid e0; have HFIN := Lib.hid hfin
      have HU1 := Lib.hid (show p1L R m = tab R (fun i => m i 0) from rfl)
      have HU2 := Lib.hid (show p2L C m = tab C (fun k => m 0 k - m 0 0) from rfl)
      generalize p1L R m = U at HU1 ⊢
      generalize p2L C m = V at HU2 ⊢
      have y0 : 0 < R := by omega
      have y1 : 0 < C := by omega
      clear hone hfin hnum hT hrg hrow hc0 e0
      go_enter Try.func12, Try.ntmps12
      go_wp2_with fail
      refine C1.out.mono ?_
      rintro e w1 ⟨rfl, rfl⟩
      go_wp2_with fail
      refine D2.out.mono ?_
      rintro e w2 ⟨rfl, hb2⟩
      have hs2 := hb2.size
      go_wp2_with fail
      go_loopw [5, 21] (fun v i wr => ∃ k : Nat, k ≤ R ∧ i = .int .i64 k ∧ RowI wr w2.heap.size v ((tab R fun i => m i 0).take k) ∧ Below w2.heap.size w2 wr) (fun _ i _ => R - (intOf i).toNat)
      case atStart => exact ⟨0, Nat.zero_le _, rfl, RowI.nil _ _, Below.refl _ _⟩
      case round =>
        obtain ⟨wE, rfl⟩ : ∃ x : World, x = wr := ⟨_, rfl⟩
        obtain ⟨k, hk, rfl, hro, hbE⟩ := hrel
        have hbw := ball hb2 hbE
        have hjl := tab_takeL R (fun i => m i 0) hk
        have hszE := hbE.size
        by_cases hlt : k < R
        case pos =>
          have hsj := tab_takeS R (fun i => m i 0) hlt
          obtain ⟨b3, o3, c3, e3, hl3, hc3⟩ := HROW.out k hlt
          have e3 := bcell hbw hbM e3
          have k3 := bcell hbw hl3 (hc3 0 y1)
          rw [Nat.add_zero] at k3
          generalize m k 0 = X at k3 hsj
          have HSJ := Lib.hid hsj
          obtain ⟨adr, car, rfl, _⟩ := hro.shape
          rw [hjl] at hro ⊢
          have HO := Lib.hid hro
          have HJL := Lib.hid hjl
          generalize (tab R (fun i => m i 0)).take k = T at HSJ HO HJL
          have x1 : (0 : Int) ≤ (k : Int) := by omega
          have x2 : (k : Int) < (R : Int) := by omega
          clear hro hsj hjl hc3
          go_wp2_with (at_builtin; refine wpList_appN rfl _ _ rfl w2.heap.size _ 0 1 (.slice adr k car) T [X] (k + 1) (by rw [HJL.out]; rfl) rfl rfl (RowI.alloc' HO.out) (rdI_one _ _ _ rfl) (by rw [HJL.out]; omega) (by simp) (by simp; omega) ?_; intro v5 wm hown hsh hbm hgr)
          have hb3 := (bal_alloc (o := .cells #[.int .i64 X] 3) hbE).trans hbm
          rw [← HSJ.out] at hown
          have HO5 := Lib.hid hown; clear hown hsh hgr hbm
          go_wp2_with fail
          go_roundw
          case rel => exact ⟨k + 1, by omega, by go_num, HO5.out, hb3⟩
          case measure => simp [intOf]; omega
        case neg =>
          obtain rfl : k = R := by omega
          rw [tab_all] at hro
          obtain ⟨ad5, cap5, rfl, _⟩ := hro.shape
          rw [tab_length] at hro ⊢
          have HRO := Lib.hid hro
          have e0 := bcell hbw hbM HE0.out
          clear hro
          go_wp2_with fail
          go_loopw [6, 36] (fun v i wr => ∃ j : Nat, j ≤ C ∧ i = .int .i64 j ∧ RowI wr wE.heap.size v ((tab C fun k => m 0 k - m 0 0).take j) ∧ Below wE.heap.size wE wr) (fun _ i _ => C - (intOf i).toNat)
          case atStart => exact ⟨0, Nat.zero_le _, rfl, RowI.nil _ _, Below.refl _ _⟩
          case round =>
            obtain ⟨wF, rfl⟩ : ∃ x : World, x = wr := ⟨_, rfl⟩
            obtain ⟨j, hj, rfl, hro, hbF⟩ := hrel
            have hbwF := ball hbw hbF
            have hjl := tab_takeL C (fun k => m 0 k - m 0 0) hj
            have hszF := hbF.size
            clear e0
            by_cases hlj : j < C
            case pos =>
              have hsj := tab_takeS C (fun k => m 0 k - m 0 0) hlj
              have e0 := bcell hbwF hbM HE0.out
              have kX := bcell hbwF hl0 (HC0.out j hlj)
              have kQ := bcell hbwF hl0 (HC0.out 0 y1)
              rw [Nat.add_zero] at kQ
              have bX := HFIN.out 0 j (by omega) hlj
              have bQ := HFIN.out 0 0 (by omega) y1
              obtain ⟨Z, hZ⟩ : ∃ Z, m 0 j - m 0 0 = Z := ⟨_, rfl⟩
              have eZ : IntKind.i64.wrap (m 0 j - m 0 0) = Z := by rw [i64_small (by omega) (by omega)]; exact hZ
              rw [hZ] at hsj
              generalize (tab C (fun k => m 0 k - m 0 0)).take j = T at hsj hro hjl
              clear hZ bX bQ
              have HSJ := Lib.hid hsj
              obtain ⟨adr, car, rfl, _⟩ := hro.shape
              rw [hjl] at hro ⊢
              have HO := Lib.hid hro
              have HJL := Lib.hid hjl
              clear HC0 HFIN
              have x1 : (0 : Int) ≤ (j : Int) := by omega
              have x2 : (j : Int) < (C : Int) := by omega
              clear hro hsj hjl
              go_wp2_with (at_builtin; refine wpList_appN rfl _ _ rfl wE.heap.size _ 0 1 (.slice adr j car) T [Z] (j + 1) (by rw [HJL.out]; rfl) rfl rfl (RowI.alloc' HO.out) (rdI_one _ _ _ rfl) (by rw [HJL.out]; omega) (by simp) (by simp; omega) ?_; intro v5 wm hown hsh hbm hgr)
              have hb3 := (bal_alloc (o := .cells #[.int .i64 Z] 3) hbF).trans hbm
              rw [← HSJ.out] at hown
              have HO5 := Lib.hid hown; clear hown hsh hgr hbm
              go_wp2_with fail
              go_roundw
              case rel => exact ⟨j + 1, by omega, by go_num, HO5.out, hb3⟩
              case measure => simp [intOf]; omega
            case neg =>
              obtain rfl : j = C := by omega
              rw [tab_all] at hro
              obtain ⟨ad6, cap6, rfl, _⟩ := hro.shape
              rw [tab_length] at hro ⊢
              have HR6 := Lib.hid (row_rd hro)
              have HR5 := Lib.hid ((row_rd HRO.out).below hbF)
              clear hro
              go_wp2_with fail
              refine bodyPost_ret (v := .tuple #[.slice ad5 k cap5, .slice ad6 j cap6, .bool true]) (by simp [results, Try.results12, go_sem]) rfl ?_
              exact PaR.yes (by rw [HU1.out]; exact HR5.out) (by rw [HU2.out]; exact HR6.out) (by rw [HU1.out]; exact tab_length _ _) (by rw [HU2.out]; exact tab_length _ _) hbwF
end Go.Proofs.Ytnbenpalneodlaa
