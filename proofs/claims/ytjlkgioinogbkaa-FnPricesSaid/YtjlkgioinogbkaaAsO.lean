/-
  The reference's row prices. By an AI agent.
-/
import Derived.Test.YtjlkgioinogbkaaAsN
import Derived.Test.YtjlkgioinogbkaaWyK
namespace Go.Proofs.Ytjlkgioinogbkaa
open Go.RowKit

set_option maxHeartbeats 1600000 in
theorem wyCostsB_c (n : Nat) (adm : Option Addr) (capm : Nat) (m : Nat → Nat → Int) (w : World) (hm : RdM w adm (toM n m)) (hn : 1 ≤ n ∧ n ≤ 6) (hnum : bd2 n m) :
    Calls Try.prog 52 #[.slice adm n capm] w fun e w' => ∃ ad cap, e = .returned (.tuple #[.slice ad n cap, .bool (okB n m)]) ∧ (∃ vs, MatO w' w.heap.size (.slice ad n cap) (toM n (bf n m n)) vs) ∧ Below w.heap.size w w' := by
  have HMM := Lib.hid hm
  have C0 := Lib.hid (wyStart_c n w hn)
  have hb9 : ∀ s, s ≤ n → ∀ a b, a < n → b < n → -1000000000 ≤ bf n m s a b ∧ bf n m s a b ≤ 1000000000 := fun s hs a b ha hb => by
    have := bf_bd2 hnum (s := s) ha hb
    omega
  have hm9 : ∀ a b, a < n → b < n → -1000000000 ≤ m a b ∧ m a b ≤ 1000000000 := fun a b ha hb => by have := hnum a b ha hb; omega
  have CS := Lib.hid (fun (s : Nat) (hs : s ≤ n) (u : World) (adc : Option Addr) (capc : Nat) (hc : RdM u adc (toM n (bf n m s))) (hb : Below w.heap.size w u) => wyStep_c n adm capm adc capc m (bf n m s) u (hm.below hb) hc hn hm9 (hb9 s hs))
  clear hm hb9 hm9 hnum
  obtain ⟨R, hR⟩ : ∃ R, okB n m = R := ⟨_, rfl⟩
  rw [hR]
  have HRR := Lib.hid hR; clear hR
  go_enter Try.func52, Try.ntmps52
  go_wp2_with fail
  refine C0.out.mono ?_
  rintro e w1 ⟨v, rfl, ⟨vs, hmat⟩, hb1⟩
  rw [← bf_zero n m] at hmat
  have HM1 := Lib.hid hmat; clear hmat C0
  go_wp2_with fail
  go_loopw [4, 10] (fun v i wr => ∃ (k : Nat) (vs : List Value), k ≤ n ∧ i = .int .i64 k ∧ MatO wr w.heap.size v (toM n (bf n m k)) vs ∧ Below w.heap.size w wr) (fun _ i _ => n - (intOf i).toNat)
  case atStart => exact ⟨0, vs, Nat.zero_le _, rfl, HM1.out, hb1⟩
  case round =>
    obtain ⟨wE, rfl⟩ : ∃ x : World, x = wr := ⟨_, rfl⟩
    obtain ⟨k, vs, hk, rfl, hmat, hbel⟩ := hrel
    obtain ⟨adv, cav, rfl, _⟩ := hmat.shape
    rw [toM_len] at hmat ⊢
    have HM := Lib.hid hmat
    have hsz := hbel.size
    have CK := Lib.hid (CS.out k hk wE adv cav hmat.rd hbel)
    clear hmat HM1
    by_cases hlt : k < n
    case pos =>
      clear HM
      go_wp2_with fail
      refine CK.out.mono ?_
      rintro e w2 ⟨v2, rfl, ⟨vs2, hmat⟩, hb2⟩
      rw [← bf_step] at hmat
      have HM2 := Lib.hid (hmat.mono hsz)
      have hb3 := ball hbel hb2
      clear hmat CK hb2
      go_wp2_with fail
      go_roundw
      case rel => exact ⟨k + 1, vs2, by omega, by go_num, HM2.out, hb3⟩
      case measure => simp [intOf]; omega
    case neg =>
      obtain rfl : k = n := by omega
      go_wp2_with fail
      refine CK.out.mono ?_
      rintro e w2 ⟨v2, rfl, ⟨vs2, hmat⟩, hb2⟩
      rw [← bf_step] at hmat
      obtain ⟨ad2, ca2, rfl, _⟩ := hmat.shape
      rw [toM_len] at hmat ⊢
      have HM2 := Lib.hid (HM.out.below hb2)
      have CW := wySame_c k adv cav ad2 ca2 (bf k m k) (bf k m (k + 1)) w2 HM2.out.rd hmat.rd hn
      rw [show decide (toM k (bf k m k) = toM k (bf k m (k + 1))) = R from HRR.out] at CW
      have HCW := Lib.hid CW
      have hb3 := ball hbel hb2
      clear hmat CK hb2 CW HM
      go_wp2_with fail
      refine HCW.out.mono ?_
      rintro e w3 ⟨rfl, hb4⟩
      have HM3 := Lib.hid (HM2.out.below hb4)
      go_wp2_with fail
      exact bodyPost_ret (v := .tuple #[.slice adv k cav, .bool R]) (by simp [results, Try.results52, go_sem]) rfl ⟨adv, cav, rfl, ⟨vs, HM3.out⟩, ball hb3 hb4⟩

set_option maxHeartbeats 12800000 in
set_option maxRecDepth 100000 in
theorem asRows_c (n : Nat) (ad : Option Addr) (cap : Nat) (m : Nat → Nat → Int) (A : List Int) (X : Int) (w : World) (hm : RdM w ad (toM n m)) (hB : BstA n m A)
    (hC : Calls Try.prog 29 #[.slice ad n cap] w fun e w' => ∃ g N cap', e = .returned (.tuple #[.slice (some ⟨g, 0, none⟩) N cap', .int .i64 X]) ∧ 0 < N ∧ g < w'.heap.size ∧ (∃ a c, w'.cell? ⟨g, 0, none⟩ = some (.slice a n c) ∧ RdI w' a A) ∧ Below w.heap.size w w') :
    Calls Try.prog 26 #[.slice ad n cap] w fun e w' => ∃ ad5 cap5 aA cA, e = .returned (.tuple #[.slice ad5 n cap5, .slice aA n cA]) ∧ RowI w' w.heap.size (.slice ad5 n cap5) (tab n (prU n m A)) ∧ RdI w' aA A ∧ Below w.heap.size w w' := by
  have hn := hB.n6
  have CB := Lib.hid hC
  have HVA := Lib.hid (fun i (hi : i < n) => vt_at hB.nd.vt (t := i) (by rw [hB.len]; exact hi))
  have HAT := Lib.hid (fun i (hi : i < n) => hB.at hi)
  have HNUM := Lib.hid (fun i j (hi : i < n) (hj : j < n) => numB_t (hB.num i j hi hj))
  have HLA := Lib.hid hB.len
  have HBD := Lib.hid hB.bd
  have HPU := Lib.hid (fun k => show prU n m A k = mnF 0 (fun i => bf n (stA m A) n i k) n from rfl)
  have HST := Lib.hid (fun i j => show stA m A i j = prodZ (m j (vx A i)) (-(m i (vx A i))) from rfl)
  have HM0 := Lib.hid hm
  obtain ⟨F, hF⟩ : ∃ F, stA m A = F := ⟨_, rfl⟩
  rw [hF] at HBD HPU HST
  obtain ⟨PF, hPF⟩ : ∃ PF, prU n m A = PF := ⟨_, rfl⟩
  rw [hPF] at HPU ⊢
  clear hm hB hC hF hPF
  go_enter Try.func26, Try.ntmps26
  go_wp2_with fail
  refine CB.out.mono ?_
  rintro e w1 ⟨g, N, cap1, rfl, hN, hg, ⟨aA, cA, hc, hrdA⟩, hb1⟩
  have HR := Lib.hid (HM0.out.below hb1)
  have HP := Lib.hid hrdA
  have x0 : (0 : Int) < (N : Int) := by omega
  clear hrdA CB HM0
  go_wp2_with fail
  go_loopw [7, 27] (fun v i wr => ∃ (a : Nat) (vs : List Value), a ≤ n ∧ i = .int .i64 a ∧ MatO wr w1.heap.size v ((toM n F).take a) vs ∧ Below w1.heap.size w1 wr) (fun _ i _ => n - (intOf i).toNat)
  case atStart => exact ⟨0, [], Nat.zero_le _, rfl, MatO.nil _ _, Below.refl _ _⟩
  case round =>
    obtain ⟨wE, rfl⟩ : ∃ x : World, x = wr := ⟨_, rfl⟩
    obtain ⟨k, vs, hk, rfl, hmat, hbel⟩ := hrel
    obtain ⟨adv, cav, rfl, _⟩ := hmat.shape
    have HM := Lib.hid hmat; clear hmat
    have htl := tab_takeL n (fun i => tab n (F i)) hk
    rw [show tab n (fun i => tab n (F i)) = toM n F from rfl] at htl
    by_cases hlt : k < n
    case neg =>
      obtain rfl : k = n := by omega
      have e1 := tab_all k (fun i => tab k (F i))
      rw [show tab k (fun i => tab k (F i)) = toM k F from rfl] at e1
      rw [e1] at HM htl ⊢
      rw [htl] at HM ⊢
      have CT := wyCostsB_c k adv cav F wE HM.out.rd hn HBD.out
      have HCT := Lib.hid CT
      have HPE := Lib.hid (HP.out.below hbel)
      clear CT HM e1 htl HR HVA HAT HNUM HST
      go_wp2_with fail
      refine HCT.out.mono ?_
      rintro e w2 ⟨adD, capD, rfl, ⟨vs2, hm2⟩, hb2⟩
      have HRD := Lib.hid hm2.rd
      have HPE2 := Lib.hid (HPE.out.below hb2)
      have hb20 := ball hbel hb2
      clear hm2 HCT
      go_wp2_with fail
      go_loopw [13, 73] (fun v i wr => ∃ q : Nat, q ≤ k ∧ i = .int .i64 q ∧ RowI wr w2.heap.size v ((tab k PF).take q) ∧ Below w2.heap.size w2 wr) (fun _ i _ => k - (intOf i).toNat)
      case atStart => exact ⟨0, Nat.zero_le _, rfl, RowI.nil _ _, Below.refl _ _⟩
      case round =>
        obtain ⟨wF, rfl⟩ : ∃ x : World, x = wr := ⟨_, rfl⟩
        obtain ⟨p, hp, rfl, hrow, hbf⟩ := hrel
        have htl := tab_takeL k PF hp
        by_cases hlt2 : p < k
        case neg =>
          obtain rfl : p = k := by omega
          rw [tab_all] at hrow
          obtain ⟨ad5, cap5, rfl, _⟩ := hrow.shape
          rw [tab_length] at hrow ⊢
          have HRW := Lib.hid hrow
          have hb9 := ball hb20 hbf
          have hb99 := ball hb1 hb9
          have hs9 := Nat.le_trans hb1.size hb20.size
          have HPE3 := Lib.hid (HPE2.out.below hbf)
          clear hrow
          go_wp2_with fail
          refine bodyPost_ret (v := .tuple #[.slice ad5 p cap5, .slice aA p cA]) (by simp [results, Try.results26, go_sem]) rfl ?_
          exact ⟨ad5, cap5, aA, cA, rfl, HRW.out.low hs9, HPE3.out, hb99⟩
        case pos =>
          have hsn := tab_takeS k PF hlt2
          rw [HPU.out p] at hsn
          have HSN := Lib.hid hsn
          have HO := Lib.hid hrow
          have hsz := hbf.size
          clear hsn hrow HPU
          generalize (tab k PF).take p = L at HSN HO htl ⊢
          obtain ⟨G, hG⟩ : ∃ G, bf k F k = G := ⟨_, rfl⟩
          rw [hG] at HSN HRD
          clear hG
          go_wp2_with fail
          go_loop [15, 78] (fun v i => ∃ q : Nat, q ≤ k ∧ i = .int .i64 q ∧ v = .int .i64 (mnF 0 (fun i => G i p) q)) (fun _ i => k - (intOf i).toNat)
          case atStart => exact ⟨0, Nat.zero_le _, rfl, rfl⟩
          case round =>
            obtain ⟨q, hq, rfl, rfl⟩ := hrel
            by_cases hlq : q < k
            case neg =>
              obtain rfl : q = k := by omega
              generalize mnF 0 (fun i => G i p) q = P at HSN ⊢
              go_wp2_with (at_builtin; refine wpList_appN rfl _ _ rfl w2.heap.size _ 0 1 _ L [P] (p + 1) (by rw [htl]; rfl) rfl rfl (RowI.alloc' HO.out) (rdI_one _ _ _ rfl) (by omega) (by simp) (by simp; omega) ?_; intro v5 wm hown hsh hbm hgr)
              have hb3 := (bal_alloc (o := .cells #[.int .i64 P] 3) hbf).trans hbm
              rw [← HSN.out] at hown
              have HO5 := Lib.hid hown; clear hown hsh hgr hbm
              go_wp2_with fail
              go_roundw
              case rel => exact ⟨p + 1, by omega, by go_num, HO5.out, hb3⟩
              case measure => simp [intOf]; omega
            case pos =>
              obtain ⟨bD, oD, rfl, hbD, hrw⟩ := (HRD.out.below hbf).rowF (by omega)
              obtain ⟨b2, o2, c2, e2, hl2, hc2⟩ := hrw q hlq
              have k1 := hc2 p hlt2
              have x1 : (0 : Int) ≤ (p : Int) := by omega
              have x2 : (p : Int) < (k : Int) := by omega
              have x3 : (0 : Int) ≤ (q : Int) := by omega
              have x4 : (q : Int) < (k : Int) := by omega
              have CL := Lib.hid (fun w => l1Least_n (mnF 0 (fun i => G i p) q) (G q p) w)
              have HNX := Lib.hid (show leastZ (mnF 0 (fun i => G i p) q) (G q p) = mnF 0 (fun i => G i p) (q + 1) from rfl)
              clear hrw hc2
              generalize mnF 0 (fun i => G i p) q = P at CL HNX ⊢
              generalize G q p = X at CL HNX k1
              generalize leastZ P X = Y at CL HNX
              go_wp2_with fail
              refine (CL.out _).mono ?_
              rintro e w5 ⟨rfl, rfl⟩
              go_wp2_with fail
              go_round
              case rel => exact ⟨q + 1, by omega, by go_num, by rw [HNX.out]⟩
              case measure => simp [intOf]; omega
    case pos =>
      have hsn := tab_takeS n (fun i => tab n (F i)) hlt
      rw [show tab n (fun i => tab n (F i)) = toM n F from rfl] at hsn
      have HSN := Lib.hid hsn; clear hsn
      have hsz := hbel.size
      obtain ⟨L, hL⟩ : ∃ L, (toM n F).take k = L := ⟨_, rfl⟩
      rw [hL] at HM HSN htl ⊢
      have HTL := Lib.hid htl
      rw [htl] at HM ⊢
      clear htl hL
      obtain ⟨bM, oM, rfl, hbM, hrow⟩ := HR.out.rowF (by omega)
      obtain ⟨b2, o2, c2, e2, hl2, hc2⟩ := hrow k hlt
      have HROW := Lib.hid hrow
      obtain ⟨va, hva⟩ := HVA.out k hlt
      have hat := HAT.out k hlt
      obtain ⟨bp, op, rfl, hbp, q1⟩ := HP.out k (by rw [HLA.out]; exact hlt)
      rw [va] at q1
      have k2 := hc2 _ hva
      obtain ⟨a, ha⟩ : ∃ a, vx A k = a := ⟨_, rfl⟩
      rw [ha] at hva hat k2 q1
      have HSTK := Lib.hid (fun j => show F k j = prodZ (m j a) (-(m k a)) from by rw [HST.out, ha])
      obtain ⟨D, hD⟩ : ∃ D, m k a = D := ⟨_, rfl⟩
      rw [hD] at hat k2 HSTK
      have x1 : (0 : Int) ≤ (k : Int) := by omega
      have x2 : (k : Int) < (n : Int) := by omega
      have x5 : (0 : Int) ≤ (a : Int) := by omega
      have x6 : (a : Int) < (n : Int) := by omega
      have E2 := Lib.hid e2; have K2 := Lib.hid k2; have Q1 := Lib.hid q1
      clear hrow hc2 va ha hD e2 k2 q1 hc
      go_wp2_with fail
      go_loopw [9, 32] (fun v i wr => ∃ j : Nat, j ≤ n ∧ i = .int .i64 j ∧ RowI wr wE.heap.size v ((tab n (F k)).take j) ∧ Below wE.heap.size wE wr) (fun _ i _ => n - (intOf i).toNat)
      case atStart => exact ⟨0, Nat.zero_le _, rfl, RowI.nil _ _, Below.refl _ _⟩
      case round =>
        obtain ⟨wI, rfl⟩ : ∃ x : World, x = wr := ⟨_, rfl⟩
        obtain ⟨j, hj, rfl, hrow, hbi⟩ := hrel
        have HO := Lib.hid hrow
        have hszi := hbi.size
        have hjl := tab_takeL n (F k) hj
        by_cases hlj : j < n
        case pos =>
          have hbW := ball hbel hbi
          have hsj := tab_takeS n (F k) hlj
          rw [HSTK.out j] at hsj
          have HSJ := Lib.hid hsj
          obtain ⟨b3, o3, c3, e3, hl3, hc3⟩ := HROW.out j hlj
          have k3 := hc3 a hva
          have E3 := Lib.hid e3
          obtain ⟨C, hC⟩ : ∃ C, m j a = C := ⟨_, rfl⟩
          rw [hC] at k3
          have K3 := Lib.hid k3
          have k3 := bcell hbW hl3 K3.out
          have e3 := bcell hbW hbM E3.out
          have e2 := bcell hbW hbM E2.out
          have k2 := bcell hbW hl2 K2.out
          have q1 := bcell hbW hbp Q1.out
          have hm := HNUM.out j a hlj hva
          have x3 : (0 : Int) ≤ (j : Int) := by omega
          have x4 : (j : Int) < (n : Int) := by omega
          have hvs : ∃ ad c, _ = Value.slice ad ((tab n (F k)).take j).length c := row_shp hrow
          rw [hjl] at hvs
          obtain ⟨adr, car, rfl⟩ := hvs
          clear hsj hrow hc3
          generalize (tab n (F k)).take j = R at HSJ HO hjl ⊢
          rw [hC] at hm HSJ
          have e1 : IntKind.i64.wrap (-D) = -D := i64_small (by omega) (by omega)
          have CP := Lib.hid (fun w => nuPlus_c C (-D) w (by omega))
          generalize prodZ C (-D) = P at CP HSJ
          go_wp2_with fail
          go_region_held3 (fun w' => w'.cell? ⟨bM, oM + j, none⟩ = some (.slice (some ⟨b3, o3, none⟩) n c3) ∧ w'.cell? ⟨bM, oM + k, none⟩ = some (.slice (some ⟨b2, o2, none⟩) n c2) ∧ w'.cell? ⟨bp, op + k, none⟩ = some (.int .i64 a) ∧ w'.cell? ⟨b3, o3 + a, none⟩ = some (.int .i64 C) ∧ w'.cell? ⟨b2, o2 + a, none⟩ = some (.int .i64 D)) (with_reducible repeat' (first | apply And.intro | assumption | apply cell_alloc' | apply cell_drew'))
            (first
              | (go_at_call 51; (with_reducible refine (CP.out _).mono ?_); rintro e W1 ⟨rfl, rfl⟩)
              | (refine step_appI (by rfl) _ _ (by rfl) wE.heap.size (.slice adr j car) (.slice (some ⟨_, 0, none⟩) 1 1) R [P] (by rfl) (by rfl) (by (with_reducible repeat (first | exact HO.out | apply RowI.alloc' | apply RowI.drew'))) (by (with_reducible repeat (first | exact readsN_one _ _ _ (by simp) | apply ReadsN.alloc' | apply ReadsN.drew'))) (by omega) (by simp) (by first | exact hszi | (simp; omega)) ?_; intro v5 wm hown hbm hgr; have hb3 : Below wE.heap.size wE wm := Below.trans (by with_reducible repeat (first | exact hbi | apply Below.drew | apply bal_alloc)) hbm; have hb4 := ball hbel hb3; have n0 := bcell hb4 hbM E3.out; have n1 := bcell hb4 hbM E2.out; have n2 := bcell hb4 hbp Q1.out; have n3 := bcell hb4 hl3 K3.out; have n4 := bcell hb4 hl2 K2.out))
          rw [← HSJ.out] at hown
          have HO5 := Lib.hid hown; clear hown hgr hbm
          go_wp2_with fail
          go_roundw
          case rel => exact ⟨j + 1, by omega, by go_num, HO5.out, hb3⟩
          case measure => simp [intOf]; omega
        case neg =>
          obtain rfl : j = n := by omega
          have hM1 := HM.out.below hbi
          have hlow := HM.out.low
          rw [tab_all] at hrow
          obtain ⟨gr, cr, rfl, hgr⟩ := hrow.shp (by rw [tab_length]; omega)
          rw [tab_length] at hrow ⊢
          have hX := CellO.of_row (hrow.low (B' := w1.heap.size) hsz)
          have HB := Lib.hid hrow.blk
          have HX := Lib.hid hX
          have HM1 := Lib.hid hM1; have HLOW := Lib.hid hlow
          clear hrow hM1 hlow HM HO hX
          go_wp2_with (at_builtin; refine wpList_appM rfl _ _ rfl w1.heap.size wE.heap.size wI.heap.size _ (.slice (some ⟨gr, 0, none⟩) j cr) L vs (tab j (F k)) (k + 1) (by rw [HTL.out]) rfl rfl (by simp [go_sem]) (HM1.out.below ((Below.refl _ _).alloc (Nat.le_refl _) _)) (HX.out.below ((Below.refl _ _).alloc (Nat.le_refl _) _)) HB.out HLOW.out (by rw [HTL.out]; omega) (by simp; omega) ?_; intro ad5 cap5 wm hmat5 hbm)
          have hb3 := ((hbel.trans (hbi.mono hsz)).alloc (by omega) (.cells #[.slice (some ⟨gr, 0, none⟩) j cr] 26)).trans hbm
          rw [← HSN.out] at hmat5
          have HM5 := Lib.hid hmat5; clear hmat5 hbm
          go_wp2_with fail
          go_roundw
          case rel => exact ⟨k + 1, _, by omega, by go_num, HM5.out, hb3⟩
          case measure => simp [intOf]; omega
end Go.Proofs.Ytjlkgioinogbkaa
