/-
  The program's costs of ways for arcs of twice the size: the walk of WyF over again. By an AI agent.
-/
import Derived.Test.YtjkfighooijblaaGreatEgU
import Derived.Test.YtjkfighooijblaaGreatWyF
namespace Go.Proofs.YtjkfighooijblaaGreat
open Go.RowKit

set_option maxHeartbeats 6400000 in
set_option maxRecDepth 100000 in
theorem wayCostsB_c (n : Nat) (m : Nat → Nat → Int) (ad : Option Addr) (cap : Nat) (w : World) (hr : RdM w ad (toM n m)) (hn : 1 ≤ n ∧ n ≤ 6) (hnum : bd2 n m) :
    Calls Tryz.prog 23 #[.slice ad n cap] w (WayR n (fwK n (fw0 m) n) w) := by
  have cc := clones_c ad cap (toM n m) w hr (by rw [toM_len]; omega) (fun i hi => by rw [toM_len] at hi; rw [toM_row m hi, tab_length]; omega)
  rw [toM_len] at cc
  have CC := Lib.hid cc
  have HNUM := Lib.hid hnum
  clear hr hnum cc
  obtain ⟨D, hD⟩ : ∃ D, fwK n (fw0 m) n = D := ⟨_, rfl⟩
  rw [hD]
  have HD := Lib.hid hD; clear hD
  go_enter Tryz.func23, Tryz.ntmps23
  go_wp2_with fail
  refine CC.out.mono ?_
  rintro e w1 ⟨v, rfl, ⟨vs, hmat⟩, hb1⟩
  clear CC
  obtain ⟨g, cv, rfl, hg, _⟩ := hmat.cells (by rw [toM_len]; omega)
  rw [toM_len] at hmat ⊢
  have HM1 := Lib.hid (show MatO w1 w.heap.size (.slice (some ⟨g, 0, none⟩) n cv) (toM n (dgF m 0)) vs by rw [show toM n (dgF m 0) = toM n m from toM_congr fun i j _ _ => by unfold dgF; rw [if_neg (by omega)]]; exact hmat)
  clear hmat
  go_wp2_with fail
  go_loopw [16] (fun i wr => ∃ k : Nat, k ≤ n ∧ i = .int .i64 k ∧ MatO wr w.heap.size (.slice (some ⟨g, 0, none⟩) n cv) (toM n (dgF m k)) vs ∧ Below w.heap.size w wr) (fun i _ => n - (intOf i).toNat)
  case atStart => exact ⟨0, Nat.zero_le _, rfl, HM1.out, hb1⟩
  case round =>
    obtain ⟨wE, rfl⟩ : ∃ x : World, x = wr := ⟨_, rfl⟩
    obtain ⟨k, hk, rfl, hmat, hbel⟩ := hrel
    by_cases hlt : k < n
    case pos =>
      obtain ⟨_, gl, ho⟩ := hmat.outer (by omega)
      obtain ⟨b, o, c, eb, hBb, bl, hcell, hset⟩ := hmat.rowF hlt
      have c0 := ho k hlt
      rw [eb] at c0
      obtain ⟨c1, c2⟩ := hcell k hlt
      have ek : dgF m k k k = m k k := by unfold dgF; rw [if_neg (by omega)]
      rw [ek] at c1
      have hst := hset k ((if 0 < m k k then 0 else m k k)) hlt
      rw [show toM n (fun a c => if a = k ∧ c = k then (if 0 < m k k then 0 else m k k) else dgF m k a c) = toM n (dgF m (k + 1)) from toM_congr fun a c _ _ => by
        unfold dgF
        rw [leastZ_if]
        by_cases h1 : a = k ∧ c = k
        · obtain ⟨rfl, rfl⟩ := h1
          rw [if_pos ⟨rfl, rfl⟩, if_pos ⟨rfl, by omega⟩]
        · rw [if_neg h1]
          by_cases h2 : a = c ∧ a < k
          · rw [if_pos h2, if_pos ⟨h2.1, by omega⟩]
          · rw [if_neg h2, if_neg (by omega)]] at hst
      have HST := Lib.hid hst
      have hbs := hbel.setCell (p := ⟨b, o + k, none⟩) hBb (.int .i64 ((if 0 < m k k then 0 else m k k)))
      have x1 : (0 : Int) ≤ (k : Int) := by omega
      have x2 : (k : Int) < (n : Int) := by omega
      clear hst hset hcell ho hmat ek
      generalize m k k = X at c1 HST hbs
      go_wp2_with fail
      refine wp_region_still_tail 14 (by kernel_rfl) (by kernel_rfl) ?_
      simp only [List.take_succ_cons, List.take_zero, List.drop_succ_cons, List.drop_zero]
      repeat still_step
      refine wpStill_nil ?_
      change wpList _ _ _ _ _ wE.drew
      have d1 : wE.drew.cell? ⟨b, o + k, none⟩ = some (.int .i64 X) := c1
      have d2 : wE.drew.frozen? ⟨b, o + k, none⟩ = false := c2
      go_wp2_with fail
      go_roundw
      case rel => exact ⟨k + 1, by omega, by go_num, HST.out.below (Below.refl _ _).drew, hbs.drew⟩
      case measure => simp [intOf]; omega
    case neg =>
      obtain rfl : k = n := by omega
      have HM2 := Lib.hid (show MatO wE w.heap.size (.slice (some ⟨g, 0, none⟩) k cv) (toM k (fwK k (fw0 m) 0)) vs by rw [show toM k (fwK k (fw0 m) 0) = toM k (dgF m k) from toM_congr fun i j hi _ => by unfold dgF; rw [fwK]; unfold fw0; by_cases h : i = j; (rw [if_pos h, if_pos ⟨h, hi⟩]); (rw [if_neg h, if_neg (fun q => h q.1)])]; exact hmat)
      clear hmat HM1 hb1
      obtain ⟨n, rfl⟩ : ∃ n, n = k := ⟨_, rfl⟩
      clear hlt hk
      go_wp2_with fail
      go_loopw [35] (fun i wr => ∃ k : Nat, k ≤ n ∧ i = .int .i64 k ∧ MatO wr w.heap.size (.slice (some ⟨g, 0, none⟩) n cv) (toM n (fwK n (fw0 m) k)) vs ∧ Below w.heap.size w wr) (fun i _ => n - (intOf i).toNat)
      case atStart => exact ⟨0, Nat.zero_le _, rfl, HM2.out, hbel⟩
      case round =>
        obtain ⟨wK, rfl⟩ : ∃ x : World, x = wr := ⟨_, rfl⟩
        obtain ⟨k, hk, rfl, hmat, hbel⟩ := hrel
        clear HM2
        have HMK := Lib.hid hmat; clear hmat
        by_cases hlt : k < n
        case pos =>
          go_wp2_with fail
          go_loopw [39] (fun i wr => ∃ q : Nat, q ≤ n ∧ i = .int .i64 q ∧ MatO wr w.heap.size (.slice (some ⟨g, 0, none⟩) n cv) (toM n (fwI n k (fwK n (fw0 m) k) q)) vs ∧ Below w.heap.size w wr) (fun i _ => n - (intOf i).toNat)
          case atStart => exact ⟨0, Nat.zero_le _, rfl, by rw [fwI]; exact HMK.out, hbel⟩
          case round =>
            obtain ⟨wI, rfl⟩ : ∃ x : World, x = wr := ⟨_, rfl⟩
            obtain ⟨q, hq, rfl, hmat, hbel⟩ := hrel
            have HMI := Lib.hid hmat; clear hmat
            by_cases hlq : q < n
            case pos =>
              go_wp2_with fail
              go_loopw [43] (fun i wr => ∃ j : Nat, j ≤ n ∧ i = .int .i64 j ∧ MatO wr w.heap.size (.slice (some ⟨g, 0, none⟩) n cv) (toM n (fwJ k q (fwI n k (fwK n (fw0 m) k) q) j)) vs ∧ Below w.heap.size w wr) (fun i _ => n - (intOf i).toNat)
              case atStart => exact ⟨0, Nat.zero_le _, rfl, by rw [fwJ]; exact HMI.out, hbel⟩
              case round =>
                obtain ⟨wJ, rfl⟩ : ∃ x : World, x = wr := ⟨_, rfl⟩
                obtain ⟨j, hj, rfl, hmat, hbel⟩ := hrel
                by_cases hlj : j < n
                case pos =>
                  have hsm := fw_small2 HNUM.out hn.2 hlt hlq (show j ≤ n by omega)
                  have hnx : fwJ k q (fwI n k (fwK n (fw0 m) k) q) (j + 1) = updS (fwJ k q (fwI n k (fwK n (fw0 m) k) q) j) q j (fwV (fwJ k q (fwI n k (fwK n (fw0 m) k) q) j) k q j) := rfl
                  generalize fwJ k q (fwI n k (fwK n (fw0 m) k) q) j = T at hsm hnx hmat
                  obtain ⟨_, gl, ho⟩ := hmat.outer (by omega)
                  obtain ⟨b, o, c, eb, hBb, bl, hcell, hset⟩ := hmat.rowF hlq
                  obtain ⟨b2, o2, c2, eb2, _, bl2, hcell2, _⟩ := hmat.rowF hlt
                  have c0 := ho q hlq
                  have c02 := ho k hlt
                  rw [eb] at c0
                  rw [eb2] at c02
                  obtain ⟨k1, k2⟩ := hcell j hlj
                  obtain ⟨k3, _⟩ := hcell k hlt
                  obtain ⟨k4, _⟩ := hcell2 j hlj
                  have s1 := hsm q k hlq hlt
                  have s2 := hsm k j hlt hlj
                  have CP := Lib.hid (fun w => product_c (T q k) (T k j) w (by omega))
                  have hst := fun x => hset j x hlj
                  have hfv : (if prodZ (T q k) (T k j) < T q j then prodZ (T q k) (T k j) else T q j) = fwV T k q j := leastZ_if _ _
                  have HNX := Lib.hid (show ∀ u : World, MatO u w.heap.size (.slice (some ⟨g, 0, none⟩) n cv) (toM n (fun a c => if a = q ∧ c = j then fwV T k q j else T a c)) vs → MatO u w.heap.size (.slice (some ⟨g, 0, none⟩) n cv) (toM n (fwJ k q (fwI n k (fwK n (fw0 m) k) q) (j + 1))) vs from fun u h => by rw [hnx]; exact h)
                  have HST := Lib.hid (hst (fwV T k q j))
                  rw [← hfv] at HST HNX
                  have x1 : (0 : Int) ≤ (k : Int) := by omega
                  have x2 : (k : Int) < (n : Int) := by omega
                  have x3 : (0 : Int) ≤ (q : Int) := by omega
                  have x4 : (q : Int) < (n : Int) := by omega
                  have x5 : (0 : Int) ≤ (j : Int) := by omega
                  have x6 : (j : Int) < (n : Int) := by omega
                  clear hst hset hcell hcell2 ho hmat hsm hnx s1 s2 hfv HMI HMK
                  generalize prodZ (T q k) (T k j) = P at CP HST HNX
                  generalize T q j = X at k1 HST HNX
                  have hbs := hbel.setCell (p := ⟨b, o + j, none⟩) hBb (.int .i64 (if P < X then P else X))
                  go_wp2_with fail
                  refine wp_region_still_tail 29 (by kernel_rfl) (by kernel_rfl) ?_
                  simp only [List.take_succ_cons, List.take_zero, List.drop_succ_cons, List.drop_zero]
                  repeat still_step
                  still_call ((CP.out _).mono (fun e w' h => ⟨h.1, h.2.symm⟩))
                  repeat still_step
                  refine wpStill_nil ?_
                  change wpList _ _ _ _ _ wJ.drew
                  have d1 : wJ.drew.cell? ⟨b, o + j, none⟩ = some (.int .i64 X) := k1
                  have d2 : wJ.drew.frozen? ⟨b, o + j, none⟩ = false := k2
                  go_wp2_with fail
                  go_roundw
                  case rel => exact ⟨j + 1, by omega, by go_num, HNX.out _ (HST.out.below (Below.refl _ _).drew), hbs.drew⟩
                  case measure => simp [intOf]; omega
                case neg =>
                  obtain rfl : j = n := by omega
                  have HM3 := Lib.hid (show MatO wJ w.heap.size (.slice (some ⟨g, 0, none⟩) j cv) (toM j (fwI j k (fwK j (fw0 m) k) (q + 1))) vs by rw [fwI]; exact hmat)
                  clear hmat
                  go_wp2_with fail
                  go_roundw
                  case rel => exact ⟨q + 1, by omega, by go_num, HM3.out, hbel⟩
                  case measure => simp [intOf]; omega
            case neg =>
              obtain rfl : q = n := by omega
              have HM3 := Lib.hid (show MatO wI w.heap.size (.slice (some ⟨g, 0, none⟩) q cv) (toM q (fwK q (fw0 m) (k + 1))) vs by rw [fwK]; exact HMI.out)
              go_wp2_with fail
              go_roundw
              case rel => exact ⟨k + 1, by omega, by go_num, HM3.out, hbel⟩
              case measure => simp [intOf]; omega
        case neg =>
          obtain rfl : k = n := by omega
          rw [HD.out] at HMK
          clear HD HNUM
          go_wp2_with fail
          go_loopw [79] (fun i wr => ∃ q : Nat, q ≤ k ∧ i = .int .i64 q ∧ (∀ j, j < q → 0 ≤ D j j) ∧ wK = wr) (fun i _ => k - (intOf i).toNat)
          case atStart => exact ⟨0, Nat.zero_le _, rfl, fun j hj => by omega, rfl⟩
          case round =>
            obtain ⟨q, hq, rfl, hj, rfl⟩ := hrel
            have HJ := Lib.hid hj; clear hj
            by_cases hlq : q < k
            case pos =>
              have hmat := HMK.out
              obtain ⟨_, gl, ho⟩ := hmat.outer (by omega)
              obtain ⟨b, o, c, eb, hBb, bl, hcell, _⟩ := hmat.rowF hlq
              have c0 := ho q hlq
              rw [eb] at c0
              obtain ⟨k1, _⟩ := hcell q hlq
              have x3 : (0 : Int) ≤ (q : Int) := by omega
              have x4 : (q : Int) < (k : Int) := by omega
              clear hmat ho hcell
              obtain ⟨X, hX⟩ : ∃ X, D q q = X := ⟨_, rfl⟩
              rw [hX] at k1
              have HX := Lib.hid hX; clear hX
              by_cases hx : X < 0
              · have g1 : decide (X < 0) = true := decide_eq_true hx
                have HOK := Lib.hid (okF_f (D := D) hlq (by rw [HX.out]; exact hx))
                go_wp2_with fail
                exact bodyPost_ret (v := .tuple #[.slice none 0 0, .bool false]) (by simp [results, Tryz.results23, go_sem]) rfl ⟨fun h => (by rw [HOK.out] at h; cases h), fun _ => rfl, hbel⟩
              · have g1 : decide (X < 0) = false := decide_eq_false hx
                go_wp2_with fail
                go_roundw
                case rel =>
                  refine ⟨q + 1, by omega, by go_num, fun j hj => ?_, trivial⟩
                  by_cases e : j = q
                  · subst e; rw [HX.out]; omega
                  · exact HJ.out j (by omega)
                case measure => simp [intOf]; omega
            case neg =>
              obtain rfl : q = k := by omega
              have HOK := Lib.hid (okF_t.2 HJ.out)
              go_wp2_with fail
              exact bodyPost_ret (v := .tuple #[.slice (some ⟨g, 0, none⟩) q cv, .bool true]) (by simp [results, Tryz.results23, go_sem]) rfl ⟨fun _ => ⟨_, _, rfl, vs, HMK.out⟩, fun h => (by rw [HOK.out] at h; cases h), hbel⟩

end Go.Proofs.YtjkfighooijblaaGreat
