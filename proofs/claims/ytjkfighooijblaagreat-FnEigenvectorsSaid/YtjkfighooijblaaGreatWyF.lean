/-
  Some texts of this proof in one: WyF WyB WyC WyD All WyE. Each part tells what it proves. By an AI agent.
-/
import Derived.Test.YtjkfighooijblaaGreatMxB
import Derived.Test.YtjkfighooijblaaGreatWyP
import Derived.StillTailTactics
import Derived.Test.YtjkfighooijblaaGreatGood
import Derived.Maps.AppendAt

/-
  The program's costs of cheapest ways. By an AI agent.
-/
namespace Go.Proofs.YtjkfighooijblaaGreat
open Go.RowKit

theorem MatO.rowF {w : World} {B n : Nat} {v : Value} {F : Nat → Nat → Int} {vs : List Value} (h : MatO w B v (toM n F) vs) {i : Nat} (hi : i < n) : ∃ b o c, vs.getD i undef = .slice (some ⟨b, o, none⟩) n c ∧ B ≤ b ∧ b < w.heap.size ∧
    (∀ j, j < n → w.cell? ⟨b, o + j, none⟩ = some (.int .i64 (F i j)) ∧ w.frozen? ⟨b, o + j, none⟩ = false) ∧ ∀ j x, j < n → MatO (w.setCell ⟨b, o + j, none⟩ (.int .i64 x)) B v (toM n (fun a c => if a = i ∧ c = j then x else F a c)) vs := by
  have e1 : ((toM n F).getD i []).length = n := by rw [toM_row F hi, tab_length]
  obtain ⟨h1, h2, h3, h4⟩ := h.rowOf (i := i) (by rw [toM_len]; exact hi) (by rw [e1]; omega)
  rw [e1] at h1 h4
  refine ⟨_, _, _, h1, h2, h3, fun j hj => ?_, fun j x hj => ?_⟩
  · have := h4 j hj
    rwa [toM_row F hi, tab_getD hj] at this
  · have := h.set (i := i) (j := j) (by rw [toM_len]; exact hi) (by rw [e1]; exact hj) x
    rwa [toM_set F j x hi] at this
theorem MatO.outer {w : World} {B n cap g : Nat} {F : Nat → Nat → Int} {vs : List Value} (h : MatO w B (.slice (some ⟨g, 0, none⟩) n cap) (toM n F) vs) (hn : 0 < n) : B ≤ g ∧ g < w.heap.size ∧ ∀ i, i < n → w.cell? ⟨g, i, none⟩ = some (vs.getD i undef) := by
  obtain ⟨g', cap', e, hB, _, ho⟩ := h.cells (by rw [toM_len]; exact hn)
  injection e with e _ _
  injection e with e
  injection e with e _ _
  subst e
  refine ⟨hB, ho.lt, fun i hi => ho.cell? ?_⟩
  have : i < vs.length := by rw [h.len, toM_len]; exact hi
  simp [List.getD, this]
def okF (n : Nat) (D : Nat → Nat → Int) : Bool := (List.range n).all fun i => decide (0 ≤ D i i)
theorem leastZ_if (a b : Int) : (if b < a then b else a) = leastZ a b := by unfold leastZ; split <;> split <;> omega
theorem okF_t {n : Nat} {D : Nat → Nat → Int} : okF n D = true ↔ ∀ i, i < n → 0 ≤ D i i := by
  unfold okF
  rw [List.all_eq_true]
  simp
theorem okF_f {n : Nat} {D : Nat → Nat → Int} {i : Nat} (hi : i < n) (h : D i i < 0) : okF n D = false := by
  rw [Bool.eq_false_iff]
  intro h2
  have := okF_t.1 h2 i hi
  omega
/-- The diagonal so far. -/
def dgF (m : Nat → Nat → Int) (k : Nat) : Nat → Nat → Int := fun i j => if i = j ∧ i < k then leastZ (m i i) 0 else m i j
/-- What is told of costs. -/
def WayR (n : Nat) (D : Nat → Nat → Int) (w : World) (e : Ending) (w' : World) : Prop :=
  (okF n D = true → ∃ adv cav, e = .returned (.tuple #[.slice adv n cav, .bool true]) ∧ ∃ vs, MatO w' w.heap.size (.slice adv n cav) (toM n D) vs) ∧ (okF n D = false → e = .returned (.tuple #[.slice none 0 0, .bool false])) ∧ Below w.heap.size w w'

set_option maxHeartbeats 6400000 in
set_option maxRecDepth 100000 in
theorem wayCosts_c (ad : Option Addr) (cap : Nat) (M : List (List Int)) (w : World) (hr : RdM w ad M) (hs : sqB M = true) :
    Calls Tryz.prog 23 #[.slice ad M.length cap] w (WayR M.length (fwK M.length (fw0 (entM M)) M.length) w) := by
  obtain ⟨hn, hrow, hnum⟩ := sq_facts hs
  have CC := Lib.hid (clones_c ad cap M w hr (by omega) (fun i hi => by rw [hrow i hi]; omega))
  have hM := sq_toM hs
  have HNUM := Lib.hid (show ∀ a b, a < M.length → b < M.length → numB (entM M a b) = true from fun a b ha hb => hnum a b ha hb)
  clear hr hs hrow hnum
  obtain ⟨n, hN⟩ : ∃ n, M.length = n := ⟨_, rfl⟩
  obtain ⟨m, hm⟩ : ∃ m, entM M = m := ⟨_, rfl⟩
  rw [hN, hm] at hM HNUM
  rw [hN] at CC hn ⊢
  rw [hm]
  rw [← hM] at CC
  clear hM hm hN
  obtain ⟨D, hD⟩ : ∃ D, fwK n (fw0 m) n = D := ⟨_, rfl⟩
  rw [hD]
  have HD := Lib.hid hD; clear hD
  go_enter Tryz.func23, Tryz.ntmps23
  go_wp2_with fail
  refine CC.out.mono ?_
  rintro e w1 ⟨v, rfl, ⟨vs, hmat⟩, hb1⟩
  clear CC
  obtain ⟨g, cv, rfl, hg, _⟩ := hmat.cells (by rw [toM_len]; omega)
  rw [toM_len] at hmat ⊢
  have HM1 := Lib.hid (show MatO w1 w.heap.size (.slice (some ⟨g, 0, none⟩) n cv) (toM n (dgF m 0)) vs by rw [show toM n (dgF m 0) = toM n m from toM_congr fun i j _ _ => by unfold dgF; rw [if_neg (by omega)]]; exact hmat)
  clear hmat
  go_wp2_with fail
  go_loopw [16] (fun i wr => ∃ k : Nat, k ≤ n ∧ i = .int .i64 k ∧ MatO wr w.heap.size (.slice (some ⟨g, 0, none⟩) n cv) (toM n (dgF m k)) vs ∧ Below w.heap.size w wr) (fun i _ => n - (intOf i).toNat)
  case atStart => exact ⟨0, Nat.zero_le _, rfl, HM1.out, hb1⟩
  case round =>
    obtain ⟨wE, rfl⟩ : ∃ x : World, x = wr := ⟨_, rfl⟩
    obtain ⟨k, hk, rfl, hmat, hbel⟩ := hrel
    by_cases hlt : k < n
    case pos =>
      obtain ⟨_, gl, ho⟩ := hmat.outer (by omega)
      obtain ⟨b, o, c, eb, hBb, bl, hcell, hset⟩ := hmat.rowF hlt
      have c0 := ho k hlt
      rw [eb] at c0
      obtain ⟨c1, c2⟩ := hcell k hlt
      have ek : dgF m k k k = m k k := by unfold dgF; rw [if_neg (by omega)]
      rw [ek] at c1
      have hst := hset k ((if 0 < m k k then 0 else m k k)) hlt
      rw [show toM n (fun a c => if a = k ∧ c = k then (if 0 < m k k then 0 else m k k) else dgF m k a c) = toM n (dgF m (k + 1)) from toM_congr fun a c _ _ => by
        unfold dgF
        rw [leastZ_if]
        by_cases h1 : a = k ∧ c = k
        · obtain ⟨rfl, rfl⟩ := h1
          rw [if_pos ⟨rfl, rfl⟩, if_pos ⟨rfl, by omega⟩]
        · rw [if_neg h1]
          by_cases h2 : a = c ∧ a < k
          · rw [if_pos h2, if_pos ⟨h2.1, by omega⟩]
          · rw [if_neg h2, if_neg (by omega)]] at hst
      have HST := Lib.hid hst
      have hbs := hbel.setCell (p := ⟨b, o + k, none⟩) hBb (.int .i64 ((if 0 < m k k then 0 else m k k)))
      have x1 : (0 : Int) ≤ (k : Int) := by omega
      have x2 : (k : Int) < (n : Int) := by omega
      clear hst hset hcell ho hmat ek
      generalize m k k = X at c1 HST hbs
      go_wp2_with fail
      refine wp_region_still_tail 14 (by kernel_rfl) (by kernel_rfl) ?_
      simp only [List.take_succ_cons, List.take_zero, List.drop_succ_cons, List.drop_zero]
      repeat still_step
      refine wpStill_nil ?_
      change wpList _ _ _ _ _ wE.drew
      have d1 : wE.drew.cell? ⟨b, o + k, none⟩ = some (.int .i64 X) := c1
      have d2 : wE.drew.frozen? ⟨b, o + k, none⟩ = false := c2
      go_wp2_with fail
      go_roundw
      case rel => exact ⟨k + 1, by omega, by go_num, HST.out.below (Below.refl _ _).drew, hbs.drew⟩
      case measure => simp [intOf]; omega
    case neg =>
      obtain rfl : k = n := by omega
      have HM2 := Lib.hid (show MatO wE w.heap.size (.slice (some ⟨g, 0, none⟩) k cv) (toM k (fwK k (fw0 m) 0)) vs by rw [show toM k (fwK k (fw0 m) 0) = toM k (dgF m k) from toM_congr fun i j hi _ => by unfold dgF; rw [fwK]; unfold fw0; by_cases h : i = j; (rw [if_pos h, if_pos ⟨h, hi⟩]); (rw [if_neg h, if_neg (fun q => h q.1)])]; exact hmat)
      clear hmat HM1 hb1
      obtain ⟨n, rfl⟩ : ∃ n, n = k := ⟨_, rfl⟩
      clear hlt hk
      go_wp2_with fail
      go_loopw [35] (fun i wr => ∃ k : Nat, k ≤ n ∧ i = .int .i64 k ∧ MatO wr w.heap.size (.slice (some ⟨g, 0, none⟩) n cv) (toM n (fwK n (fw0 m) k)) vs ∧ Below w.heap.size w wr) (fun i _ => n - (intOf i).toNat)
      case atStart => exact ⟨0, Nat.zero_le _, rfl, HM2.out, hbel⟩
      case round =>
        obtain ⟨wK, rfl⟩ : ∃ x : World, x = wr := ⟨_, rfl⟩
        obtain ⟨k, hk, rfl, hmat, hbel⟩ := hrel
        clear HM2
        have HMK := Lib.hid hmat; clear hmat
        by_cases hlt : k < n
        case pos =>
          go_wp2_with fail
          go_loopw [39] (fun i wr => ∃ q : Nat, q ≤ n ∧ i = .int .i64 q ∧ MatO wr w.heap.size (.slice (some ⟨g, 0, none⟩) n cv) (toM n (fwI n k (fwK n (fw0 m) k) q)) vs ∧ Below w.heap.size w wr) (fun i _ => n - (intOf i).toNat)
          case atStart => exact ⟨0, Nat.zero_le _, rfl, by rw [fwI]; exact HMK.out, hbel⟩
          case round =>
            obtain ⟨wI, rfl⟩ : ∃ x : World, x = wr := ⟨_, rfl⟩
            obtain ⟨q, hq, rfl, hmat, hbel⟩ := hrel
            have HMI := Lib.hid hmat; clear hmat
            by_cases hlq : q < n
            case pos =>
              go_wp2_with fail
              go_loopw [43] (fun i wr => ∃ j : Nat, j ≤ n ∧ i = .int .i64 j ∧ MatO wr w.heap.size (.slice (some ⟨g, 0, none⟩) n cv) (toM n (fwJ k q (fwI n k (fwK n (fw0 m) k) q) j)) vs ∧ Below w.heap.size w wr) (fun i _ => n - (intOf i).toNat)
              case atStart => exact ⟨0, Nat.zero_le _, rfl, by rw [fwJ]; exact HMI.out, hbel⟩
              case round =>
                obtain ⟨wJ, rfl⟩ : ∃ x : World, x = wr := ⟨_, rfl⟩
                obtain ⟨j, hj, rfl, hmat, hbel⟩ := hrel
                by_cases hlj : j < n
                case pos =>
                  have hsm := fw_small HNUM.out hn.2 hlt hlq (show j ≤ n by omega)
                  have hnx : fwJ k q (fwI n k (fwK n (fw0 m) k) q) (j + 1) = updS (fwJ k q (fwI n k (fwK n (fw0 m) k) q) j) q j (fwV (fwJ k q (fwI n k (fwK n (fw0 m) k) q) j) k q j) := rfl
                  generalize fwJ k q (fwI n k (fwK n (fw0 m) k) q) j = T at hsm hnx hmat
                  obtain ⟨_, gl, ho⟩ := hmat.outer (by omega)
                  obtain ⟨b, o, c, eb, hBb, bl, hcell, hset⟩ := hmat.rowF hlq
                  obtain ⟨b2, o2, c2, eb2, _, bl2, hcell2, _⟩ := hmat.rowF hlt
                  have c0 := ho q hlq
                  have c02 := ho k hlt
                  rw [eb] at c0
                  rw [eb2] at c02
                  obtain ⟨k1, k2⟩ := hcell j hlj
                  obtain ⟨k3, _⟩ := hcell k hlt
                  obtain ⟨k4, _⟩ := hcell2 j hlj
                  have s1 := hsm q k hlq hlt
                  have s2 := hsm k j hlt hlj
                  have CP := Lib.hid (fun w => product_c (T q k) (T k j) w (by omega))
                  have hst := fun x => hset j x hlj
                  have hfv : (if prodZ (T q k) (T k j) < T q j then prodZ (T q k) (T k j) else T q j) = fwV T k q j := leastZ_if _ _
                  have HNX := Lib.hid (show ∀ u : World, MatO u w.heap.size (.slice (some ⟨g, 0, none⟩) n cv) (toM n (fun a c => if a = q ∧ c = j then fwV T k q j else T a c)) vs → MatO u w.heap.size (.slice (some ⟨g, 0, none⟩) n cv) (toM n (fwJ k q (fwI n k (fwK n (fw0 m) k) q) (j + 1))) vs from fun u h => by rw [hnx]; exact h)
                  have HST := Lib.hid (hst (fwV T k q j))
                  rw [← hfv] at HST HNX
                  have x1 : (0 : Int) ≤ (k : Int) := by omega
                  have x2 : (k : Int) < (n : Int) := by omega
                  have x3 : (0 : Int) ≤ (q : Int) := by omega
                  have x4 : (q : Int) < (n : Int) := by omega
                  have x5 : (0 : Int) ≤ (j : Int) := by omega
                  have x6 : (j : Int) < (n : Int) := by omega
                  clear hst hset hcell hcell2 ho hmat hsm hnx s1 s2 hfv HMI HMK
                  generalize prodZ (T q k) (T k j) = P at CP HST HNX
                  generalize T q j = X at k1 HST HNX
                  have hbs := hbel.setCell (p := ⟨b, o + j, none⟩) hBb (.int .i64 (if P < X then P else X))
                  go_wp2_with fail
                  refine wp_region_still_tail 29 (by kernel_rfl) (by kernel_rfl) ?_
                  simp only [List.take_succ_cons, List.take_zero, List.drop_succ_cons, List.drop_zero]
                  repeat still_step
                  still_call ((CP.out _).mono (fun e w' h => ⟨h.1, h.2.symm⟩))
                  repeat still_step
                  refine wpStill_nil ?_
                  change wpList _ _ _ _ _ wJ.drew
                  have d1 : wJ.drew.cell? ⟨b, o + j, none⟩ = some (.int .i64 X) := k1
                  have d2 : wJ.drew.frozen? ⟨b, o + j, none⟩ = false := k2
                  go_wp2_with fail
                  go_roundw
                  case rel => exact ⟨j + 1, by omega, by go_num, HNX.out _ (HST.out.below (Below.refl _ _).drew), hbs.drew⟩
                  case measure => simp [intOf]; omega
                case neg =>
                  obtain rfl : j = n := by omega
                  have HM3 := Lib.hid (show MatO wJ w.heap.size (.slice (some ⟨g, 0, none⟩) j cv) (toM j (fwI j k (fwK j (fw0 m) k) (q + 1))) vs by rw [fwI]; exact hmat)
                  clear hmat
                  go_wp2_with fail
                  go_roundw
                  case rel => exact ⟨q + 1, by omega, by go_num, HM3.out, hbel⟩
                  case measure => simp [intOf]; omega
            case neg =>
              obtain rfl : q = n := by omega
              have HM3 := Lib.hid (show MatO wI w.heap.size (.slice (some ⟨g, 0, none⟩) q cv) (toM q (fwK q (fw0 m) (k + 1))) vs by rw [fwK]; exact HMI.out)
              go_wp2_with fail
              go_roundw
              case rel => exact ⟨k + 1, by omega, by go_num, HM3.out, hbel⟩
              case measure => simp [intOf]; omega
        case neg =>
          obtain rfl : k = n := by omega
          rw [HD.out] at HMK
          clear HD HNUM
          go_wp2_with fail
          go_loopw [79] (fun i wr => ∃ q : Nat, q ≤ k ∧ i = .int .i64 q ∧ (∀ j, j < q → 0 ≤ D j j) ∧ wK = wr) (fun i _ => k - (intOf i).toNat)
          case atStart => exact ⟨0, Nat.zero_le _, rfl, fun j hj => by omega, rfl⟩
          case round =>
            obtain ⟨q, hq, rfl, hj, rfl⟩ := hrel
            have HJ := Lib.hid hj; clear hj
            by_cases hlq : q < k
            case pos =>
              have hmat := HMK.out
              obtain ⟨_, gl, ho⟩ := hmat.outer (by omega)
              obtain ⟨b, o, c, eb, hBb, bl, hcell, _⟩ := hmat.rowF hlq
              have c0 := ho q hlq
              rw [eb] at c0
              obtain ⟨k1, _⟩ := hcell q hlq
              have x3 : (0 : Int) ≤ (q : Int) := by omega
              have x4 : (q : Int) < (k : Int) := by omega
              clear hmat ho hcell
              obtain ⟨X, hX⟩ : ∃ X, D q q = X := ⟨_, rfl⟩
              rw [hX] at k1
              have HX := Lib.hid hX; clear hX
              by_cases hx : X < 0
              · have g1 : decide (X < 0) = true := decide_eq_true hx
                have HOK := Lib.hid (okF_f (D := D) hlq (by rw [HX.out]; exact hx))
                go_wp2_with fail
                exact bodyPost_ret (v := .tuple #[.slice none 0 0, .bool false]) (by simp [results, Tryz.results23, go_sem]) rfl ⟨fun h => (by rw [HOK.out] at h; cases h), fun _ => rfl, hbel⟩
              · have g1 : decide (X < 0) = false := decide_eq_false hx
                go_wp2_with fail
                go_roundw
                case rel =>
                  refine ⟨q + 1, by omega, by go_num, fun j hj => ?_, trivial⟩
                  by_cases e : j = q
                  · subst e; rw [HX.out]; omega
                  · exact HJ.out j (by omega)
                case measure => simp [intOf]; omega
            case neg =>
              obtain rfl : q = k := by omega
              have HOK := Lib.hid (okF_t.2 HJ.out)
              go_wp2_with fail
              exact bodyPost_ret (v := .tuple #[.slice (some ⟨g, 0, none⟩) q cv, .bool true]) (by simp [results, Tryz.results23, go_sem]) rfl ⟨fun _ => ⟨_, _, rfl, vs, HMK.out⟩, fun h => (by rw [HOK.out] at h; cases h), hbel⟩

end Go.Proofs.YtjkfighooijblaaGreat

/-
  The reference's costs of cheapest ways. Printed by gen_wyB.py.
-/
namespace Go.Proofs.YtjkfighooijblaaGreat
open Go.RowKit
def unF (i k : Nat) : Int := if i = k then 0 else 1000000000
theorem RowI.blk {w : World} {K : Nat} {u : Value} {r : List Int} (h : RowI w K u r) : ∀ q, u.ownBlock = some q → K ≤ q := fun q hq => (World.ownsRow.lt h q hq).1
theorem RowI.shp {w : World} {K : Nat} {u : Value} {r : List Int} (h : RowI w K u r) (h0 : 0 < r.length) : ∃ g cap, u = .slice (some ⟨g, 0, none⟩) r.length cap ∧ K ≤ g := by
  rcases Own.of_row h with ⟨_, h1, _⟩ | ⟨g, cap, h1, hg, _⟩
  · omega
  · exact ⟨g, cap, h1, hg⟩
theorem tab_takeS {α : Type} (n : Nat) (f : Nat → α) {k : Nat} (h : k < n) : (tab n f).take (k + 1) = (tab n f).take k ++ [f k] := by
  have hl := tab_length n f
  rw [List.take_succ_eq_append_getElem (by omega)]
  congr 2
  simp [tab]
theorem tab_all {α : Type} (n : Nat) (f : Nat → α) : (tab n f).take n = tab n f := by rw [List.take_of_length_le]; rw [tab_length]; exact Nat.le_refl _
theorem tab_takeL {α : Type} (n : Nat) (f : Nat → α) {k : Nat} (h : k ≤ n) : ((tab n f).take k).length = k := by rw [List.length_take, tab_length]; omega

end Go.Proofs.YtjkfighooijblaaGreat

/-
  The reference's costs of cheapest ways: a step, all of them. By an AI agent.
-/
namespace Go.Proofs.YtjkfighooijblaaGreat
open Go.RowKit

theorem RdM.rowF {w : World} {ad : Option Addr} {n : Nat} {F : Nat → Nat → Int} (h : RdM w ad (toM n F)) (hn : 0 < n) : ∃ b off, ad = some ⟨b, off, none⟩ ∧ b < w.heap.size ∧ ∀ i, i < n → ∃ b2 o2 c, w.cell? ⟨b, off + i, none⟩ = some (.slice (some ⟨b2, o2, none⟩) n c) ∧ b2 < w.heap.size ∧ ∀ j, j < n → w.cell? ⟨b2, o2 + j, none⟩ = some (.int .i64 (F i j)) := by
  obtain ⟨b, off, a, c, rfl, hb, _⟩ := h 0 (by rw [toM_len]; exact hn)
  refine ⟨b, off, rfl, hb, fun i hi => ?_⟩
  obtain ⟨a, c, hc, hr⟩ := h.at (i := i) (by rw [toM_len]; exact hi)
  rw [toM_row F hi, tab_length] at hc
  rw [toM_row F hi] at hr
  obtain ⟨b2, o2, rfl, hb2, _⟩ := hr 0 (by rw [tab_length]; exact hn)
  refine ⟨b2, o2, c, hc, hb2, fun j hj => ?_⟩
  have := hr.at (j := j) (by rw [tab_length]; exact hj)
  rwa [tab_getD hj] at this
def stepF (n : Nat) (m C : Nat → Nat → Int) : Nat → Nat → Int := fun i k => mnF (C i k) (fun j => prodZ (C i j) (m j k)) n
theorem bf_step (n : Nat) (m : Nat → Nat → Int) (s : Nat) : bf n m (s + 1) = stepF n m (bf n m s) := by
  funext i k
  rw [bf]
  rfl
theorem bf_zero (n : Nat) (m : Nat → Nat → Int) : bf n m 0 = unF := by
  funext i k
  rw [bf]
  rfl
/-- The step on its way. -/
def stS (n : Nat) (m C : Nat → Nat → Int) (i j k : Nat) : Nat → Nat → Int := fun a b => mnF (C a b) (fun q => prodZ (C a q) (m q b)) (if a < i then n else if a = i then (if b < k then j + 1 else j) else 0)
theorem stS_start (n : Nat) (m C : Nat → Nat → Int) : stS n m C 0 0 0 = C := by
  funext a b
  unfold stS
  rw [if_neg (by omega)]
  split
  · rw [if_neg (by omega)]; rfl
  · rfl
theorem stS_next (n : Nat) (m C : Nat → Nat → Int) (i j k : Nat) : (fun a b => if a = i ∧ b = k then leastZ (stS n m C i j k i k) (prodZ (C i j) (m j k)) else stS n m C i j k a b) = stS n m C i j (k + 1) := by
  funext a b
  by_cases h : a = i ∧ b = k
  · obtain ⟨rfl, rfl⟩ := h
    rw [if_pos ⟨rfl, rfl⟩]
    unfold stS
    have e1 : (if a < a then n else if a = a then (if b < b then j + 1 else j) else 0) = j := by simp
    have e2 : (if a < a then n else if a = a then (if b < b + 1 then j + 1 else j) else 0) = j + 1 := by simp
    rw [e1, e2]
    rfl
  · rw [if_neg h]
    unfold stS
    congr 1
    by_cases h1 : a < i
    · rw [if_pos h1, if_pos h1]
    · rw [if_neg h1, if_neg h1]
      by_cases h2 : a = i
      · rw [if_pos h2, if_pos h2]
        by_cases h3 : b < k
        · rw [if_pos h3, if_pos (by omega)]
        · rw [if_neg h3, if_neg (by omega)]
      · rw [if_neg h2, if_neg h2]
theorem stS_row (n : Nat) (m C : Nat → Nat → Int) (i j : Nat) : toM n (stS n m C i j n) = toM n (stS n m C i (j + 1) 0) := toM_congr fun a b ha hb => by
  unfold stS
  congr 1
  by_cases h1 : a < i
  · rw [if_pos h1, if_pos h1]
  · rw [if_neg h1, if_neg h1]
    by_cases h2 : a = i
    · rw [if_pos h2, if_pos h2, if_pos hb, if_neg (by omega)]
    · rw [if_neg h2, if_neg h2]
theorem stS_col (n : Nat) (m C : Nat → Nat → Int) (i : Nat) : stS n m C i n 0 = stS n m C (i + 1) 0 0 := by
  funext a b
  unfold stS
  congr 1
  by_cases h1 : a < i
  · rw [if_pos h1, if_pos (by omega)]
  · rw [if_neg h1]
    by_cases h2 : a = i
    · rw [if_pos h2, if_neg (by omega), if_pos (by omega)]
    · rw [if_neg h2, if_neg (by omega)]
      split
      · rw [if_neg (by omega)]
      · rfl
theorem stS_end (n : Nat) (m C : Nat → Nat → Int) : toM n (stS n m C n 0 0) = toM n (stepF n m C) := toM_congr fun a b ha hb => by
  unfold stS stepF
  rw [if_pos ha]
theorem mnF_bd {a : Int} {f : Nat → Int} {K : Int} (ha : -K ≤ a ∧ a ≤ K) : ∀ k, (∀ j, j < k → -K ≤ f j ∧ f j ≤ K) → -K ≤ mnF a f k ∧ mnF a f k ≤ K
  | 0, _ => ha
  | k + 1, h => by
    have h1 := mnF_bd ha k (fun j hj => h j (by omega))
    have h2 := h k (by omega)
    unfold mnF leastZ
    split <;> omega

/-- Whether costs stay. -/
def okB (n : Nat) (m : Nat → Nat → Int) : Bool := decide (toM n (bf n m n) = toM n (bf n m (n + 1)))
end Go.Proofs.YtjkfighooijblaaGreat

/-
  Costs of cheapest ways that are numbers: program and reference. By an AI agent.
-/
namespace Go.Proofs.YtjkfighooijblaaGreat
open Go.RowKit

def nmB (M : List (List Int)) : Bool := M.all fun r => r.all numB
def disM (M : List (List Int)) : List (List Int) := toM M.length (bf M.length (entM M) M.length)
def okW (M : List (List Int)) : Bool := sqB M && okB M.length (entM M)
def cosB (M : List (List Int)) : Bool := okW M && nmB (disM M)
def onM (B : Bool) (X : List (List Int)) : List (List Int) := if B = true then X else []
def ManR (B : Bool) (X : List (List Int)) (w : World) (e : Ending) (w' : World) : Prop := ∃ ad cap, e = .returned (.tuple #[.slice ad (onM B X).length cap, .bool B]) ∧ RdM w' ad (onM B X) ∧ Below w.heap.size w w'
theorem ManR.no {w w' : World} (X : List (List Int)) (hb : Below w.heap.size w w') : ManR false X w (.returned (.tuple #[.slice none 0 0, .bool false])) w' := ⟨none, 0, rfl, RdM.nil _ _, hb⟩
theorem ManR.yes {w w' : World} {ad : Option Addr} {cap n : Nat} {X : List (List Int)} (h : RdM w' ad X) (hn : X.length = n) (hb : Below w.heap.size w w') : ManR true X w (.returned (.tuple #[.slice ad n cap, .bool true])) w' := by
  subst hn
  exact ⟨ad, cap, rfl, h, hb⟩
theorem toM_inj {n : Nat} {F G : Nat → Nat → Int} : toM n F = toM n G ↔ ∀ i j, i < n → j < n → F i j = G i j := by
  constructor
  · intro h i j hi hj
    have h1 := congrArg (fun M => (M.getD i []).getD j 0) h
    rw [toM_row F hi, toM_row G hi, tab_getD hj, tab_getD hj] at h1
    exact h1
  · exact toM_congr
theorem okB_t {n : Nat} {m : Nat → Nat → Int} : okB n m = true ↔ ∀ i k, i < n → k < n → bf n m n i k = bf n m (n + 1) i k := by
  unfold okB
  rw [decide_eq_true_iff, toM_inj]
theorem ok_same {n : Nat} {m : Nat → Nat → Int} (hm : ∀ a b, a < n → b < n → numB (m a b) = true) (hn6 : n ≤ 6) : okF n (fwK n (fw0 m) n) = okB n m := by
  rw [Bool.eq_iff_iff, okF_t, okB_t]
  exact ways_ok hm hn6
theorem dis_same {n : Nat} {m : Nat → Nat → Int} (hm : ∀ a b, a < n → b < n → numB (m a b) = true) (hn6 : n ≤ 6) (hok : okB n m = true) : toM n (fwK n (fw0 m) n) = toM n (bf n m n) :=
  toM_congr fun i j hi hj => ways_eq hm hn6 (okF_t.1 (by rw [ok_same hm hn6]; exact hok)) hi hj

/-- The program's costs, in the reference's words. -/
theorem wayCosts2_c (ad : Option Addr) (cap : Nat) (M : List (List Int)) (w : World) (hr : RdM w ad M) (hs : sqB M = true) :
    Calls Tryz.prog 23 #[.slice ad M.length cap] w fun e w' => (okW M = true → ∃ adv cav, e = .returned (.tuple #[.slice adv M.length cav, .bool true]) ∧ ∃ vs, MatO w' w.heap.size (.slice adv M.length cav) (disM M) vs) ∧ (okW M = false → e = .returned (.tuple #[.slice none 0 0, .bool false])) ∧ Below w.heap.size w w' := by
  obtain ⟨hn, hrow, hnum⟩ := sq_facts hs
  refine (wayCosts_c ad cap M w hr hs).mono ?_
  rintro e w' ⟨h1, h2, h3⟩
  have hok : okF M.length (fwK M.length (fw0 (entM M)) M.length) = okW M := by unfold okW; rw [hs, Bool.true_and]; exact ok_same hnum hn.2
  rw [hok] at h1 h2
  refine ⟨fun h => ?_, h2, h3⟩
  obtain ⟨adv, cav, e1, vs, hm⟩ := h1 h
  rw [dis_same (m := entM M) hnum hn.2 (by unfold okW at h; rw [hs, Bool.true_and] at h; exact h)] at hm
  exact ⟨adv, cav, e1, vs, hm⟩
theorem dis_len (M : List (List Int)) : (disM M).length = M.length := toM_len _ _
theorem dis_row (M : List (List Int)) {i : Nat} (h : i < M.length) : ((disM M).getD i []).length = M.length := by unfold disM; rw [toM_row _ h, tab_length]
def smM (M : List (List Int)) : Prop := M.length ≤ 100000 ∧ ∀ i, i < M.length → (M.getD i []).length ≤ 100000

end Go.Proofs.YtjkfighooijblaaGreat

/-
  Whether all numbers of a list lie in a range: the reference's.
-/
namespace Go.Proofs.YtjkfighooijblaaGreat
open Go.RowKit

def allB (l : List Int) (lo hi : Int) : Bool := l.all fun x => inB x lo hi
theorem allB_t {l : List Int} {lo hi : Int} : allB l lo hi = true ↔ ∀ j, j < l.length → lo ≤ l.getD j 0 ∧ l.getD j 0 ≤ hi := by
  unfold allB
  rw [List.all_eq_true]
  constructor
  · intro h j hj
    have := h (l.getD j 0) (by simp [List.getD, hj])
    exact inB_t.1 this
  · intro h x hx
    obtain ⟨j, hj, rfl⟩ := List.getElem_of_mem hx
    have := h j hj
    rw [inB_t]
    simpa [List.getD, hj] using this
theorem allB_f {l : List Int} {lo hi : Int} {j : Nat} (hj : j < l.length) (h : inB (l.getD j 0) lo hi = false) : allB l lo hi = false := by
  unfold allB
  rw [List.all_eq_false]
  exact ⟨l.getD j 0, by simp [List.getD, hj], by simpa using h⟩

set_option maxHeartbeats 400000 in
theorem l1All_any (ad : Option Addr) (cap : Nat) (xs : List Int) (lo hi : Int) (w : World) (hl : xs.length ≤ 1048576) (hr : RdI w ad xs) :
    Calls Tryz.prog 71 #[.slice ad xs.length cap, .int .i64 lo, .int .i64 hi] w fun e w' => e = .returned (.bool (allB xs lo hi)) ∧ w = w' := by
  have HR := Lib.hid hr; clear hr
  go_enter Tryz.func71, Tryz.ntmps71
  go_wp2
  go_loop [11] (fun i => ∃ k : Nat, k ≤ xs.length ∧ i = .int .i64 k ∧ ∀ j, j < k → lo ≤ xs.getD j 0 ∧ xs.getD j 0 ≤ hi) (fun i => xs.length - (intOf i).toNat)
  case atStart => exact ⟨0, Nat.zero_le _, rfl, fun j hj => by omega⟩
  case round =>
    obtain ⟨k, hk, rfl, hj⟩ := hrel
    have HJ := Lib.hid hj; clear hj
    by_cases hlt : k < xs.length
    · obtain ⟨b, off, rfl, hb, c⟩ := HR.out k hlt
      generalize hx : xs.getD k 0 = x at c
      have HX := Lib.hid hx; clear hx
      by_cases h1 : inB x lo hi = true
      · go_wp2_with (go_at_call 78; refine (l1In_any _ _ _ _).mono ?_; rintro e w' ⟨rfl, rfl⟩)
        go_round
        case rel =>
          refine ⟨k + 1, by omega, by go_num, fun j hj => ?_⟩
          by_cases e : j = k
          · subst e; rw [HX.out]; exact inB_t.1 h1
          · exact HJ.out j (by omega)
        case measure => simp [intOf]; omega
      · have h1' := Bool.eq_false_iff.2 h1
        go_wp2_with (go_at_call 78; refine (l1In_any _ _ _ _).mono ?_; rintro e w' ⟨rfl, rfl⟩)
        go_ret
        exact ⟨ret_bool (allB_f hlt (by rw [HX.out]; exact h1')).symm, rfl⟩
    · have he : k = xs.length := by omega
      subst he
      go_wp2
      go_ret
      exact ⟨ret_bool (allB_t.2 HJ.out).symm, rfl⟩

end Go.Proofs.YtjkfighooijblaaGreat

/-
  The transposed matrix; potentials: program and reference. By an AI agent.
-/
namespace Go.Proofs.YtjkfighooijblaaGreat
open Go.RowKit

/-- append of numbers in the list of a plain region, with the block of what comes. -/
theorem wpList_appT {w : World} {ops : Array Oper} {rest : List Oper} {o : Oper} {a : Act} {Q : Exit → Act → World → Prop} (hgd : o.guard = none) (s x : Operand)
    (ho : o.op = .call { callee := .builtin .append, args := #[s, x], argTypes := #[25, 25] })
    (B b off c N : Nat) (v : Value) (l m : List Int) (hN : l.length + m.length = N) (h0 : 0 < N) (hs : a.eval s = v) (hx : a.eval x = .slice (some ⟨b, off, none⟩) m.length c) (hown : RowI w B v l) (hX : RdI w (some ⟨b, off, none⟩) m) (hl : l.length ≤ 100000) (hm : m.length ≤ 100000) (hB : B ≤ w.heap.size)
    (h : ∀ g' cap' w', RowI w' B (.slice (some ⟨g', 0, none⟩) N cap') (l ++ m) → w.grownBy w' v.ownBlock → (some g' = v.ownBlock ∨ some g' = some w.heap.size) → Below B w w' → wpList Tryz.prog ops Q rest (a.put o.dst (.slice (some ⟨g', 0, none⟩) N cap')) w') : wpList Tryz.prog ops Q (o :: rest) a w := by
  refine wpList_plain hgd fun _ hK => ?_
  obtain ⟨iP, hiP, hzP, hsP, hbP⟩ := info_parts Tryz.infoI
  obtain ⟨v', w', hr, h2, h3, _, h5⟩ := run_append_own_at (P := Tryz.prog) w B 25 o.type 3 iP _ 1 8 Tryz.underlying25 hiP hzP hsP hbP rfl (by omega) v l.length (ints l) hown ⟨b, off, none⟩ m.length c (ints m) (by rw [ints_length]; omega) (fun j u hu => by
    have hj : j < m.length := by
      have := (List.getElem?_eq_some_iff.1 hu).1
      rwa [ints_length] at this
    rw [addr_plain, hX.at hj]
    rw [ints_get hj] at hu
    exact hu) (ints_oneCell m) (by unfold maxLen; omega) (by omega) hB
  have hrow : RowI w' B v' (l ++ m) := row_congr h2 (by simp) (by simp [ints])
  have hbl := (Below.refl B w).grown h3 hB (fun q e => (World.ownsRow.lt hown q e).1)
  unfold Oper.wp execOp
  simp only [ho, resolve, invoke, builtin, Sem.run_bind, Sem.run_pure, Result.andThen_ok, List.map_toArray, List.map_cons, List.map_nil, hs, hx, hr]
  rcases Own.of_row hrow with ⟨_, h1, _⟩ | ⟨g, cap, h1, hg, _⟩
  · rw [List.length_append] at h1; omega
  · rw [List.length_append, hN] at h1
    subst h1
    exact hK _ _ (h g cap w' hrow h3 h5 hbl)
theorem RowI.of_block {w w' : World} {B : Nat} {v : Value} {l : List Int} (h : RowI w B v l) (e : ∀ q, v.ownBlock = some q → w'.heap[q]? = w.heap[q]?) : RowI w' B v l := by
  refine ⟨h.1, ?_⟩
  rcases h.2 with hn | ⟨g, cap, cur, rfl, hb, hgg, rest⟩
  · exact .inl hn
  · exact .inr ⟨g, cap, cur, rfl, hb, by rw [e g rfl]; exact hgg, rest⟩
/-- Rows that grow in their places. -/
structure TrO (w : World) (B g n : Nat) (R : Nat → List Int) (vs : List Value) : Prop where
  hB : B ≤ g
  out : Own w g 25 vs
  len : vs.length = n
  each : ∀ i, i < n → RowI w B (vs.getD i undef) (R i)
  apart : ∀ i j, i < n → j < n → i ≠ j → ∀ q, (vs.getD i undef).ownBlock = some q → (vs.getD j undef).ownBlock ≠ some q
theorem TrO.below {w w' : World} {B g n : Nat} {R : Nat → List Int} {vs : List Value} (h : TrO w B g n R vs) (hb : Below w.heap.size w w') : TrO w' B g n R vs :=
  ⟨h.hB, h.out.belowAll hb, h.len, fun i hi => (h.each i hi).below hb, h.apart⟩
theorem TrO.congr {w : World} {B g n : Nat} {R R' : Nat → List Int} {vs : List Value} (h : TrO w B g n R vs) (e : ∀ i, i < n → R i = R' i) : TrO w B g n R' vs :=
  ⟨h.hB, h.out, h.len, fun i hi => by rw [← e i hi]; exact h.each i hi, h.apart⟩
theorem TrO.start (w : World) (n : Nat) (c : Array Value) (h : c.toList = List.replicate n (.slice none 0 0)) : TrO (w.alloc (.cells c 25)) w.heap.size w.heap.size n (fun _ => []) (List.replicate n (.slice none 0 0)) := by
  have e : ∀ i, i < n → (List.replicate n (Value.slice none 0 0)).getD i undef = .slice none 0 0 := fun i hi => by simp [List.getD, hi]
  exact ⟨Nat.le_refl _, Own.newA w c _ h, by simp, fun i hi => by rw [e i hi]; exact RowI.nil _ _, fun i j hi _ _ q hq => by rw [e i hi] at hq; cases hq⟩
theorem TrO.step {w w' : World} {B g n k : Nat} {R : Nat → List Int} {vs : List Value} {u : Value} {x : Int} (h : TrO w B g n R vs) (hk : k < n) (hu : RowI w' B u (R k ++ [x])) (hg : w.grownBy w' (vs.getD k undef).ownBlock)
    (hb : u.ownBlock = (vs.getD k undef).ownBlock ∨ u.ownBlock = some w.heap.size) : TrO (w'.setCell ⟨g, k, none⟩ u) B g n (fun i => if i = k then R k ++ [x] else R i) (vs.set k u) := by
  have hne : ∀ {i}, i < n → (vs.getD i undef).ownBlock ≠ some g := fun {i} hi => row_ne_ty (h.each i hi) h.out (by decide)
  have ho' : Own w' g 25 vs := h.out.grown hg (hne hk)
  have hl := h.len
  have hlow : ∀ {i q}, i < n → (vs.getD i undef).ownBlock = some q → q < w.heap.size := fun {i q} hi hq => (World.ownsRow.lt (h.each i hi) q hq).2
  have eS : (vs.set k u).getD k undef = u := by simp [List.getD_eq_getElem?_getD, hl, hk]
  have eO : ∀ {i}, i ≠ k → (vs.set k u).getD i undef = vs.getD i undef := fun {i} hi => by rw [List.getD_eq_getElem?_getD, List.getElem?_set_ne (by omega), ← List.getD_eq_getElem?_getD]
  refine ⟨h.hB, ho'.set k u, by rw [List.length_set]; exact hl, fun i hi => ?_, fun i j hi hj hij q => ?_⟩
  · by_cases e : i = k
    · subst e
      rw [eS]
      simp only [if_pos]
      exact ownsRow_setCell_other hu (row_ne_ty hu ho' (by decide)) _
    · rw [eO e]
      simp only [if_neg e]
      have h1 : RowI w' B (vs.getD i undef) (R i) := (h.each i hi).of_block fun q hq => hg.block q (hlow hi hq) fun e2 => h.apart i k hi hk e q hq e2.symm
      exact ownsRow_setCell_other h1 (hne hi) _
  · by_cases e : i = k
    · subst e
      rw [eS, eO (by omega)]
      intro h1 h2
      rcases hb with hb | hb
      · rw [hb] at h1; exact h.apart i j hi hj hij q h1 h2
      · rw [hb] at h1
        cases h1
        exact absurd (hlow hj h2) (Nat.lt_irrefl _)
    · by_cases e' : j = k
      · subst e'
        rw [eS, eO e]
        intro h1 h2
        rcases hb with hb | hb
        · rw [hb] at h2; exact h.apart i j hi hj hij q h1 h2
        · rw [hb] at h2
          cases h2
          exact absurd (hlow hi h1) (Nat.lt_irrefl _)
      · rw [eO e, eO e']
        exact h.apart i j hi hj hij q
theorem TrO.low {w : World} {B g n : Nat} {R : Nat → List Int} {vs : List Value} (h : TrO w B g n R vs) : g < w.heap.size ∧ ∀ i q, i < n → (vs.getD i undef).ownBlock = some q → q < w.heap.size :=
  ⟨h.out.lt, fun i q hi hq => (World.ownsRow.lt (h.each i hi) q hq).2⟩
theorem TrO.grown {w w' : World} {B g n K : Nat} {row : Option Nat} {R : Nat → List Int} {vs : List Value} (h : TrO w B g n R vs) (hK : g < K ∧ ∀ i q, i < n → (vs.getD i undef).ownBlock = some q → q < K) (hg : w.grownBy w' row) (hne : ∀ q, row = some q → q < B ∨ K ≤ q) : TrO w' B g n R vs := by
  have hl := h.low
  refine ⟨h.hB, h.out.of_block (hg.block g hl.1 fun e => ?_), h.len, fun i hi => (h.each i hi).of_block fun q hq => hg.block q (hl.2 i q hi hq) fun e => ?_, h.apart⟩
  · have := hne g e.symm
    have := h.hB
    omega
  · have := hne q e.symm
    have := hK.2 i q hi hq
    have := (World.ownsRow.lt (h.each i hi) q hq).1
    omega
theorem TrO.rd {w : World} {B g n : Nat} {F : Nat → Nat → Int} {vs : List Value} (h : TrO w B g n (fun i => tab n (F i)) vs) (h0 : 0 < n) : RdM w (some ⟨g, 0, none⟩) (toM n F) := by
  intro i hi
  rw [toM_len] at hi
  have hrow := h.each i hi
  obtain ⟨gr, cr, e, _⟩ := hrow.shp (by rw [tab_length]; exact h0)
  have hc : w.cell? ⟨g, i, none⟩ = some (vs.getD i undef) := h.out.cell? (by simp [List.getD, h.len, hi])
  rw [e] at hc hrow
  obtain ⟨_, _, e2, hrd⟩ := hrow.shape
  injection e2 with e2 _ _
  subst e2
  exact ⟨g, 0, _, cr, rfl, h.out.lt, by rw [Nat.zero_add, toM_row F hi]; exact hc, by rw [toM_row F hi]; exact hrd⟩

/-- Rows of the transposed: i rows and j numbers of the next one are done. -/
def trR (F : Nat → Nat → Int) (i j k : Nat) : List Int := tab (if k < j then i + 1 else i) fun a => F a k
theorem trR_next (F : Nat → Nat → Int) (i j k : Nat) : (if k = j then trR F i j j ++ [F i j] else trR F i j k) = trR F i (j + 1) k := by
  unfold trR
  by_cases h : k = j
  · subst h
    rw [if_pos rfl, if_neg (by omega), if_pos (by omega)]
    unfold tab
    rw [List.range_succ, List.map_append]
    rfl
  · rw [if_neg h]
    by_cases h2 : k < j
    · rw [if_pos h2, if_pos (by omega)]
    · rw [if_neg h2, if_neg (by omega)]
set_option maxHeartbeats 3200000 in
set_option maxRecDepth 100000 in
theorem transposed_c (n : Nat) (ad : Option Addr) (cap : Nat) (F : Nat → Nat → Int) (w : World) (hr : RdM w ad (toM n F)) (hn : 1 ≤ n ∧ n ≤ 6) :
    Calls Tryz.prog 26 #[.slice ad n cap] w fun e w' => ∃ g, e = .returned (.slice (some ⟨g, 0, none⟩) n n) ∧ (∃ vs, TrO w' w.heap.size g n (fun i => tab n fun j => F j i) vs) ∧ Below w.heap.size w w' := by
  obtain ⟨bM, oM, rfl, hbM, hrowM⟩ := hr.rowF (by omega)
  obtain ⟨b0, o0, c0, e0, _, _⟩ := hrowM 0 (by omega)
  rw [Nat.add_zero] at e0
  have HRW := Lib.hid hrowM
  clear hr hrowM
  have hmk := run_makeN (P := Tryz.prog) 23 25 (.slice none 0 0) 1 24 Tryz.underlying23 Tryz.infoM n (by omega) (by omega)
  simp only [Value.cells, Nat.mul_one] at hmk
  have hst := TrO.start w n (madeCells #[.slice none 0 0] n) (toList_madeCells_one _ _)
  have hb0 : Below w.heap.size w (w.alloc (.cells (madeCells #[.slice none 0 0] n) 25)) := (Below.refl _ _).alloc (Nat.le_refl _) _
  have x0 : (0 : Int) < (n : Int) := by omega
  go_enter Tryz.func26, Tryz.ntmps26
  go_wp2_with fail
  generalize w.alloc (.cells (madeCells #[.slice none 0 0] n) 25) = w1 at hst hb0 ⊢
  have HST := Lib.hid hst
  clear hst hmk e0
  go_loopw [15] (fun i wr => ∃ (a : Nat) (vs : List Value), a ≤ n ∧ i = .int .i64 a ∧ TrO wr w.heap.size w.heap.size n (trR F a 0) vs ∧ Below w.heap.size w wr) (fun i _ => n - (intOf i).toNat)
  case atStart => exact ⟨0, _, Nat.zero_le _, rfl, HST.out.congr (fun i _ => by unfold trR; rw [if_neg (by omega)]; rfl), hb0⟩
  case round =>
    obtain ⟨wI, rfl⟩ : ∃ x : World, x = wr := ⟨_, rfl⟩
    obtain ⟨a, vs, ha, rfl, htr, hbel⟩ := hrel
    have HT := Lib.hid htr; clear htr HST
    by_cases hla : a < n
    case neg =>
      obtain rfl : a = n := by omega
      have hfin := HT.out.congr (R' := fun i => tab a fun j => F j i) (fun i _ => by unfold trR; rw [if_neg (by omega)])
      have HF := Lib.hid hfin; clear hfin
      go_wp2_with fail
      go_ret
      exact ⟨_, rfl, ⟨_, HF.out⟩, hbel⟩
    case pos =>
      obtain ⟨b2, o2, c2, e2, hl2, hc2⟩ := HRW.out a hla
      have HC2 := Lib.hid hc2
      have e2 := bcell hbel hbM e2
      have x1 : (0 : Int) ≤ (a : Int) := by omega
      have x2 : (a : Int) < (n : Int) := by omega
      clear hc2
      go_wp2_with fail
      go_loopw [21] (fun i wr => ∃ (j : Nat) (vs : List Value), j ≤ n ∧ i = .int .i64 j ∧ TrO wr w.heap.size w.heap.size n (trR F a j) vs ∧ Below w.heap.size w wr) (fun i _ => n - (intOf i).toNat)
      case atStart => exact ⟨0, vs, Nat.zero_le _, rfl, HT.out, hbel⟩
      case round =>
        obtain ⟨wJ, rfl⟩ : ∃ x : World, x = wr := ⟨_, rfl⟩
        obtain ⟨j, us, hj, rfl, htr, hbel2⟩ := hrel
        clear e2
        by_cases hlj : j < n
        case neg =>
          obtain rfl : j = n := by omega
          have HT2 := Lib.hid (htr.congr (R' := trR F (a + 1) 0) (fun i hi => by unfold trR; rw [if_pos hi, if_neg (by omega)]))
          clear htr HT
          go_wp2_with fail
          go_roundw
          case rel => exact ⟨a + 1, us, by omega, by go_num, HT2.out, hbel2⟩
          case measure => simp [intOf]; omega
        case pos =>
          have k1 := bcell hbel2 hl2 (HC2.out j hlj)
          have k2 : wJ.cell? ⟨w.heap.size, j, none⟩ = some (us.getD j undef) := htr.out.cell? (by simp [List.getD, htr.len, hlj])
          have hsz := hbel2.size
          have htr2 := htr.below ((Below.refl _ _).alloc (Nat.le_refl _) (.cells #[.int .i64 (F a j)] 3))
          have HTR := Lib.hid htr2
          have HNX := Lib.hid (fun k => trR_next F a j k)
          have HO := Lib.hid (htr2.each j hlj)
          have hlen : (trR F a j j).length = a := by unfold trR; rw [tab_length, if_neg (by omega)]
          have HK := Lib.hid (show ∀ wm, (wJ.alloc (.cells #[.int .i64 (F a j)] 3)).grownBy wm (us.getD j undef).ownBlock → wm.cell? ⟨w.heap.size, j, none⟩ = some (us.getD j undef) ∧ wm.frozen? ⟨w.heap.size, j, none⟩ = false from fun wm hg => by
            have ho := htr2.out.grown hg (row_ne_ty (htr2.each j hlj) htr2.out (by decide))
            exact ⟨ho.cell? (by simp [List.getD, htr.len, hlj]), ho.frozen j⟩)
          have x3 : (0 : Int) ≤ (j : Int) := by omega
          have x4 : (j : Int) < (n : Int) := by omega
          have hgB : w.heap.size ≤ w.heap.size := Nat.le_refl _
          clear htr htr2 HT
          obtain ⟨X, hX⟩ : ∃ X, F a j = X := ⟨_, rfl⟩
          obtain ⟨u0, hu0⟩ : ∃ u0, us.getD j undef = u0 := ⟨_, rfl⟩
          rw [hX] at k1 HTR HNX HK HO
          rw [hu0] at k2 HK HO
          have HU0 := Lib.hid hu0
          clear hX hu0
          go_wp2_with (at_builtin; refine wpList_appT rfl _ _ rfl w.heap.size _ 0 1 (a + 1) _ (trR F a j j) [X] (by rw [hlen]; rfl) (by omega) rfl rfl HO.out (rdI_one _ _ _ rfl) (by rw [hlen]; omega) (by simp) (by simp; omega) ?_; intro g5 c5 wm hown hgr hbk hbm; obtain ⟨d1, d2⟩ := HK.out wm hgr)
          have hst := HTR.out.step hlj hown (by rw [HU0.out]; exact hgr) (by rw [HU0.out]; exact hbk)
          have hb5 := ((hbel2.alloc hsz (.cells #[.int .i64 X] 3)).trans hbm).setCell (p := ⟨w.heap.size, j, none⟩) hgB (.slice (some ⟨g5, 0, none⟩) (a + 1) c5)
          have HST := Lib.hid (hst.congr (R' := trR F a (j + 1)) (fun i _ => HNX.out i))
          clear hst hown hgr hbk hbm
          go_wp2_with fail
          go_roundw
          case rel => exact ⟨j + 1, _, by omega, by go_num, HST.out, hb5⟩
          case measure => simp [intOf]; omega

set_option maxHeartbeats 1600000 in
theorem sumOf_c (ad : Option Addr) (cap : Nat) (r : List Int) (w : World) (hr : RdI w ad r) (hl : r.length ≤ 1048576) :
    Calls Tryz.prog 44 #[.slice ad r.length cap] w fun e w' => e = .returned (.int .i64 (mnF 1000000000 (fun j => r.getD j 0) r.length)) ∧ w = w' := by
  have HR := Lib.hid hr; clear hr
  obtain ⟨A, hA⟩ : ∃ A, mnF 1000000000 (fun j => r.getD j 0) r.length = A := ⟨_, rfl⟩
  rw [hA]
  have HA := Lib.hid hA; clear hA
  go_enter Tryz.func44, Tryz.ntmps44
  go_wp2_with fail
  go_loop [3, 8] (fun v i => ∃ k : Nat, k ≤ r.length ∧ i = .int .i64 k ∧ v = .int .i64 (mnF 1000000000 (fun j => r.getD j 0) k)) (fun _ i => r.length - (intOf i).toNat)
  case atStart => exact ⟨0, Nat.zero_le _, rfl, rfl⟩
  case round =>
    obtain ⟨k, hk, rfl, rfl⟩ := hrel
    by_cases hlt : k < r.length
    case neg =>
      obtain rfl : k = r.length := by omega
      rw [HA.out]
      go_wp2_with fail
      go_ret
      exact ⟨rfl, rfl⟩
    case pos =>
      obtain ⟨b, off, rfl, hb, cc⟩ := HR.out k hlt
      have hst := Lib.hid (show (if r.getD k 0 < mnF 1000000000 (fun j => r.getD j 0) k then r.getD k 0 else mnF 1000000000 (fun j => r.getD j 0) k) = mnF 1000000000 (fun j => r.getD j 0) (k + 1) from leastZ_if _ _)
      have x1 : (0 : Int) ≤ (k : Int) := by omega
      have x2 : (k : Int) < (r.length : Int) := by omega
      generalize mnF 1000000000 (fun j => r.getD j 0) k = V at hst ⊢
      obtain ⟨X, hX⟩ : ∃ X, r.getD k 0 = X := ⟨_, rfl⟩
      rw [hX] at cc hst
      clear hX
      go_wp2_with fail
      go_round
      case rel => exact ⟨k + 1, by omega, by go_num, by rw [← hst.out]⟩
      case measure => simp [intOf]; omega
set_option maxHeartbeats 800000 in
theorem toldList_c (ad : Option Addr) (cap : Nat) (r : List Int) (w : World) (hr : RdI w ad r) (hl : r.length ≤ 1048576) :
    Calls Tryz.prog 25 #[.slice ad r.length cap] w fun e w' => e = .returned (.tuple #[if r.all numB = true then .slice ad r.length cap else .slice none 0 0, .bool (r.all numB)]) ∧ w = w' := by
  have C1 := Lib.hid (areNumbers_c ad cap r w hr hl)
  clear hr hl
  generalize r.all numB = V at C1 ⊢
  generalize r.length = n at C1 ⊢
  cases V
  · go_enter Tryz.func25, Tryz.ntmps25
    go_wp2_with fail
    refine C1.out.mono ?_
    rintro e w1 ⟨rfl, rfl⟩
    go_wp2_with fail
    exact bodyPost_ret (v := .tuple #[.slice none 0 0, .bool false]) (by simp [results, Tryz.results25, go_sem]) rfl ⟨rfl, rfl⟩
  · go_enter Tryz.func25, Tryz.ntmps25
    go_wp2_with fail
    refine C1.out.mono ?_
    rintro e w1 ⟨rfl, rfl⟩
    go_wp2_with fail
    exact bodyPost_ret (v := .tuple #[.slice ad n cap, .bool true]) (by simp [results, Tryz.results25, go_sem]) rfl ⟨rfl, rfl⟩

end Go.Proofs.YtjkfighooijblaaGreat
