/-
  Least costs of so many steps to a vertex: the reference's. By an AI agent.
-/
import Derived.Test.YtbffcbjbeeagmaaWyR
namespace Go.Proofs.Ytbffcbjbeeagmaa
open Go.RowKit

def toG (k n : Nat) (F : Nat → Nat → Int) : List (List Int) := tab k fun i => tab n (F i)
theorem toG_len (k n : Nat) (F : Nat → Nat → Int) : (toG k n F).length = k := tab_length _ _
theorem toG_row {k n : Nat} (F : Nat → Nat → Int) {i : Nat} (h : i < k) : (toG k n F).getD i [] = tab n (F i) := tab_getD h _
theorem toG_succ (k n : Nat) (F : Nat → Nat → Int) : toG (k + 1) n F = toG k n F ++ [tab n (F k)] := tab_succ _ _
theorem RdM.rowG {w : World} {ad : Option Addr} {k n : Nat} {F : Nat → Nat → Int} (h : RdM w ad (toG k n F)) (hk : 0 < k) (hn : 0 < n) : ∃ b off, ad = some ⟨b, off, none⟩ ∧ b < w.heap.size ∧ ∀ i, i < k → ∃ b2 o2 c, w.cell? ⟨b, off + i, none⟩ = some (.slice (some ⟨b2, o2, none⟩) n c) ∧ b2 < w.heap.size ∧ ∀ j, j < n → w.cell? ⟨b2, o2 + j, none⟩ = some (.int .i64 (F i j)) := by
  obtain ⟨b, off, a, c, rfl, hb, _⟩ := h 0 (by rw [toG_len]; exact hk)
  refine ⟨b, off, rfl, hb, fun i hi => ?_⟩
  obtain ⟨a, c, hc, hr⟩ := h.at (i := i) (by rw [toG_len]; exact hi)
  rw [toG_row F hi, tab_length] at hc
  rw [toG_row F hi] at hr
  obtain ⟨b2, o2, rfl, hb2, _⟩ := hr 0 (by rw [tab_length]; exact hn)
  refine ⟨b2, o2, c, hc, hb2, fun j hj => ?_⟩
  have := hr.at (j := j) (by rw [tab_length]; exact hj)
  rwa [tab_getD hj] at this
theorem MatO.one {w : World} {B H : Nat} {u : Value} {xs : List Int} (h : RowI w B u xs) (hB : B ≤ w.heap.size) (hH : w.heap.size = H) : MatO (w.alloc (.cells #[u] 29)) B (.slice (some ⟨H, 0, none⟩) 1 1) [xs] [u] := by
  subst hH
  refine ⟨⟨by simp, .inr ⟨w.heap.size, 1, #[u], rfl, hB, heap_alloc_new w _, Nat.le_refl _, by unfold maxLen; omega, rfl, by simp⟩⟩, fun i hi => ?_, fun i j hi hj hij => ?_⟩
  · obtain rfl : i = 0 := by simpa using hi
    exact (CellO.of_row h).below ((Below.refl _ _).alloc (Nat.le_refl _) _)
  · have h1 : i = 0 := by simpa using hi
    have h2 : j = 0 := by simpa using hj
    omega

set_option maxHeartbeats 3200000 in
set_option maxRecDepth 100000 in
theorem wyExact_c (n b : Nat) (ad : Option Addr) (cap : Nat) (m : Nat → Nat → Int) (w : World) (hr : RdM w ad (toM n m)) (hn : 1 ≤ n ∧ n ≤ 6) (hb : b < n) (hnum : ∀ a b, a < n → b < n → numB (m a b) = true) :
    Calls Try.prog 47 #[.slice ad n cap, .int .i64 b] w fun e w' => ∃ ad' cap', e = .returned (.slice ad' n cap') ∧ RdM w' ad' (toG n n (exF n m b)) ∧ Below w.heap.size w w' := by
  have HBD := Lib.hid (fun s v (hv : v < n) => ex_bd hnum hb (s := s) hv)
  have HR := Lib.hid hr; have HNUM := Lib.hid hnum
  clear hr hnum
  go_enter Try.func47, Try.ntmps47
  go_wp2_with fail
  go_loopw [5, 15] (fun v i wr => ∃ k : Nat, k ≤ n ∧ i = .int .i64 k ∧ RowI wr w.heap.size v (tab k (exF n m b 0)) ∧ Below w.heap.size w wr) (fun _ i _ => n - (intOf i).toNat)
  case atStart => exact ⟨0, Nat.zero_le _, rfl, RowI.nil _ _, Below.refl _ _⟩
  case round =>
    obtain ⟨wE, rfl⟩ : ∃ x : World, x = wr := ⟨_, rfl⟩
    obtain ⟨k, hk, rfl, hrow, hbel⟩ := hrel
    obtain ⟨adr, car, rfl⟩ := row_shp hrow
    rw [tab_length] at hrow ⊢
    have HO := Lib.hid hrow; clear hrow
    have hsz := hbel.size
    by_cases hlt : k < n
    case pos =>
      have hlk := tab_length k (exF n m b 0)
      have HSN := Lib.hid (tab_succ k (exF n m b 0))
      by_cases hkb : k = b
      · subst hkb
        have g1 : (((k : Nat) : Int) == (k : Int)) = true := by simp
        have hex : exF n m k 0 k = 0 := by unfold exF; rw [if_pos rfl]
        rw [hex] at HSN
        generalize tab k (exF n m k 0) = R at HO HSN hlk
        go_wp2_with (at_builtin; refine wpList_appN rfl _ _ rfl w.heap.size _ 0 1 _ R [0] (k + 1) (by rw [hlk]; rfl) rfl rfl (RowI.alloc' HO.out) (rdI_one _ _ _ rfl) (by omega) (by simp) (by simp; omega) ?_; intro v5 wm hown hsh hbm hgr)
        have hb3 := (bal_alloc (o := .cells #[.int .i64 0] 3) hbel).trans hbm
        rw [← HSN.out] at hown
        have HO5 := Lib.hid hown; clear hown hsh hgr hbm
        go_wp2_with fail
        go_roundw
        case rel => exact ⟨k + 1, by omega, by go_num, HO5.out, hb3⟩
        case measure => simp [intOf]; omega
      · have g1 : ((k : Int) == (b : Int)) = false := beq_eq_false_iff_ne.2 (by omega)
        have hex : exF n m b 0 k = 1000000000 := by unfold exF; rw [if_neg hkb]
        rw [hex] at HSN
        generalize tab k (exF n m b 0) = R at HO HSN hlk
        go_wp2_with (at_builtin; refine wpList_appN rfl _ _ rfl w.heap.size _ 0 1 _ R [1000000000] (k + 1) (by rw [hlk]; rfl) rfl rfl (RowI.alloc' HO.out) (rdI_one _ _ _ rfl) (by omega) (by simp) (by simp; omega) ?_; intro v5 wm hown hsh hbm hgr)
        have hb3 := (bal_alloc (o := .cells #[.int .i64 1000000000] 3) hbel).trans hbm
        rw [← HSN.out] at hown
        have HO5 := Lib.hid hown; clear hown hsh hgr hbm
        go_wp2_with fail
        go_roundw
        case rel => exact ⟨k + 1, by omega, by go_num, HO5.out, hb3⟩
        case measure => simp [intOf]; omega
    case neg =>
      obtain rfl : k = n := by omega
      have HM := Lib.hid (MatO.one HO.out hsz rfl)
      have hb4 := bal_alloc (o := .cells #[.slice adr k car] 29) hbel
      rw [show [tab k (exF k m b 0)] = toG 1 k (exF k m b) from rfl] at HM
      clear HO
      go_wp2_with fail
      go_loopw [7, 8] (fun v i wr => ∃ (s : Nat) (vs : List Value), 1 ≤ s ∧ s ≤ k ∧ i = .int .i64 s ∧ MatO wr w.heap.size v (toG s k (exF k m b)) vs ∧ Below w.heap.size w wr) (fun _ i _ => k - (intOf i).toNat)
      case atStart => exact ⟨1, _, Nat.le_refl _, hn.1, rfl, HM.out, hb4⟩
      case round =>
        obtain ⟨wF, rfl⟩ : ∃ x : World, x = wr := ⟨_, rfl⟩
        obtain ⟨s, vs, hs1, hs, rfl, hmat, hbel2⟩ := hrel
        obtain ⟨adv, cav, rfl, _⟩ := hmat.shape
        rw [toG_len] at hmat ⊢
        have HX := Lib.hid hmat; clear hmat HM hb4 hsz hbel
        by_cases hls : s < k
        case neg =>
          obtain rfl : s = k := by omega
          go_wp2_with fail
          go_ret
          exact ⟨adv, cav, rfl, HX.out.rd, hbel2⟩
        case pos =>
          obtain ⟨t, ht⟩ : ∃ t, s = t + 1 := ⟨s - 1, by omega⟩
          have hsz := hbel2.size
          have HRX := Lib.hid HX.out.rd
          have e1 : IntKind.i64.wrap ((s : Int) - 1) = (t : Int) := by rw [i64_small (by omega) (by omega)]; omega
          have x3 : (0 : Int) ≤ (t : Int) := by omega
          have x4 : (t : Int) < (s : Int) := by omega
          have HT := Lib.hid ht
          have htk : t < 6 := by omega
          clear ht
          go_wp2_with fail
          go_loopw [9, 38] (fun v i wr => ∃ j : Nat, j ≤ k ∧ i = .int .i64 j ∧ RowI wr wF.heap.size v (tab j (exF k m b s)) ∧ Below wF.heap.size wF wr) (fun _ i _ => k - (intOf i).toNat)
          case atStart => exact ⟨0, Nat.zero_le _, rfl, RowI.nil _ _, Below.refl _ _⟩
          case round =>
            obtain ⟨wI, rfl⟩ : ∃ x : World, x = wr := ⟨_, rfl⟩
            obtain ⟨j, hj, rfl, hrow, hbi⟩ := hrel
            obtain ⟨adr2, car2, rfl⟩ := row_shp hrow
            rw [tab_length] at hrow ⊢
            have HO := Lib.hid hrow; clear hrow
            have hszi := hbi.size
            by_cases hlj : j < k
            case pos =>
              go_wp2_with fail
              go_loopw [11, 43] (fun v i wr => ∃ q : Nat, q ≤ k ∧ i = .int .i64 q ∧ v = .int .i64 (mnF 1000000000 (fun z => prodZ (m j z) (exF k m b t z)) q) ∧ Below wI.heap.size wI wr) (fun _ i _ => k - (intOf i).toNat)
              case atStart => exact ⟨0, Nat.zero_le _, rfl, rfl, Below.refl _ _⟩
              case round =>
                obtain ⟨wJ, rfl⟩ : ∃ x : World, x = wr := ⟨_, rfl⟩
                obtain ⟨q, hq, rfl, rfl, hbj⟩ := hrel
                by_cases hlq : q < k
                case pos =>
                  have hbW := ball hbel2 (ball hbi hbj)
                  obtain ⟨bM, oM, rfl, hbM, hrow⟩ := HR.out.rowF (by omega)
                  obtain ⟨b2, o2, c2, e2, hl2, hc2⟩ := hrow j hlj
                  have e2 := bcell hbW hbM e2
                  have k1 := bcell hbW hl2 (hc2 q hlq)
                  have hbX := ball hbi hbj
                  obtain ⟨bX, oX, rfl, hbX2, hrowX⟩ := HRX.out.rowG (by omega) (by omega)
                  obtain ⟨b3, o3, c3, e3, hl3, hc3⟩ := hrowX t (by omega)
                  have e3 := bcell hbX hbX2 e3
                  have k2 := bcell hbX hl3 (hc3 q hlq)
                  have hm := numB_t (HNUM.out j q hlj hlq)
                  have hbd := HBD.out t q hlq
                  have hmn : mnF 1000000000 (fun z => prodZ (m j z) (exF k m b t z)) (q + 1) = leastZ (mnF 1000000000 (fun z => prodZ (m j z) (exF k m b t z)) q) (prodZ (m j q) (exF k m b t q)) := rfl
                  clear hrow hc2 hrowX hc3
                  have x1 : (0 : Int) ≤ (q : Int) := by omega
                  have x2 : (q : Int) < (k : Int) := by omega
                  have x5 : (0 : Int) ≤ (j : Int) := by omega
                  have x6 : (j : Int) < (k : Int) := by omega
                  generalize mnF 1000000000 (fun z => prodZ (m j z) (exF k m b t z)) q = A at hmn ⊢
                  generalize m j q = C at k1 hm hmn
                  generalize exF k m b t q = D at k2 hbd hmn
                  have CP := Lib.hid (fun w => nuPlus_c C D w (by omega))
                  generalize prodZ C D = P at CP hmn
                  have CL := Lib.hid (fun w => l1Least_n A P w)
                  have HMN := Lib.hid hmn
                  generalize leastZ A P = V at CL HMN
                  clear hm hbd hmn hbX hbW
                  go_wp2_with fail
                  go_quiet (first | (go_at_call 48; exact Calls.quiet_of_same ((CP.out _).mono (fun e w' h => ⟨h.1, h.2.symm⟩))) | (go_at_call 66; exact Calls.quiet_of_same ((CL.out _).mono (fun e w' h => ⟨h.1, h.2.symm⟩))))
                  go_wp2_with fail
                  go_roundw
                  case rel => exact ⟨q + 1, by omega, by go_num, by rw [HMN.out], bdrewN hbj _⟩
                  case measure => simp [intOf]; omega
                case neg =>
                  obtain rfl : q = k := by omega
                  have hex : mnF 1000000000 (fun z => prodZ (m j z) (exF q m b t z)) q = exF q m b s j := by rw [HT.out]; rfl
                  rw [hex]
                  have hlk := tab_length j (exF q m b s)
                  have HSN := Lib.hid (tab_succ j (exF q m b s))
                  have HO2 := Lib.hid (HO.out.below hbj)
                  have hbx := ball hbi hbj
                  have hszx := hbx.size
                  clear hex
                  generalize exF q m b s j = P at HSN ⊢
                  generalize tab j (exF q m b s) = R at HO2 HSN hlk
                  go_wp2_with (at_builtin; refine wpList_appN rfl _ _ rfl wF.heap.size _ 0 1 _ R [P] (j + 1) (by rw [hlk]; rfl) rfl rfl (RowI.alloc' HO2.out) (rdI_one _ _ _ rfl) (by omega) (by simp) (by simp; omega) ?_; intro v5 wm hown hsh hbm hgr)
                  have hb3 := (bal_alloc (o := .cells #[.int .i64 P] 3) hbx).trans hbm
                  rw [← HSN.out] at hown
                  have HO5 := Lib.hid hown; clear hown hsh hgr hbm
                  go_wp2_with fail
                  go_roundw
                  case rel => exact ⟨j + 1, by omega, by go_num, HO5.out, hb3⟩
                  case measure => simp [intOf]; omega
            case neg =>
              obtain rfl : j = k := by omega
              have hM1 := HX.out.below hbi
              have hlow := HX.out.low
              have hrow := HO.out
              have hX := CellO.of_row (hrow.low (B' := w.heap.size) hsz)
              have HB := Lib.hid hrow.blk
              have HCX := Lib.hid hX
              have HM1 := Lib.hid hM1; have HLOW := Lib.hid hlow
              have HSN := Lib.hid (toG_succ s j (exF j m b))
              have hgl := toG_len s j (exF j m b)
              generalize toG s j (exF j m b) = L at HM1 HLOW HSN hgl HX
              clear hrow hM1 hlow HO hX HRX
              go_wp2_with (at_builtin; refine wpList_appM rfl _ _ rfl w.heap.size wF.heap.size wI.heap.size _ (.slice adr2 j car2) L vs (tab j (exF j m b s)) (s + 1) (by rw [hgl]) rfl rfl (by simp [go_sem]) (HM1.out.below ((Below.refl _ _).alloc (Nat.le_refl _) _)) (HCX.out.below ((Below.refl _ _).alloc (Nat.le_refl _) _)) HB.out HLOW.out (by rw [hgl]; omega) (by simp; omega) ?_; intro ad5 cap5 wm hmat5 hbm)
              have hb3 := ((hbel2.trans (hbi.mono hsz)).alloc (by omega) (.cells #[.slice adr2 j car2] 29)).trans hbm
              rw [← HSN.out] at hmat5
              have HM5 := Lib.hid hmat5; clear hmat5 hbm
              go_wp2_with fail
              go_roundw
              case rel => exact ⟨s + 1, _, by omega, by omega, by go_num, HM5.out, hb3⟩
              case measure => simp [intOf]; omega
end Go.Proofs.Ytbffcbjbeeagmaa
