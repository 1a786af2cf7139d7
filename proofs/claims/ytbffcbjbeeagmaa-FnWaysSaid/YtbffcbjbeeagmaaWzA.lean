/-
  Least costs of so many steps to a vertex: the program's. By an AI agent.
-/
import Derived.Test.YtbffcbjbeeagmaaWyT
namespace Go.Proofs.Ytbffcbjbeeagmaa
open Go.RowKit

set_option maxHeartbeats 1600000 in
set_option maxRecDepth 100000 in
theorem dot_c (n : Nat) (ad : Option Addr) (cap : Nat) (f : Nat → Int) (ad2 : Option Addr) (cap2 : Nat) (g : Nat → Int) (w : World) (h1 : RdI w ad (tab n f)) (h2 : RdI w ad2 (tab n g)) (hn : n ≤ 6) (hb : ∀ k, k < n → -4000000000 ≤ f k + g k ∧ f k + g k ≤ 4000000000) :
    Calls Try.prog 117 #[.slice ad n cap, .slice ad2 n cap2] w fun e w' => e = .returned (.int .i64 (mnF 1000000000 (fun k => prodZ (f k) (g k)) n)) ∧ Below w.heap.size w w' := by
  have H1 := Lib.hid h1; have H2 := Lib.hid h2; have HB := Lib.hid hb
  clear h1 h2 hb
  go_enter Try.func117, Try.ntmps117
  go_wp2_with fail
  go_loopw [5, 9] (fun v i wr => ∃ k : Nat, k ≤ n ∧ i = .int .i64 k ∧ v = .int .i64 (mnF 1000000000 (fun k => prodZ (f k) (g k)) k) ∧ Below w.heap.size w wr) (fun _ i _ => n - (intOf i).toNat)
  case atStart => exact ⟨0, Nat.zero_le _, rfl, rfl, Below.refl _ _⟩
  case round =>
    obtain ⟨wE, rfl⟩ : ∃ x : World, x = wr := ⟨_, rfl⟩
    obtain ⟨k, hk, rfl, rfl, hbel⟩ := hrel
    by_cases hlt : k < n
    case neg =>
      obtain rfl : k = n := by omega
      go_wp2_with fail
      go_ret
      exact ⟨rfl, hbel⟩
    case pos =>
      obtain ⟨b1, o1, rfl, hb1, c1⟩ := H1.out k (by rw [tab_length]; exact hlt)
      obtain ⟨b2, o2, rfl, hb2, c2⟩ := H2.out k (by rw [tab_length]; exact hlt)
      rw [tab_getD hlt] at c1 c2
      have k1 := bcell hbel hb1 c1
      have k2 := bcell hbel hb2 c2
      have hbd := HB.out k hlt
      have HMN := Lib.hid (show mnF 1000000000 (fun k => prodZ (f k) (g k)) (k + 1) = leastZ (mnF 1000000000 (fun k => prodZ (f k) (g k)) k) (prodZ (f k) (g k)) from rfl)
      generalize mnF 1000000000 (fun k => prodZ (f k) (g k)) k = A at HMN ⊢
      generalize f k = C at k1 hbd HMN
      generalize g k = D at k2 hbd HMN
      have CP := Lib.hid (fun w => product_c C D w (by omega))
      generalize prodZ C D = P at CP HMN
      rw [← leastZ_if] at HMN
      have x1 : (0 : Int) ≤ (k : Int) := by omega
      have x2 : (k : Int) < (n : Int) := by omega
      clear hbd c1 c2
      go_wp2_with fail
      go_quiet ((go_at_call 45; exact Calls.quiet_of_same ((CP.out _).mono (fun e w' h => ⟨h.1, h.2.symm⟩))))
      go_wp2_with fail
      go_roundw
      case rel => exact ⟨k + 1, by omega, by go_num, by rw [HMN.out], bdrewN hbel _⟩
      case measure => simp [intOf]; omega

set_option maxHeartbeats 1600000 in
set_option maxRecDepth 100000 in
theorem applied_c (n : Nat) (ad : Option Addr) (cap : Nat) (m : Nat → Nat → Int) (ad2 : Option Addr) (cap2 : Nat) (g : Nat → Int) (w : World) (hr : RdM w ad (toM n m)) (h2 : RdI w ad2 (tab n g)) (hn : 1 ≤ n ∧ n ≤ 6) (hb : ∀ i k, i < n → k < n → -4000000000 ≤ m i k + g k ∧ m i k + g k ≤ 4000000000) :
    Calls Try.prog 98 #[.slice ad n cap, .slice ad2 n cap2] w fun e w' => ∃ a' c', e = .returned (.slice a' n c') ∧ RowI w' w.heap.size (.slice a' n c') (tab n (fun i => mnF 1000000000 (fun k => prodZ (m i k) (g k)) n)) ∧ Below w.heap.size w w' := by
  have HR := Lib.hid hr; have H2 := Lib.hid h2; have HB := Lib.hid hb
  have HO0 := Lib.hid (rowI_new w w.heap.size w.heap.size (Nat.le_refl _) rfl)
  have hb0 : Below w.heap.size w (w.alloc (.cells #[] 3)) := (Below.refl _ _).alloc (Nat.le_refl _) _
  clear hr h2 hb
  go_enter Try.func98, Try.ntmps98
  go_wp2_with fail
  go_loopw [5, 11] (fun v i wr => ∃ k : Nat, k ≤ n ∧ i = .int .i64 k ∧ RowI wr w.heap.size v (tab k (fun i => mnF 1000000000 (fun k => prodZ (m i k) (g k)) n)) ∧ Below w.heap.size w wr) (fun _ i _ => n - (intOf i).toNat)
  case atStart => exact ⟨0, Nat.zero_le _, rfl, HO0.out, hb0⟩
  case round =>
    obtain ⟨wE, rfl⟩ : ∃ x : World, x = wr := ⟨_, rfl⟩
    obtain ⟨k, hk, rfl, hrow, hbel⟩ := hrel
    obtain ⟨adr, car, rfl⟩ := row_shp hrow
    rw [tab_length] at hrow ⊢
    have HO := Lib.hid hrow; clear hrow
    have hsz := hbel.size
    by_cases hlt : k < n
    case neg =>
      obtain rfl : k = n := by omega
      go_wp2_with fail
      go_ret
      exact ⟨adr, car, rfl, HO.out, hbel⟩
    case pos =>
      obtain ⟨bM, oM, a1, c1, rfl, hbM, k1, r1⟩ := HR.out k (by rw [toM_len]; exact hlt)
      rw [toM_row _ hlt, tab_length] at k1
      rw [toM_row _ hlt] at r1
      have k1 := bcell hbel hbM k1
      have R1 := r1.below hbel
      have CD := Lib.hid (fun u (hb : Below wE.heap.size wE u) => dot_c n a1 c1 (m k) ad2 cap2 g u (R1.below hb) ((H2.out.below hbel).below hb) hn.2 (fun j hj => HB.out k j hlt hj))
      have HSN := Lib.hid (tab_succ k (fun i => mnF 1000000000 (fun k => prodZ (m i k) (g k)) n))
      have hlk := tab_length k (fun i => mnF 1000000000 (fun k => prodZ (m i k) (g k)) n)
      generalize tab k (fun i => mnF 1000000000 (fun k => prodZ (m i k) (g k)) n) = R at HO HSN hlk
      generalize mnF 1000000000 (fun j => prodZ (m k j) (g j)) n = V at CD HSN
      have HLK := Lib.hid hlk
      have x1 : (0 : Int) ≤ (k : Int) := by omega
      have x2 : (k : Int) < (n : Int) := by omega
      clear R1 r1 hlk
      go_wp2_with fail
      refine (CD.out _ (Below.refl _ _)).mono ?_
      rintro e w2 ⟨rfl, hb2⟩
      have HO2 := Lib.hid (HO.out.below hb2)
      have hb3 := ball hbel hb2
      have hsz3 := hb3.size
      clear hb2
      go_wp2_with (at_builtin; refine wpList_appN rfl _ _ rfl w.heap.size _ 0 1 _ R [V] (k + 1) (by rw [HLK.out]; rfl) rfl rfl (RowI.alloc' HO2.out) (rdI_one _ _ _ rfl) (by have := HLK.out; omega) (by simp) (by simp; omega) ?_; intro v5 wm hown hsh hbm hgr)
      have hb5 := (bal_alloc (o := .cells #[.int .i64 V] 3) hb3).trans hbm
      rw [← HSN.out] at hown
      have HO5 := Lib.hid hown; clear hown hsh hgr hbm
      go_wp2_with fail
      go_roundw
      case rel => exact ⟨k + 1, by omega, by go_num, HO5.out, hb5⟩
      case measure => simp [intOf]; omega
end Go.Proofs.Ytbffcbjbeeagmaa
