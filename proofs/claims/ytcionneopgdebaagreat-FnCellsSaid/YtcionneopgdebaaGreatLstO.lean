/-
  The library's numbers of bits, its little generator and breakPatterns over lists of numbers. Printed by gen_sortO.py (bits.Len64, bits.Len: the shelf's contract texts, laid for this program).
-/
import Derived.Test.YtcionneopgdebaaGreatLstP
import Derived.Deep.DeepCutAuto
import Derived.Sort.LotD5
import Derived.Sort.Row
import Derived.Laws.Bits64b
import Derived.Test.YtcionneopgdebaaGreatLen
namespace Go.Proofs.YtcionneopgdebaaGreat
namespace LstSort
open Go.RowKit
open Go.Sort (SWO swp swp_left swp_right swp_other size_swp bitsLen bitsLen_le_iff two_pow_bitsLen_le xorNext xorNextN xorNextN_lt xorNext_toNat breakStep breakPatterns)


theorem bitLen_eq (x : Nat) (h : x < 2 ^ 64) : Lib.bitLen x = bitsLen x := by
  induction x using Nat.strongRecOn with
  | _ x ih =>
    by_cases h0 : x = 0
    · subst h0; rfl
    · rw [Lib.bitLen_half x h0 h, ih (x / 2) (by omega) (by omega)]
      unfold bitsLen
      rw [if_neg h0, Nat.log2_def x]
      by_cases h2 : 2 ≤ x
      · rw [if_pos h2, if_neg (by omega)]; omega
      · obtain rfl : x = 1 := by omega
        simp

/-- The generator's cell. -/
def RnA (w : World) (s X : Nat) : Prop := w.cell? ⟨s, 0, none⟩ = some (.int .u64 X) ∧ w.frozen? ⟨s, 0, none⟩ = false
theorem RnA.set {w : World} {s n m : Nat} (h : RnA w s n) : RnA (w.setCell ⟨s, 0, none⟩ (.int .u64 m)) s m := ⟨World.cell?_setCell_same _ _ _ h.1, by rw [World.frozen?_setCell]; exact h.2⟩
theorem RnA.lt {w : World} {s n : Nat} (h : RnA w s n) : s < w.heap.size := by
  apply Classical.byContradiction
  intro hn
  have : w.heap[s]? = none := Array.getElem?_eq_none (by omega)
  have := h.1
  simp [World.cell?, *] at this
theorem RnA.below {w w' : World} {s n : Nat} (h : RnA w s n) (hb : Below w.heap.size w w') : RnA w' s n := by
  have hbl := hb.block s h.lt
  exact ⟨by rw [← h.1]; simp only [World.cell?, hbl], by rw [← h.2]; simp only [World.frozen?, hbl]⟩
theorem RnA.chg {w w' : World} {s n b : Nat} (h : RnA w s n) (hb : Chg b w w') (hne : s ≠ b) : RnA w' s n := by
  have hbl := hb.block s h.lt hne
  exact ⟨by rw [← h.1]; simp only [World.cell?, hbl], by rw [← h.2]; simp only [World.frozen?, hbl]⟩
theorem _root_.Go.Proofs.YtcionneopgdebaaGreat.Chg.over {u w w' : World} {B c : Nat} (h : Chg c u w) (hb : Below B w w') (hB : u.heap.size ≤ B) (hs : w.heap.size ≤ w'.heap.size) : Chg c u w' :=
  ⟨hb.os.trans h.os, hb.tape.trans h.tape, hb.output.trans h.output, Nat.le_trans h.size hs, fun k hk hne => by
    rw [← h.block k hk hne]
    exact hb.block k (by omega)⟩

set_option maxHeartbeats 1000000 in
/-- '*r ^= *r << 13; *r ^= *r >> 7; *r ^= *r << 17; return uint64(*r)'. -/
theorem xorshift_Next_c (s X : Nat) (hX : X < 18446744073709551616) (w : World) (hr : RnA w s X) :
    Calls Tryz.prog 121 #[.pointer (some ⟨s, 0, none⟩)] w fun e w' => e = .returned (.int .u64 (xorNextN X : Nat)) ∧ RnA w' s (xorNextN X) ∧ Below s w w' := by
  obtain ⟨hc, hf⟩ := hr
  obtain ⟨A, hA⟩ : ∃ A : Nat, A = X ^^^ (X * 8192 % 18446744073709551616) := ⟨_, rfl⟩
  obtain ⟨B, hB⟩ : ∃ B : Nat, B = A ^^^ (A / 128) := ⟨_, rfl⟩
  obtain ⟨C, hC⟩ : ∃ C : Nat, C = B ^^^ (B * 131072 % 18446744073709551616) := ⟨_, rfl⟩
  have lA : A < 18446744073709551616 := by rw [hA]; exact Nat.xor_lt_two_pow (n := 64) (by omega) (by omega)
  have lB : B < 18446744073709551616 := by rw [hB]; exact Nat.xor_lt_two_pow (n := 64) (by omega) (by omega)
  have e1 : bits .xor .u64 (X : Int) (IntKind.u64.wrap ((X : Int) * 8192)) = (A : Int) := by
    rw [IntKind.wrap_u64, show ((X : Int) * 8192 % 18446744073709551616) = ((X * 8192 % 18446744073709551616 : Nat) : Int) by omega, bits_xor_u64_nat _ _ hX (by omega), hA]
  have e2 : bits .xor .u64 (A : Int) ((A : Int) / 128) = (B : Int) := by
    rw [show ((A : Int) / 128) = ((A / 128 : Nat) : Int) by omega, bits_xor_u64_nat _ _ lA (by omega), hB]
  have e3 : bits .xor .u64 (B : Int) (IntKind.u64.wrap ((B : Int) * 131072)) = (C : Int) := by
    rw [IntKind.wrap_u64, show ((B : Int) * 131072 % 18446744073709551616) = ((B * 131072 % 18446744073709551616 : Nat) : Int) by omega, bits_xor_u64_nat _ _ lB (by omega), hC]
  have hv : xorNextN X = C := by unfold xorNextN; simp only []; rw [← hA, ← hB, ← hC]
  rw [hv]
  clear hA hB hC hv
  have hss : ∀ v v', (w.setCell ⟨s, 0, none⟩ v).setCell ⟨s, 0, none⟩ v' = w.setCell ⟨s, 0, none⟩ v' := fun v v' => by
    rw [Go.Sort.setCell_eq, Go.Sort.setCell_eq, Go.Sort.mapBlock_mapBlock, Go.Sort.setCell_eq]
    congr 1
    funext c
    simp
  have hfin : RnA ((w.setCell ⟨s, 0, none⟩ (.int .u64 C)).drewN 3) s C := by
    have h : RnA w s X := ⟨hc, hf⟩
    exact (h.set (m := C)).below (bdrewN (Below.refl _ _) 3)
  have hbw : Below s w ((w.setCell ⟨s, 0, none⟩ (.int .u64 C)).drewN 3) := bdrewN ((Below.refl s w).setCell (p := ⟨s, 0, none⟩) (Nat.le_refl _) _) 3
  have HF := Lib.hid hfin; have HBW := Lib.hid hbw; clear hfin hbw
  go_enter Tryz.func121, Tryz.ntmps121
  go_wp2
  go_region
  all_goals go_wp2
  all_goals go_region
  all_goals go_wp2
  all_goals go_region
  all_goals go_wp2
  go_ret
  exact ⟨rfl, HF.out, HBW.out⟩

theorem wrap_two_pow (k : Nat) (hk : k ≤ 62) : IntKind.u64.wrap ((2 : Int) ^ k) = ((1 <<< k : Nat) : Int) := by
  have h : (2 : Nat) ^ k ≤ 2 ^ 62 := Nat.pow_le_pow_right (by decide) hk
  rw [IntKind.wrap_u64, Nat.one_shiftLeft, show ((2 : Int) ^ k) = ((2 ^ k : Nat) : Int) by push_cast; rfl]
  generalize (2 : Nat) ^ k = p at h
  omega
theorem nextPowerOfTwo_c (n : Nat) (hn : n < 4611686018427387904) (w : World) :
    Calls Tryz.prog 120 #[.int .i64 n] w fun e w' => e = .returned (.int .u64 ((1 <<< bitsLen n : Nat) : Int)) ∧ w' = w := by
  have hLen : ∀ w, Calls Tryz.prog 85 #[.int .u64 (n : Int)] w fun e w' => e = .returned (.int .i64 (bitsLen n : Nat)) ∧ w' = w := fun w => by
    have h := bits_Len (n : Int) w (by omega) (by omega)
    rwa [Int.toNat_natCast, bitLen_eq _ (by omega)] at h
  have hk : bitsLen n ≤ 62 := (bitsLen_le_iff n 62).2 (by omega)
  have hp := wrap_two_pow (bitsLen n) hk
  go_enter Tryz.func120, Tryz.ntmps120
  go_wp2_with (first | (go_at_call 85; refine (hLen _).mono ?_; rintro e w' ⟨rfl, rfl⟩))
  go_ret
  exact ⟨rfl, rfl⟩

/-- So many rounds are left; t have been made. -/
def bpRest (a L M i0 : Nat) : Nat → Nat → UInt64 × Array Ls → Array Ls
  | 0, _, st => st.2
  | k + 1, t, st => bpRest a L M i0 k (t + 1) (breakStep a L M st (i0 + t))
theorem bpRest_zero (a L M i0 t : Nat) (st : UInt64 × Array Ls) : bpRest a L M i0 0 t st = st.2 := rfl
theorem breakPatterns_eq (d : Array Ls) (a L : Nat) (h8 : 8 ≤ L) : breakPatterns d a (a + L) = bpRest a L (1 <<< bitsLen L) (a + L / 4 * 2 - 1) 3 0 (UInt64.ofNat L, d) := by
  unfold breakPatterns
  simp only [Nat.add_sub_cancel_left]
  rw [if_pos h8]
  rfl
theorem bp_step (a L M i0 t : Nat) (r : UInt64) (d : Array Ls) (o : Nat) (ht : t < 3) (ho : (if (xorNext r).toNat &&& (M - 1) ≥ L then ((xorNext r).toNat &&& (M - 1)) - L else (xorNext r).toNat &&& (M - 1)) = o) :
    bpRest a L M i0 (3 - t) t (r, d) = bpRest a L M i0 (3 - (t + 1)) (t + 1) (xorNext r, swp d (i0 + t) (a + o)) := by
  rw [show 3 - t = (3 - (t + 1)) + 1 by omega, bpRest]
  unfold breakStep
  simp only [ho]

set_option maxHeartbeats 3200000 in
set_option maxRecDepth 100000 in
theorem breakPatterns_go_c (blk off cap a b L : Nat) (d : Array Ls) (w : World) (hH : PH w blk off d) (hL : a + L = b) (hb : b ≤ d.size) (hsz : d.size < 2305843009213693952) (h8 : 8 ≤ L) :
    Calls Tryz.prog 111 #[.slice (some ⟨blk, off, none⟩) d.size cap, .int .i64 a, .int .i64 b, cmpV] w (SortsTo w blk off d.size (breakPatterns d a b)) := by
  have hbl := hH.lt (by omega)
  have hne : Apt blk w.heap.size d := Apt.new hH (by omega)
  obtain ⟨Q, hQ⟩ : ∃ Q, L / 4 = Q := ⟨_, rfl⟩
  obtain ⟨I0, hI0⟩ : ∃ I0, a + Q * 2 - 1 = I0 := ⟨_, rfl⟩
  obtain ⟨M, hM⟩ : ∃ M : Nat, M = 1 <<< bitsLen L := ⟨_, rfl⟩
  have hM1 : 1 ≤ M := by rw [hM, Nat.one_shiftLeft]; exact Nat.two_pow_pos _
  have hM2 : M ≤ 2 * L := by rw [hM, Nat.one_shiftLeft]; exact two_pow_bitsLen_le (by omega)
  obtain ⟨R, hR⟩ : ∃ R, bpRest a L M I0 3 0 (UInt64.ofNat L, d) = R := ⟨_, rfl⟩
  have hR0 : breakPatterns d a b = R := by rw [← hL, breakPatterns_eq d a L h8, ← hM, hQ, hI0, hR]
  rw [hR0]
  have hNP := Lib.hid (show ∀ w, Calls Tryz.prog 120 #[.int .i64 (L : Int)] w fun e w' => e = .returned (.int .u64 (M : Int)) ∧ w' = w by rw [hM]; exact fun w => nextPowerOfTwo_c L (by omega) w)
  have e0 : (b : Int) - (a : Int) = (L : Int) := by omega
  have e1 : (L : Int).tdiv 4 = (Q : Int) := by rw [Int.tdiv_eq_ediv_of_nonneg (by omega)]; omega
  have hq4 : Q * 4 ≤ L ∧ 2 ≤ Q := by omega
  have e2 : (a : Int) + (Q : Int) * 2 - 1 = (I0 : Int) := by omega
  have g8 : (8 : Int) ≤ (L : Int) := by omega
  have w1' : IntKind.i64.wrap (L : Int) = (L : Int) := i64_small (by omega) (by omega)
  have w2' : IntKind.i64.wrap (I0 : Int) = (I0 : Int) := i64_small (by omega) (by omega)
  have w3' : IntKind.u64.wrap (L : Int) = (L : Int) := by rw [IntKind.wrap_u64]; omega
  have HB := Lib.hid hL; have HQ := Lib.hid hQ; have HI0 := Lib.hid hI0; have HR := Lib.hid hR
  have hII : I0 + 1 = a + Q * 2 := by omega
  have HII := Lib.hid hII
  clear hL hQ hI0 hR hM hR0 hII
  have HP := Lib.hid hH; clear hH
  have hrn : RnA (w.alloc (.cells #[.int .u64 (L : Int)] 125)) w.heap.size (UInt64.ofNat L).toNat := by
    rw [show (UInt64.ofNat L).toNat = L by simp; omega]
    exact ⟨World.cell?_alloc_at _ _ _ _ rfl, World.frozen?_alloc_at _ _ _ _ rfl⟩
  have HRN := Lib.hid hrn; clear hrn
  have HP1 := Lib.hid (HP.out.below ((Below.refl _ _).alloc (Nat.le_refl _) (.cells #[.int .u64 (L : Int)] 125)))
  unfold cmpV
  go_enter Tryz.func111, Tryz.ntmps111
  go_wp2_with fail
  refine (hNP.out _).mono ?_
  rintro e w' ⟨rfl, rfl⟩
  go_wp2_with fail
  obtain ⟨wA, hwA⟩ : ∃ x, w.alloc (.cells #[.int .u64 (L : Int)] 125) = x := ⟨_, rfl⟩
  have hsz1 : wA.heap.size = w.heap.size + 1 := by rw [← hwA]; simp
  have hcw : Chg blk w wA := by rw [← hwA]; exact Chg.alloc _ _ _
  rw [hwA] at HRN HP1
  rw [hwA]
  clear hwA
  go_loopw [11] (fun vi wr => ∃ (t : Nat) (r : UInt64) (dk : Array Ls), vi = .int .i64 ((I0 + t : Nat) : Int) ∧ t ≤ 3 ∧ dk.size = d.size ∧ (PH wr blk off dk ∧ Und w.heap.size dk) ∧ RnA wr w.heap.size r.toNat ∧ Chg blk w wr ∧ bpRest a L M I0 (3 - t) t (r, dk) = R) (fun vi _ => I0 + 4 - (intOf vi).toNat)
  case atStart => exact ⟨0, UInt64.ofNat L, d, by first | rfl | go_num, by omega, rfl, ⟨HP1.out, fun t ht => (HP.out t ht).2.2.le⟩, HRN.out, hcw, HR.out⟩
  case round =>
    obtain ⟨wE, rfl⟩ : ∃ x : World, x = wr := ⟨_, rfl⟩
    obtain ⟨t, r, dk, rfl, ht, hsk, ⟨hph, hud⟩, hrn, hchg, hO⟩ := hrel
    have HUD := Lib.hid hud; clear hud
    have HO := Lib.hid hO; have HK := Lib.hid hph; have HSE := Lib.hid hsk; clear hO hph hsk
    have lR : r.toNat < 18446744073709551616 := r.toNat_lt
    have hnx := xorshift_Next_c w.heap.size r.toNat lR wE hrn
    obtain ⟨R', hR'⟩ : ∃ R' : Nat, xorNextN r.toNat = R' := ⟨_, rfl⟩
    have lR' : R' < 18446744073709551616 := by rw [← hR']; exact xorNextN_lt _ lR
    rw [hR'] at hnx
    have eR : R' = (xorNext r).toNat := by rw [← hR', xorNext_toNat]
    obtain ⟨O, hO⟩ : ∃ O : Nat, R' &&& (M - 1) = O := ⟨_, rfl⟩
    have lO : O ≤ M - 1 := by rw [← hO]; exact Nat.and_le_right
    have eAnd : bits .and .u64 (R' : Int) ((M : Int) - 1) = (O : Int) := by
      rw [show ((M : Int) - 1) = ((M - 1 : Nat) : Int) by omega, bits_and_u64_nat _ _ lR' (by omega), hO]
    have HN := Lib.hid (show R' = (xorNext r).toNat ∧ O = (xorNext r).toNat &&& (M - 1) from ⟨eR, by rw [← hO, eR]⟩)
    have HNX := Lib.hid hnx
    obtain ⟨X, hX⟩ : ∃ X, I0 + t = X := ⟨_, rfl⟩
    rw [hX]
    have HX := Lib.hid hX
    have hXb : I0 ≤ X ∧ X ≤ I0 + 3 := by omega
    have hIb : I0 < a + Q * 2 ∧ a + Q * 2 ≤ I0 + 1 := by have := HII.out; omega
    clear hnx hR' hO eR hrn hX
    by_cases h3 : t < 3
    case neg =>
      obtain rfl : t = 3 := by omega
      obtain rfl : dk = R := by
        have h := HO.out
        rw [Nat.sub_self, bpRest_zero] at h
        exact h
      clear HO HR HN HNX eAnd lO lR lR'
      have hX3 : (a : Int) + (Q : Int) * 2 + 1 < (X : Int) := by have := HX.out; omega
      go_wp2_with fail
      go_end0
      exact ⟨rfl, HK.out, hchg, HSE.out⟩
    case pos =>
      have hX3 : (X : Int) ≤ (a : Int) + (Q : Int) * 2 + 1 := by have := HX.out; omega
      have hXs : X < d.size := by have := HX.out; have := HB.out; omega
      go_wp2_with fail
      refine HNX.out.mono ?_
      rintro e wn ⟨rfl, hrn, hbw⟩
      have hchgn := hchg.over hbw (Nat.le_refl _) hbw.size
      have HKn := Lib.hid (HK.out.belowK hbw hbl HUD.out)
      have HRn := Lib.hid hrn; clear hrn hbw
      obtain ⟨P, hP⟩ : ∃ P, (if O ≥ L then O - L else O) = P := ⟨_, rfl⟩
      have lP : P < L := by rw [← hP]; split <;> omega
      have HPe := Lib.hid hP; clear hP
      obtain ⟨Y, hY⟩ : ∃ Y, a + P = Y := ⟨_, rfl⟩
      have eY : (a : Int) + (P : Int) = (Y : Int) := by omega
      have hYs : Y < d.size := by have := HB.out; omega
      have HY := Lib.hid hY; clear hY
      have wO : IntKind.i64.wrap (O : Int) = (O : Int) := i64_small (by omega) (by omega)
      have bO : O < 4611686018427387904 := by omega
      have bL : L < 2305843009213693952 := by omega
      have wP : IntKind.i64.wrap (P : Int) = (P : Int) := i64_small (by omega) (by omega)
      have w4' : IntKind.i64.wrap (Y : Int) = (Y : Int) := i64_small (by omega) (by omega)
      have ht3 : t + 1 ≤ 3 := by omega
      have hXm : X < I0 + 4 ∧ I0 ≤ X := by omega
      have HXM := Lib.hid hXm
      go_upto_if 45 with fail
      clear eAnd lR lR' lO hM1 hM2 e0 e1 e2 hq4 hIb hX3 g8 h8 w1' w2' w3' hXb hXm ht hsz1 hcw
      go_cut [12] from 45 to 45 (fun s wc => s = .int .i64 P ∧ wn = wc)
      case first =>
        have hP2 := HPe.out
        clear hb hsz hbl hne hXs hYs eY h3 ht3 w4' hchgn HKn HRn HN HNX HXM HY HPe HX HO HK HSE HB HQ HI0 HR HII HP HP1 HRN hchg hNP
        have HPe := Lib.hid hP2; clear hP2
        by_cases hLO : O ≥ L
        case pos =>
          have hv : (O : Int) - (L : Int) = (P : Int) := by have := HPe.out; rw [if_pos hLO] at this; omega
          have hLz : (L : Int) ≤ (O : Int) := by omega
          go_wp2_with fail
          go_meet
          refine ⟨?_, rfl⟩
          first | (with_reducible rfl) | (rw [hv]) | (congr 1; omega)
        case neg =>
          have hv : O = P := by have := HPe.out; rw [if_neg hLO] at this; exact this
          have hLz : (O : Int) < (L : Int) := by omega
          go_wp2_with fail
          go_meet
          refine ⟨?_, rfl⟩
          first | (with_reducible rfl) | (rw [hv]) | (congr 1; omega)
      case rest =>
        obtain ⟨rfl, rfl⟩ := hcut
        clear hNP HRN HP1 HP HI0 HQ HII HB HR HNX HK hchg
        have hs3 := Lib.hid (show bpRest a L M I0 (3 - (t + 1)) (t + 1) (xorNext r, swp dk X Y) = R by rw [← HO.out, bp_step a L M I0 t r dk P h3 (by rw [← HN.out.2]; exact HPe.out), HX.out, HY.out])
        obtain ⟨p1, p3, _⟩ := HKn.out X (by have := HSE.out; omega)
        obtain ⟨q1, q3, _⟩ := HKn.out Y (by have := HSE.out; omega)
        obtain ⟨pp, hpp⟩ : ∃ p, dk[X]! = p := ⟨_, rfl⟩
        obtain ⟨qq, hqq⟩ : ∃ p, dk[Y]! = p := ⟨_, rfl⟩
        rw [hpp] at p1
        rw [hqq] at q1
        have HPP := Lib.hid hpp; have HQQ := Lib.hid hqq; clear hpp hqq
        have x1 : (0 : Int) ≤ (X : Int) := by omega
        have x2 : (X : Int) < (d.size : Int) := by omega
        have x3 : (0 : Int) ≤ (Y : Int) := by omega
        have x4 : (Y : Int) < (d.size : Int) := by omega
        by_cases hij : X = Y
        case pos =>
          obtain rfl : pp = qq := HPP.out.symm.trans ((congrArg (fun x => dk[x]!) hij).trans HQQ.out)
          subst hij
          clear HQQ
          have hSW := HKn.out.swap (i := X) (j := X) (by have := HSE.out; omega) (by have := HSE.out; omega)
          have hSC := swapW_chg wn blk off dk[X]! dk[X]! X X
          rw [HPP.out] at hSW hSC
          unfold swapW at hSW hSC
          have HSW := Lib.hid hSW; have HSC := Lib.hid hSC; clear hSW hSC
          go_wp2_with fail
          go_region
          go_wp2_with fail
          go_roundw
          case rel => first | exact ⟨t + 1, xorNext r, swp dk X X, by first | rfl | go_num | (have := HX.out; congr 1; omega), by omega, (size_swp _ _ _).trans HSE.out, ⟨HSW.out.drew, HUD.out.swp (i := X) (j := X) (by have := HSE.out; omega) (by have := HSE.out; omega)⟩, (by rw [← HN.out.1]; exact (HRn.out.chg HSC.out (Ne.symm hne.1)).below (Below.refl _ _).drew), (hchgn.trans HSC.out).trans (Chg.drew _ _), hs3.out⟩ | ((repeat apply Exists.intro); exact ⟨⟨t + 1, xorNext r, swp dk X X, by first | rfl | go_num | (have := HX.out; congr 1; omega), by omega, (size_swp _ _ _).trans HSE.out, ⟨HSW.out.drew, HUD.out.swp (i := X) (j := X) (by have := HSE.out; omega) (by have := HSE.out; omega)⟩, (by rw [← HN.out.1]; exact (HRn.out.chg HSC.out (Ne.symm hne.1)).below (Below.refl _ _).drew), (hchgn.trans HSC.out).trans (Chg.drew _ _), hs3.out⟩, rfl⟩)
          case measure => simp [intOf]; have := HX.out; omega
        case neg =>
          have hSW := HKn.out.swap (i := X) (j := Y) (by have := HSE.out; omega) (by have := HSE.out; omega)
          have hSC := swapW_chg wn blk off dk[X]! dk[Y]! X Y
          rw [HPP.out, HQQ.out] at hSW hSC
          unfold swapW at hSW hSC
          have HSW := Lib.hid hSW; have HSC := Lib.hid hSC; clear hSW hSC
          go_wp2_with fail
          go_region
          go_wp2_with fail
          go_roundw
          case rel => first | exact ⟨t + 1, xorNext r, swp dk X Y, by first | rfl | go_num | (have := HX.out; congr 1; omega), by omega, (size_swp _ _ _).trans HSE.out, ⟨HSW.out.drew, HUD.out.swp (i := X) (j := Y) (by have := HSE.out; omega) (by have := HSE.out; omega)⟩, (by rw [← HN.out.1]; exact (HRn.out.chg HSC.out (Ne.symm hne.1)).below (Below.refl _ _).drew), (hchgn.trans HSC.out).trans (Chg.drew _ _), hs3.out⟩ | ((repeat apply Exists.intro); exact ⟨⟨t + 1, xorNext r, swp dk X Y, by first | rfl | go_num | (have := HX.out; congr 1; omega), by omega, (size_swp _ _ _).trans HSE.out, ⟨HSW.out.drew, HUD.out.swp (i := X) (j := Y) (by have := HSE.out; omega) (by have := HSE.out; omega)⟩, (by rw [← HN.out.1]; exact (HRn.out.chg HSC.out (Ne.symm hne.1)).below (Below.refl _ _).drew), (hchgn.trans HSC.out).trans (Chg.drew _ _), hs3.out⟩, rfl⟩)
          case measure => simp [intOf]; have := HX.out; omega


set_option maxHeartbeats 3200000 in
set_option maxRecDepth 100000 in
theorem breakPatterns_c (blk off cap a b : Nat) (d : Array Ls) (w : World) (hH : PH w blk off d) (hab : a ≤ b) (hb : b ≤ d.size) (hsz : d.size < 2305843009213693952) :
    Calls Tryz.prog 111 #[.slice (some ⟨blk, off, none⟩) d.size cap, .int .i64 a, .int .i64 b, cmpV] w (SortsTo w blk off d.size (breakPatterns d a b)) := by
  by_cases h8 : 8 ≤ b - a
  · exact breakPatterns_go_c blk off cap a b (b - a) d w hH (by omega) hb hsz h8
  · have hv : breakPatterns d a b = d := by unfold breakPatterns; simp only []; rw [if_neg h8]
    rw [hv]
    have HP := Lib.hid hH; clear hH hv
    have g8 : (b : Int) - (a : Int) < 8 := by omega
    unfold cmpV
    go_enter Tryz.func111, Tryz.ntmps111
    go_wp2_with fail
    go_end0
    exact ⟨rfl, HP.out, Chg.refl _ _, rfl⟩


end LstSort
end Go.Proofs.YtcionneopgdebaaGreat
