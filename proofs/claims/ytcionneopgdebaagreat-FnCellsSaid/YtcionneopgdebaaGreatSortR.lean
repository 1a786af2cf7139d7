/-
  Some texts of this proof in one: SortR SortS. Each part tells what it proves. By an AI agent.
-/
import Derived.Test.YtcionneopgdebaaGreatSortB
import Derived.Test.YtcionneopgdebaaGreatLen
import Derived.Sort.Walk13a
import Derived.Deep.LoopGhost
import Derived.Deep.DeepCutAuto
import Derived.Laws.Bits64b

/-
  The library's sort over points: its loop and its recursion (after the kit's walk 13 of slices.pdqsortOrdered, turned to slices.pdqsortCmpFunc over points), and slices.SortFunc. Printed once by a program; kept by hand since.
-/
namespace Go.Proofs.YtcionneopgdebaaGreat
open Go.RowKit
open Go.Sort (SWO swp size_swp Hint rd rd_facts rd_dec rd_not rd_pi_yes rd_pi_no rd_lim_le rd_true rd_false pdq pdq_small pdq_heap pdq_done pdq_eq pdq_left pdq_right insertionSort heapSort partition partitionEqual partialInsertionSort reverseRange breakPatterns choosePivot round_part round_eq)

theorem reverseLoop_go {i j : Nat} {d : Array Pt} (h : i < j) : Sort.reverseLoop i j d = Sort.reverseLoop (i + 1) (j - 1) (swp d i j) := by rw [Sort.reverseLoop, if_pos h]
theorem reverseLoop_stop {i j : Nat} {d : Array Pt} (h : ¬ i < j) : Sort.reverseLoop i j d = d := by rw [Sort.reverseLoop, if_neg h]
/-- The world wr is w with the row holding d, and new blocks behind. -/
def AtP (w : World) (blk off : Nat) (d : Array Pt) (wr : World) : Prop := PH wr blk off d ∧ Chg blk w wr
section
variable {w wr w1 : World} {blk off n : Nat} {d d' d0 : Array Pt}
theorem AtP.holds (h : AtP w blk off d wr) (_h0 : PH w blk off d0) (_hs : d.size = d0.size) (hb : blk < w.heap.size) : PH wr blk off d ∧ blk < wr.heap.size := ⟨h.1, Nat.lt_of_lt_of_le hb h.2.size⟩
theorem AtP.step (h : AtP w blk off d wr) (_hb : blk < w.heap.size) (_hs : d'.size = d.size) (h1 : PH w1 blk off d' ∧ Chg blk wr w1 ∧ d'.size = n) : AtP w blk off d' w1 := ⟨h1.1, h.2.trans h1.2.1⟩
theorem AtP.stepG (h : AtP w blk off d wr) (_hb : blk < w.heap.size) (_hs : d'.size = d.size) (h1 : PH w1 blk off d' ∧ Chg blk wr w1 ∧ d'.size = n) : AtP w blk off d' w1 := ⟨h1.1, h.2.trans h1.2.1⟩
theorem AtP.same (h : AtP w blk off d wr) (_h0 : PH w blk off d0) (_hs : d.size = d0.size) (_hb : blk < w.heap.size) (h1 : Below wr.heap.size wr w1) : AtP w blk off d w1 := ⟨h.1.below h1, h.2.trans (Chg.of_below h1)⟩
end

set_option maxHeartbeats 6400000 in
set_option maxRecDepth 1000000 in
theorem pdqsort_c : ∀ (N blk off cap a b limit : Nat) (d : Array Pt) (w : World), b - a < N → b - a ≤ 12 → PH w blk off d → blk < w.heap.size → a ≤ b → b ≤ d.size → d.size < 2305843009213693952 → limit < 4611686018427387904 → Sort.Below ltPt a b d →
    Calls Tryz.prog 84 #[.slice (some ⟨blk, off, none⟩) d.size cap, .int .i64 a, .int .i64 b, .int .i64 limit, cmpV] w fun e w' => e = .returned (.tuple #[]) ∧ AtP w blk off (pdq ltPt d a b limit true true) w' := by
  intro N
  induction N with
  | zero => intro _ _ _ _ _ _ _ _ h; exact absurd h (Nat.not_lt_zero _)
  | succ N _ =>
    intro blk off cap a b limit d w hN hS hH hblk hab hb hsz hlimit hBel0
    unfold cmpV
    go_enter Tryz.func84, Tryz.ntmps84
    go_wp2_with fail
    go_loopg [1, 2, 3, 10, 11] (b - a) (fun k s1 s2 s3 s8 s9 wr => ∃ (a' b' lim : Nat) (wb wp : Bool) (dk : Array Pt), s1 = .int .i64 a' ∧ s2 = .int .i64 b' ∧ s3 = .int .i64 lim ∧ s8 = .bool wb ∧ s9 = .bool wp ∧
      a' ≤ b' ∧ b' ≤ d.size ∧ b' - a' ≤ k ∧ k ≤ b - a ∧ lim ≤ limit ∧ dk.size = d.size ∧ Sort.Below ltPt a' b' dk ∧ AtP w blk off dk wr ∧ pdq ltPt dk a' b' lim wb wp = pdq ltPt d a b limit true true)
    case atStart => exact ⟨a, b, limit, true, true, d, rfl, rfl, rfl, rfl, rfl, hab, hb, Nat.le_refl _, Nat.le_refl _, Nat.le_refl _, rfl, hBel0, ⟨hH, Chg.refl _ _⟩, rfl⟩
    case round =>
      obtain ⟨a', b', lim, wb, wp, dk, rfl, rfl, rfl, rfl, rfl, hab', hb', hk, hkN, hlim, hds, hBel, hAt, heq⟩ := hrel
      obtain ⟨hHk, hblk'⟩ := hAt.holds hH hds hblk
      have A := Lib.hid heq
      clear heq
      by_cases h12 : b' - a' ≤ 12
      · -- 'if length <= maxInsertion'
        have h12z : (b' : Int) - (a' : Int) ≤ 12 := by omega
        have hc := insertionSort_c blk off cap a' b' dk wr hHk hab' (by omega) (by omega)
        rw [hds] at hc
        go_wp2_with (go_at_call 97; refine hc.mono ?_; rintro e w1 ⟨rfl, hw1⟩)
        (try simp only [Exit.inBlock, Exit.then]); refine bodyPost_ret (results_none rfl _ _ _) rfl ?_
        refine ⟨rfl, ?_⟩
        rw [← A.out, pdq_small h12]
        exact hAt.step hblk (Sort.insertionSort_holds swo_ltPt dk a' b' hab' (by omega)).1.1 hw1
      · exfalso
        omega
end Go.Proofs.YtcionneopgdebaaGreat

/-
  slices.SortFunc over points: the one sorted list. By an AI agent.
-/
namespace Go.Proofs.YtcionneopgdebaaGreat
open Go.RowKit
open Go.Sort (SWO bitsLen bitsLen_le_iff)

theorem bitLen_eq (x : Nat) (h : x < 2 ^ 64) : Lib.bitLen x = bitsLen x := by
  induction x using Nat.strongRecOn with
  | _ x ih =>
    by_cases h0 : x = 0
    · subst h0; rfl
    · rw [Lib.bitLen_half x h0 h, ih (x / 2) (by omega) (by omega)]
      unfold bitsLen
      rw [if_neg h0, Nat.log2_def x]
      by_cases h2 : 2 ≤ x
      · rw [if_pos h2, if_neg (by omega)]; omega
      · obtain rfl : x = 1 := by omega
        simp

theorem sort_eq (d : Array Pt) : (Sort.sort ltPt d).toList = srt d.toList :=
  Sort.sorted_unique_holds swo_ltPt (fun x y h1 h2 => ltPt_eq h1 h2) d (Sort.sort ltPt d) (Sort.sort_sorts ltPt swo_ltPt d).1 (by
    have h := (Sort.sort_sorts ltPt swo_ltPt d).2
    exact h)

set_option maxHeartbeats 800000 in
theorem sortFunc_c (blk off cap : Nat) (d : Array Pt) (w : World) (hH : PH w blk off d) (hbl : blk < w.heap.size) (hsz : d.size ≤ 12) :
    Calls Tryz.prog 58 #[.slice (some ⟨blk, off, none⟩) d.size cap, cmpV] w (SortsTo w blk off d.size (Sort.sort ltPt d)) := by
  have hLen : ∀ w, Calls Tryz.prog 85 #[.int .u64 (d.size : Int)] w fun e w' => e = .returned (.int .i64 (bitsLen d.size : Nat)) ∧ w' = w := fun w => by
    have h := bits_Len (d.size : Int) w (by omega) (by omega)
    rwa [Int.toNat_natCast, bitLen_eq _ (by omega)] at h
  have hk : bitsLen d.size ≤ 62 := (bitsLen_le_iff d.size 62).2 (by omega)
  have hp := pdqsort_c (d.size + 1) blk off cap 0 d.size (bitsLen d.size) d w (by omega) (by omega) hH hbl (Nat.zero_le _) (Nat.le_refl _) (by omega) (by omega) (Or.inl rfl)
  have hszs := (Sort.sort_sorts ltPt swo_ltPt d).1.1
  have w3' : IntKind.u64.wrap (d.size : Int) = (d.size : Int) := by rw [IntKind.wrap_u64]; omega
  have HSZ := Lib.hid hszs; clear hszs
  have HL := Lib.hid hLen; clear hLen
  have z0 : ((0 : Nat) : Int) = 0 := rfl
  rw [z0] at hp
  have HP := Lib.hid hp; clear hp hH
  unfold cmpV
  have hsrt : Sort.sort ltPt d = Sort.pdq ltPt d 0 d.size (bitsLen d.size) true true := rfl
  rw [hsrt] at HSZ ⊢
  clear hsrt
  generalize bitsLen d.size = lim at HL HP hk HSZ ⊢
  go_enter Tryz.func58, Tryz.ntmps58
  go_wp2_with fail
  refine (HL.out _).mono ?_
  rintro e w' ⟨rfl, rfl⟩
  go_wp2_with fail
  refine HP.out.mono ?_
  rintro e w1 ⟨rfl, hat⟩
  go_wp2_with fail
  go_end0
  exact ⟨rfl, hat.1, hat.2, HSZ.out⟩

end Go.Proofs.YtcionneopgdebaaGreat
