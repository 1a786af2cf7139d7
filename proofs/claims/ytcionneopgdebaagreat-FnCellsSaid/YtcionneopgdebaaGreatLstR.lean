/-
  Some texts of this proof in one: LstR LstS. Each part tells what it proves. By an AI agent.
-/
import Derived.Test.YtcionneopgdebaaGreatLstP
import Derived.Test.YtcionneopgdebaaGreatLstO
import Derived.Sort.Walk13a
import Derived.Deep.LoopGhost
import Derived.Deep.DeepCutAuto

/-
  The library's sort over lists of numbers: its loop and its recursion (after the kit's walk 13 of slices.pdqsortOrdered, turned to slices.pdqsortCmpFunc over lists of numbers), and slices.SortFunc. Printed once by a program; kept by hand since.
-/
namespace Go.Proofs.YtcionneopgdebaaGreat
namespace LstSort
open Go.RowKit
open Go.Sort (SWO swp size_swp Hint rd rd_facts rd_dec rd_not rd_pi_yes rd_pi_no rd_lim_le rd_true rd_false pdq pdq_small pdq_heap pdq_done pdq_eq pdq_left pdq_right insertionSort heapSort partition partitionEqual partialInsertionSort reverseRange breakPatterns choosePivot round_part round_eq)

/-- The world wr is w with the row holding d, and new blocks behind. -/
def AtP (w : World) (blk off : Nat) (d : Array Ls) (wr : World) : Prop := PH wr blk off d ∧ Chg blk w wr
section
variable {w wr w1 : World} {blk off n : Nat} {d d' d0 : Array Ls}
theorem AtP.holds (h : AtP w blk off d wr) (_h0 : PH w blk off d0) (_hs : d.size = d0.size) (hb : blk < w.heap.size) : PH wr blk off d ∧ blk < wr.heap.size := ⟨h.1, Nat.lt_of_lt_of_le hb h.2.size⟩
theorem AtP.step (h : AtP w blk off d wr) (_hb : blk < w.heap.size) (_hs : d'.size = d.size) (h1 : PH w1 blk off d' ∧ Chg blk wr w1 ∧ d'.size = n) : AtP w blk off d' w1 := ⟨h1.1, h.2.trans h1.2.1⟩
theorem AtP.stepG (h : AtP w blk off d wr) (_hb : blk < w.heap.size) (_hs : d'.size = d.size) (h1 : PH w1 blk off d' ∧ Chg blk wr w1 ∧ d'.size = n) : AtP w blk off d' w1 := ⟨h1.1, h.2.trans h1.2.1⟩
theorem AtP.same (h : AtP w blk off d wr) (_h0 : PH w blk off d0) (_hs : d.size = d0.size) (_hb : blk < w.heap.size) (h1 : Below wr.heap.size wr w1) : AtP w blk off d w1 := ⟨h.1.below h1, h.2.trans (Chg.of_below h1)⟩
end

theorem hintZ_two {h : Hint} (e : hintZ h = 2) : h = .decreasing := by cases h <;> simp [hintZ] at e ⊢

/-- 'leftLen >= length / 8', as Go reckons it over int and as 'Sort.pdq' does over Nat. -/
theorem eighth {x y p q : Nat} (h1 : q ≤ p) (h2 : y ≤ x) : decide (((x : Int) - (y : Int)) / 8 ≤ (p : Int) - (q : Int)) = decide (p - q ≥ (x - y) / 8) :=
  decide_eq_decide.2 ⟨fun h => by omega, fun h => by omega⟩

set_option maxHeartbeats 6400000 in
set_option maxRecDepth 1000000 in
theorem pdqsort_c : ∀ (N blk off cap a b limit : Nat) (d : Array Ls) (w : World), b - a < N → PH w blk off d → blk < w.heap.size → a ≤ b → b ≤ d.size → d.size < 2305843009213693952 → limit < 4611686018427387904 → Sort.Below ltP a b d →
    Calls Tryz.prog 93 #[.slice (some ⟨blk, off, none⟩) d.size cap, .int .i64 a, .int .i64 b, .int .i64 limit, cmpV] w fun e w' => e = .returned (.tuple #[]) ∧ AtP w blk off (pdq ltP d a b limit true true) w' := by
  intro N
  induction N with
  | zero => intro _ _ _ _ _ _ _ _ h; exact absurd h (Nat.not_lt_zero _)
  | succ N ih =>
    intro blk off cap a b limit d w hN hH hblk hab hb hsz hlimit hBel0
    unfold cmpV
    go_enter Tryz.func93, Tryz.ntmps93
    go_wp2_with fail
    go_loopg [1, 2, 3, 10, 11] (b - a) (fun k s1 s2 s3 s8 s9 wr => ∃ (a' b' lim : Nat) (wb wp : Bool) (dk : Array Ls), s1 = .int .i64 a' ∧ s2 = .int .i64 b' ∧ s3 = .int .i64 lim ∧ s8 = .bool wb ∧ s9 = .bool wp ∧
      a' ≤ b' ∧ b' ≤ d.size ∧ b' - a' ≤ k ∧ k ≤ b - a ∧ lim ≤ limit ∧ dk.size = d.size ∧ Sort.Below ltP a' b' dk ∧ AtP w blk off dk wr ∧ pdq ltP dk a' b' lim wb wp = pdq ltP d a b limit true true)
    case atStart => exact ⟨a, b, limit, true, true, d, rfl, rfl, rfl, rfl, rfl, hab, hb, Nat.le_refl _, Nat.le_refl _, Nat.le_refl _, rfl, hBel0, ⟨hH, Chg.refl _ _⟩, rfl⟩
    case round =>
      obtain ⟨a', b', lim, wb, wp, dk, rfl, rfl, rfl, rfl, rfl, hab', hb', hk, hkN, hlim, hds, hBel, hAt, heq⟩ := hrel
      obtain ⟨hHk, hblk'⟩ := hAt.holds hH hds hblk
      have A := Lib.hid heq
      clear heq
      by_cases h12 : b' - a' ≤ 12
      · -- 'if length <= maxInsertion'
        have h12z : (b' : Int) - (a' : Int) ≤ 12 := by omega
        have hc := insertionSort_c blk off cap a' b' dk wr hHk hab' (by omega) (by omega)
        rw [hds] at hc
        go_wp2_with (go_at_call 109; refine hc.mono ?_; rintro e w1 ⟨rfl, hw1⟩)
        (try simp only [Exit.inBlock, Exit.then]); refine bodyPost_ret (results_none rfl _ _ _) rfl ?_
        refine ⟨rfl, ?_⟩
        rw [← A.out, pdq_small h12]
        exact hAt.step hblk (Sort.insertionSort_holds swo_ltP dk a' b' hab' (by omega)).1.1 hw1
      · have h12z : ¬ ((b' : Int) - (a' : Int) ≤ 12) := by omega
        by_cases hl0 : lim = 0
        · -- 'if limit == 0'
          subst hl0
          have hc := heapSort_c blk off cap a' b' dk wr hHk hab' (by omega) (by omega)
          rw [hds] at hc
          go_wp2_with (go_at_call 110; refine hc.mono ?_; rintro e w1 ⟨rfl, hw1⟩)
          (try simp only [Exit.inBlock, Exit.then]); refine bodyPost_ret (results_none rfl _ _ _) rfl ?_
          refine ⟨rfl, ?_⟩
          rw [← A.out, pdq_heap h12 rfl]
          exact hAt.step hblk (Sort.heapSort_holds swo_ltP dk a' b' hab' (by omega)).1.1 hw1
        · have hl0z : ¬ ((lim : Int) = 0) := by omega
          -- THE ROUND's VALUES: sizes, ranges, 'Below', stage by stage
          obtain ⟨s1, B1, hc1, s2, B2, hpv, s3, B3⟩ := rd_facts (limit := lim) (wb := wb) (wp := wp) swo_ltP Sort.partialInsertionSort_holds Sort.reverseRange_holds (show a' < b' by omega) (show b' ≤ dk.size by omega) hBel
          -- ████ 'if !wasBalanced { breakPatterns; limit-- }': THE WAYS MEET
          go_upto_if 39 with fail
          go_cut [3] from 21 to 39 (fun s3 wc => s3 = .int .i64 (rd ltP dk a' b' lim wb wp).lim ∧ AtP w blk off (rd ltP dk a' b' lim wb wp).d1 wc)
          case first =>
            cases wb
            · have hc := breakPatterns_c blk off cap a' b' dk wr hHk hab' (by omega) (by omega)
              rw [hds] at hc
              go_wp2_with (go_at_call 111; refine hc.mono ?_; rintro e w1 ⟨rfl, hw1⟩)
              go_meet
              case rel =>
                refine ⟨?_, hAt.stepG hblk s1 hw1⟩
                show Value.int .i64 ((lim : Int) - 1) = Value.int .i64 ((lim - 1 : Nat) : Int)
                congr 1
                omega
            · go_wp2_with fail
              go_meet
              case rel => exact ⟨rfl, hAt⟩
          case rest =>
            obtain ⟨rfl, hAt1⟩ := hcut
            obtain ⟨hH1, hblk1⟩ := hAt1.holds hH (s1.trans hds) hblk
            have hc17 : Calls Tryz.prog 112 #[.slice (some ⟨blk, off, none⟩) d.size cap, .int .i64 a', .int .i64 b', cmpV] wc fun e w' => e = .returned (.tuple #[.int .i64 (rd ltP dk a' b' lim wb wp).c.1, .int .i64 (hintZ (rd ltP dk a' b' lim wb wp).c.2)]) ∧ Below wc.heap.size wc w' := by
              have := choosePivot_c blk off cap a' b' (rd ltP dk a' b' lim wb wp).d1 wc hH1 (by omega) (by omega) (by omega)
              rw [s1, hds] at this
              exact this
            go_upto_if 56 with (go_at_call 112; refine hc17.mono ?_; rintro e w2 ⟨rfl, hw2⟩)
            have hAt2 : AtP w blk off (rd ltP dk a' b' lim wb wp).d1 w2 := hAt1.same hH (s1.trans hds) hblk hw2
            obtain ⟨hH2, hblk2⟩ := hAt2.holds hH (s1.trans hds) hblk
            -- ████ 'if hint == decreasingHint { reverseRange; pivot = ..; hint = increasingHint }': THE WAYS MEET
            go_cut [13, 14] from 47 to 56 (fun s11 s12 wc => s11 = .int .i64 (rd ltP dk a' b' lim wb wp).pivot ∧ s12 = .int .i64 (hintZ (rd ltP dk a' b' lim wb wp).hint) ∧ AtP w blk off (rd ltP dk a' b' lim wb wp).d2 wc)
            case first =>
              by_cases hh : (rd ltP dk a' b' lim wb wp).c.2 = .decreasing
              · have hcode : hintZ (rd ltP dk a' b' lim wb wp).c.2 = 2 := by rw [hh]; rfl
                obtain ⟨e2, epv, eht⟩ := rd_dec hh
                have hc18 := reverseRange_c blk off cap a' b' (rd ltP dk a' b' lim wb wp).d1 w2 hH2 (by omega) (by omega) (by omega)
                rw [s1, hds] at hc18
                go_wp2_with (go_at_call 113; refine hc18.mono ?_; rintro e w3 ⟨rfl, hw3⟩)
                go_meet
                case rel =>
                  refine ⟨?_, by rw [eht]; rfl, by rw [e2]; exact hAt2.step hblk (by rw [← e2, s2, s1]) hw3⟩
                  rw [epv]
                  congr 1
                  omega
              · have hcode : ¬ (hintZ (rd ltP dk a' b' lim wb wp).c.2 = 2) := fun h => hh (hintZ_two h)
                obtain ⟨e2, epv, eht⟩ := rd_not hh
                go_wp2_with fail
                go_meet
                case rel => exact ⟨by rw [epv], by rw [eht], by rw [e2]; exact hAt2⟩
            case rest =>
              obtain ⟨rfl, rfl, hAt3⟩ := hcut
              obtain ⟨hH3, hblk3⟩ := hAt3.holds hH (s2.trans hds) hblk
              -- ████ THE TEST 'wasBalanced && wasPartitioned && hint == increasingHint', over Booleans that are variables: THE WAYS THROUGH THE REGION MEET
              go_upto_region 15 with fail
              go_cut [14, 75] from 68 to 75 (fun s12 s68 wx => s12 = .int .i64 (hintZ (rd ltP dk a' b' lim wb wp).hint) ∧ s68 = .bool (wb && wp && decide ((rd ltP dk a' b' lim wb wp).hint = .increasing)) ∧ wx = wc)
              case first =>
                cases wb <;> cases wp <;> cases hh3 : (rd ltP dk a' b' lim _ _).hint <;>
                  (have hcode3 := congrArg hintZ hh3
                   simp only [hintZ] at hcode3
                   go_wp2_with fail
                   go_meet
                   exact ⟨by simp [hh3, hintZ], by simp [hh3, hintZ], rfl⟩)
              case rest =>
                obtain ⟨rfl, rfl, rfl⟩ := hcut
                -- ████ 'if .. { if partialInsertionSort(..) { return } }': THE WAYS MEET (one returns)
                go_upto_if 75 with fail
                go_cut [] from 75 to 75 (fun wx => (rd ltP dk a' b' lim wb wp).pi.2 = false ∧ AtP w blk off (rd ltP dk a' b' lim wb wp).pi.1 wx)
                case first =>
                  cases h68 : (wb && wp && decide ((rd ltP dk a' b' lim wb wp).hint = .increasing))
                  · have epi := rd_pi_no h68
                    go_wp2_with fail
                    go_meet
                    case rel => exact ⟨by rw [epi], by rw [epi]; exact hAt3⟩
                  · have epi := rd_pi_yes h68
                    have hc19 := partialInsertionSort_c blk off cap a' b' (rd ltP dk a' b' lim wb wp).d2 wc hH3 (by omega) (by omega) (by omega)
                    rw [s2, hds, ← epi] at hc19
                    go_wp2_with (go_at_call 114; refine hc19.mono ?_; rintro e w4 ⟨rfl, hw4⟩)
                    -- (the walk parts on what the callee says: each way is closed by the script that fits it)
                    all_goals first
                      | (have hp2 : (rd ltP dk a' b' lim wb wp).pi.2 = false := by rw [epi]; assumption
                         go_meet
                         exact ⟨hp2, hAt3.step hblk (by rw [s3, s2]) hw4⟩)
                      | (have hp2 : (rd ltP dk a' b' lim wb wp).pi.2 = true := by rw [epi]; assumption
                         (try simp only [Exit.inBlock, Exit.then]); refine bodyPost_ret (results_none rfl _ _ _) rfl ?_
                         refine ⟨rfl, ?_⟩
                         rw [← A.out, pdq_done h12 hl0 hp2]
                         exact hAt3.step hblk (by rw [s3, s2]) hw4)
                case rest =>
                  obtain ⟨hp2, hAt5⟩ := hcut
                  obtain ⟨hH5, hblk5⟩ := hAt5.holds hH (s3.trans hds) hblk
                  go_upto_region 17 with fail
                  obtain ⟨D5, hD5⟩ : ∃ x, (rd ltP dk a' b' lim wb wp).pi.1 = x := ⟨_, rfl⟩
                  obtain ⟨pv, hpve⟩ : ∃ x, (rd ltP dk a' b' lim wb wp).pivot = x := ⟨_, rfl⟩
                  have HD5 := Lib.hid hD5; have HPV := Lib.hid hpve; clear hD5 hpve
                  go_cut [13, 97] from 81 to 97 (fun s13 s87 wx => s13 = .int .i64 (rd ltP dk a' b' lim wb wp).pivot ∧ s87 = .bool (decide (a' > 0) && !ltP (rd ltP dk a' b' lim wb wp).pi.1[a' - 1]! (rd ltP dk a' b' lim wb wp).pi.1[(rd ltP dk a' b' lim wb wp).pivot]!) ∧ AtP w blk off (rd ltP dk a' b' lim wb wp).pi.1 wx)
                  case first =>
                    have hH5' := hH5
                    rw [HD5.out] at hH5'
                    have hAt5' := hAt5
                    rw [HD5.out] at hAt5'
                    have hs5 : D5.size = d.size := by rw [← HD5.out, s3, hds]
                    have hpb : pv < b' := by rw [← HPV.out]; exact hpv.2
                    have HH5 := Lib.hid hH5'; have HA5 := Lib.hid hAt5'; have HS5 := Lib.hid hs5; clear hH5' hAt5' hs5
                    rcases Nat.eq_zero_or_pos a' with ha0 | ha0
                    · have ha0z : decide ((a' : Int) > 0) = false := decide_eq_false (by omega)
                      have ha0y : decide (0 < a') = false := decide_eq_false (by omega)
                      have HA0 := Lib.hid ha0; clear ha0
                      go_wp2_with fail
                      go_quiet (fail)
                      go_wp2_with fail
                      go_meet
                      exact ⟨rfl, by simp [HA0.out], by rw [HD5.out]; exact ⟨HA5.out.1.below (bdrewN (Below.refl _ _) nq), HA5.out.2.trans (Chg.drewN _ _ nq)⟩⟩
                    · have ha0z : (a' : Int) > 0 := by omega
                      obtain ⟨a1, ha1⟩ : ∃ x, a' = x + 1 := ⟨a' - 1, by omega⟩
                      have ea1 : (a' : Int) - 1 = (a1 : Int) := by omega
                      have ea2 : a' - 1 = a1 := by omega
                      have hab1 : a1 < a' := by omega
                      have epv : ((rd ltP dk a' b' lim wb wp).pivot : Int) = (pv : Int) := by rw [HPV.out]
                      have HA1 := Lib.hid ha1; have HA2 := Lib.hid ea2; clear ha1 ea2
                      have x1 : (0 : Int) ≤ (a1 : Int) := by omega
                      have x2 : (a1 : Int) < (d.size : Int) := by omega
                      have x3 : (0 : Int) ≤ (pv : Int) := by omega
                      have x4 : (pv : Int) < (d.size : Int) := by omega
                      have w9 : IntKind.i64.wrap (a1 : Int) = (a1 : Int) := i64_small (by omega) (by omega)
                      have hbl := HH5.out.lt (by have := HS5.out; omega)
                      obtain ⟨p1, p3, p5⟩ := HH5.out a1 (by have := HS5.out; omega)
                      obtain ⟨q1, q3, q5⟩ := HH5.out pv (by have := HS5.out; omega)
                      obtain ⟨pp, hpp⟩ : ∃ p, D5[a1]! = p := ⟨_, rfl⟩
                      obtain ⟨qq, hqq⟩ : ∃ p, D5[pv]! = p := ⟨_, rfl⟩
                      rw [hpp] at p1 p5
                      rw [hqq] at q1 q5
                      have HPP := Lib.hid hpp; have HQQ := Lib.hid hqq; clear hpp hqq
                      have hcmp := fun w hk => compareL_c pp qq w (Rd.below p5 hk) (Rd.below q5 hk)
                      unfold lsV at hcmp
                      have HCMP := Lib.hid hcmp; clear hcmp
                      go_wp2_with fail
                      go_region_held3 (fun w' => (w'.cell? ⟨blk, off + a1, none⟩ = some (.slice pp.adr pp.xs.length pp.cap)) ∧ w'.cell? ⟨blk, off + pv, none⟩ = some (.slice qq.adr qq.xs.length qq.cap)) (exact ⟨by assumption, by assumption⟩)
                        (first
                          | (go_at_call 75; (with_reducible refine (HCMP.out _ (by with_reducible repeat' (first | exact Below.refl _ _ | apply Below.drew))).mono ?_); rintro e W1 ⟨⟨r, rfl, hr⟩, hw1⟩; have m1 := bcell hw1 hbl p1; have m3 := bcell hw1 hbl q1))
                      clear HCMP
                      go_wp2_with fail
                      go_meet
                      have hbb := (Below.refl wc.heap.size wc).drew.trans hw1
                      exact ⟨by rw [epv], by rw [HD5.out, HPV.out, HA2.out, decide_eq_true ha0, Bool.true_and, HPP.out, HQQ.out], by rw [HD5.out]; exact ⟨HA5.out.1.below hbb, HA5.out.2.trans (Chg.of_below hbb)⟩⟩
                  case rest =>
                    obtain ⟨rfl, rfl, hAt6⟩ := hcut
                    obtain ⟨hH6, hblk6⟩ := hAt6.holds hH (s3.trans hds) hblk
                    cases h87 : (decide (a' > 0) && !ltP (rd ltP dk a' b' lim wb wp).pi.1[a' - 1]! (rd ltP dk a' b' lim wb wp).pi.1[(rd ltP dk a' b' lim wb wp).pivot]!)
                    · -- ████ 'mid, alreadyPartitioned := partitionOrdered(..)'; THE SMALLER SIDE BY A CALL OF ITSELF, the other by the next round
                      -- (✋ WHAT THE PARTITION GIVES, AS VARIABLES WITH ONE EQUATION: handed 'rfl' for it, the unifier UNFOLDED 'partition' to find the triple's parts, and the ranges came back over 'partLoop ..': nothing met them any more)
                      obtain ⟨mid, ap, d4, hx⟩ : ∃ mid ap d4, partition ltP (rd ltP dk a' b' lim wb wp).pi.1 a' b' (rd ltP dk a' b' lim wb wp).pivot = (mid, ap, d4) := ⟨(partition ltP (rd ltP dk a' b' lim wb wp).pi.1 a' b' (rd ltP dk a' b' lim wb wp).pivot).1, (partition ltP (rd ltP dk a' b' lim wb wp).pi.1 a' b' (rd ltP dk a' b' lim wb wp).pivot).2.1, (partition ltP (rd ltP dk a' b' lim wb wp).pi.1 a' b' (rd ltP dk a' b' lim wb wp).pivot).2.2, rfl⟩
                      obtain ⟨r1, r2, r3, r4, r5, r6, r7⟩ := round_part swo_ltP (Sort.partition_holds ltP) hpv.1 hpv.2 (show b' ≤ (rd ltP dk a' b' lim wb wp).pi.1.size by omega) B3 hx
                      have hc22 := partition_c blk off cap a' b' (rd ltP dk a' b' lim wb wp).pivot (rd ltP dk a' b' lim wb wp).pi.1 wc hH6 hpv.1 hpv.2 (by omega) (by omega)
                      rw [s3, hds, hx] at hc22
                      unfold cmpV PartsTo at hc22
                      have X := Lib.hid hx
                      clear hx
                      go_upto_if 125 with (go_at_call 116; refine hc22.mono ?_; rintro e w7 ⟨rfl, hw7⟩)
                      have hx := X.out
                      have hAt7 : AtP w blk off d4 w7 := hAt6.step hblk r3 hw7
                      obtain ⟨hH7, hblk7⟩ := hAt7.holds hH (r3.trans (s3.trans hds)) hblk
                      by_cases h4 : mid - a' < b' - mid
                      · have h4z : (mid : Int) - (a' : Int) < (b' : Int) - (mid : Int) := by omega
                        have hih := ih blk off cap a' mid (rd ltP dk a' b' lim wb wp).lim d4 w7 (by omega) hH7 hblk7 (by omega) (by omega) (by omega) (Nat.lt_of_le_of_lt (Nat.le_trans rd_lim_le hlim) hlimit) r4
                        rw [r3, s3, hds] at hih
                        obtain ⟨pL, sL⟩ := Sort.pdq_sorts ltP swo_ltP d4 a' mid (rd ltP dk a' b' lim wb wp).lim true true (by omega) (by omega) r4
                        go_wp2_with (go_at_call 93; refine hih.mono ?_; rintro e w8 ⟨rfl, hw8⟩)
                        go_roundg (b' - (mid + 1))
                        case measure => omega
                        case rel =>
                          refine ⟨mid + 1, b', (rd ltP dk a' b' lim wb wp).lim, decide (mid - a' ≥ (b' - a') / 8), ap, pdq ltP d4 a' mid (rd ltP dk a' b' lim wb wp).lim true true, by simp, rfl, rfl, ?_, rfl, by omega, by omega, Nat.le_refl _, by omega, Nat.le_trans rd_lim_le hlim, by rw [pL.1, r3, s3, hds], (r6 _ pL sL).1, ⟨hw8.1, hAt7.2.trans hw8.2⟩, ?_⟩
                          · exact congrArg Value.bool (eighth (by omega) (by omega))
                          · rw [← A.out, pdq_left h12 hl0 hp2 h87 (by rw [hx]; exact ⟨r1, r2⟩) (by rw [hx]; exact h4), hx]
                      · have h4z : ¬ ((mid : Int) - (a' : Int) < (b' : Int) - (mid : Int)) := by omega
                        have hih := ih blk off cap (mid + 1) b' (rd ltP dk a' b' lim wb wp).lim d4 w7 (by omega) hH7 hblk7 (by omega) (by omega) (by omega) (Nat.lt_of_le_of_lt (Nat.le_trans rd_lim_le hlim) hlimit) r5
                        rw [r3, s3, hds] at hih
                        obtain ⟨pL, sL⟩ := Sort.pdq_sorts ltP swo_ltP d4 (mid + 1) b' (rd ltP dk a' b' lim wb wp).lim true true (by omega) (by omega) r5
                        go_wp2_with (go_at_call 93; refine hih.mono ?_; rintro e w8 ⟨rfl, hw8⟩)
                        go_roundg (mid - a')
                        case measure => omega
                        case rel =>
                          refine ⟨a', mid, (rd ltP dk a' b' lim wb wp).lim, decide (b' - mid ≥ (b' - a') / 8), ap, pdq ltP d4 (mid + 1) b' (rd ltP dk a' b' lim wb wp).lim true true, rfl, rfl, rfl, ?_, rfl, by omega, by omega, Nat.le_refl _, by omega, Nat.le_trans rd_lim_le hlim, by rw [pL.1, r3, s3, hds], (r7 _ pL sL).1, ⟨hw8.1, hAt7.2.trans hw8.2⟩, ?_⟩
                          · exact congrArg Value.bool (eighth (by omega) (by omega))
                          · rw [← A.out, pdq_right h12 hl0 hp2 h87 (by rw [hx]; exact ⟨r1, r2⟩) (by rw [hx]; exact h4), hx]
                    · -- ████ 'mid := partitionEqualOrdered(..); a = mid; continue'
                      have h87' := h87
                      simp only [Bool.and_eq_true, decide_eq_true_eq, Bool.not_eq_true'] at h87'
                      obtain ⟨mid, d4, hx⟩ : ∃ mid d4, partitionEqual ltP (rd ltP dk a' b' lim wb wp).pi.1 a' b' (rd ltP dk a' b' lim wb wp).pivot = (mid, d4) := ⟨(partitionEqual ltP (rd ltP dk a' b' lim wb wp).pi.1 a' b' (rd ltP dk a' b' lim wb wp).pivot).1, (partitionEqual ltP (rd ltP dk a' b' lim wb wp).pi.1 a' b' (rd ltP dk a' b' lim wb wp).pivot).2, rfl⟩
                      obtain ⟨r1, r2, r3, r4, _⟩ := round_eq swo_ltP (Sort.partitionEqual_holds ltP) h87'.1 hpv.1 hpv.2 (show b' ≤ (rd ltP dk a' b' lim wb wp).pi.1.size by omega) B3 h87'.2 hx
                      have hc21 := partitionEqual_c blk off cap a' b' (rd ltP dk a' b' lim wb wp).pivot (rd ltP dk a' b' lim wb wp).pi.1 wc hH6 hpv.1 hpv.2 (by omega) (by omega)
                      rw [s3, hds, hx] at hc21
                      unfold cmpV PartEqTo at hc21
                      have X := Lib.hid hx
                      clear hx
                      go_wp2_with (go_at_call 115; refine hc21.mono ?_; rintro e w7 ⟨rfl, hw7⟩)
                      go_roundg (b' - mid)
                      case measure => omega
                      case rel =>
                        have hx := X.out
                        exact ⟨mid, b', (rd ltP dk a' b' lim wb wp).lim, wb, wp, d4, rfl, rfl, rfl, rfl, rfl, r2, hb', Nat.le_refl _, by omega, Nat.le_trans rd_lim_le hlim, by rw [r3, s3, hds], r4, hAt6.step hblk r3 hw7, by rw [← A.out, pdq_eq h12 hl0 hp2 h87 (by rw [hx]; exact ⟨r1, r2⟩), hx]⟩

end LstSort
end Go.Proofs.YtcionneopgdebaaGreat

/-
  slices.SortFunc over lists of numbers: the one sorted list. By an AI agent.
-/
namespace Go.Proofs.YtcionneopgdebaaGreat
namespace LstSort
open Go.RowKit
open Go.Sort (SWO bitsLen bitsLen_le_iff)

set_option maxHeartbeats 800000 in
theorem sortFunc_c (blk off cap : Nat) (d : Array Ls) (w : World) (hH : PH w blk off d) (hbl : blk < w.heap.size) (hsz : d.size < 2305843009213693952) :
    Calls Tryz.prog 74 #[.slice (some ⟨blk, off, none⟩) d.size cap, cmpV] w (SortsTo w blk off d.size (Sort.sort ltP d)) := by
  have hLen : ∀ w, Calls Tryz.prog 85 #[.int .u64 (d.size : Int)] w fun e w' => e = .returned (.int .i64 (bitsLen d.size : Nat)) ∧ w' = w := fun w => by
    have h := bits_Len (d.size : Int) w (by omega) (by omega)
    rwa [Int.toNat_natCast, bitLen_eq _ (by omega)] at h
  have hk : bitsLen d.size ≤ 62 := (bitsLen_le_iff d.size 62).2 (by omega)
  have hp := pdqsort_c (d.size + 1) blk off cap 0 d.size (bitsLen d.size) d w (by omega) hH hbl (Nat.zero_le _) (Nat.le_refl _) hsz (by omega) (Or.inl rfl)
  have hszs := (Sort.sort_sorts ltP swo_ltP d).1.1
  have w3' : IntKind.u64.wrap (d.size : Int) = (d.size : Int) := by rw [IntKind.wrap_u64]; omega
  have HSZ := Lib.hid hszs; clear hszs
  have HL := Lib.hid hLen; clear hLen
  have z0 : ((0 : Nat) : Int) = 0 := rfl
  rw [z0] at hp
  have HP := Lib.hid hp; clear hp hH
  unfold cmpV
  have hsrt : Sort.sort ltP d = Sort.pdq ltP d 0 d.size (bitsLen d.size) true true := rfl
  rw [hsrt] at HSZ ⊢
  clear hsrt
  generalize bitsLen d.size = lim at HL HP hk HSZ ⊢
  go_enter Tryz.func74, Tryz.ntmps74
  go_wp2_with fail
  refine (HL.out _).mono ?_
  rintro e w' ⟨rfl, rfl⟩
  go_wp2_with fail
  refine HP.out.mono ?_
  rintro e w1 ⟨rfl, hat⟩
  go_wp2_with fail
  go_end0
  exact ⟨rfl, hat.1, hat.2, HSZ.out⟩

end LstSort
end Go.Proofs.YtcionneopgdebaaGreat
