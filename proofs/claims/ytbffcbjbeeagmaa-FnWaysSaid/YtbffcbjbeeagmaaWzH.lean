/-
  The first of the shortest negative circuits: the program's. By an AI agent.
-/
import Derived.Test.YtbffcbjbeeagmaaWzG
import Derived.Laws.EntriesVeiled
namespace Go.Proofs.Ytbffcbjbeeagmaa
open Go.RowKit

theorem CirI.start {w : World} {B L T : Nat} {b : List Int} {vl vb : Value} {i : Int} (hs : B ≤ w.heap.size) (hne : L ≠ T) (hl : Own w L 29 [vl]) (ht : Own w T 29 [vb]) (hb : RowI w 0 vb b) :
    CirI ((w.alloc (.cells #[.int .i64 i] 3)).setCell ⟨L, 0, none⟩ (.slice (some ⟨w.heap.size, 0, none⟩) 1 1)) B L T [i] b (.slice (some ⟨w.heap.size, 0, none⟩) 1 1) vb := by
  have hr : RowI (w.alloc (.cells #[.int .i64 i] 3)) B (.slice (some ⟨w.heap.size, 0, none⟩) 1 1) [i] := rowI_single w B _ i hs rfl
  have hl2 := hl.alloc (.cells #[.int .i64 i] 3)
  have ht2 := ht.alloc (.cells #[.int .i64 i] 3)
  have hb2 := hb.alloc' (o := .cells #[.int .i64 i] 3)
  refine ⟨by simp; omega, hne, hl2.set 0 _, ht2.setOther (a := ⟨L, 0, none⟩) (fun e => hne e.symm) _, ownsRow_setCell_other hr (row_ne_ty hr hl2 (by decide)) _, ownsRow_setCell_other hb2 (row_ne_ty hb2 hl2 (by decide)) _, fun q hq e => ?_⟩
  have h3 := (World.ownsRow.lt hb q e).2
  simp only [Value.ownBlock, Option.some.injEq] at hq
  omega

theorem Own.newH (w : World) (c : Array Value) (E : TypeId) {cs : List Value} {H : Nat} (h : c.toList = cs) (hH : w.heap.size = H) : Own (w.alloc (.cells c E)) H E cs := by subst hH; exact Own.newA w c E h

set_option maxHeartbeats 6400000 in
set_option maxRecDepth 100000 in
theorem circuits_c (n : Nat) (ad : Option Addr) (cap : Nat) (m : Nat → Nat → Int) (w0 w : World) (M2 T : Nat) (b : List Int) (vb : Value) (hm : RdM w0 ad (toM n m)) (hn : 1 ≤ n ∧ n ≤ 6) (hnum : ∀ a b, a < n → b < n → numB (m a b) = true) (hbw : Below w0.heap.size w0 w) (h2 : w.cell? ⟨M2, 0, none⟩ = some (.slice ad n cap)) (hMT : M2 ≠ T) (hT0 : w0.heap.size ≤ T) (hT : Own w T 29 [vb]) (hb : RowI w 0 vb b) :
    Calls Try.prog 54 #[.slice ad n cap, visF M2 T] w fun e w' => e = .returned (.tuple #[]) ∧ (∃ vb', Own w' T 29 [vb'] ∧ RowI w' 0 vb' ((allC n m n).foldl (pkC m) b)) ∧ Chg T w w' := by
  have HM := Lib.hid hm; have HT := Lib.hid hT; have HB := Lib.hid hb
  have hMl : M2 < w.heap.size := cell_lt h2
  have hTl := hT.lt
  clear hm hT hb
  have HL := Lib.hid (show CirL w0 (w.heap.size + 1 + 1 + 1 + 1 + 1) w.heap.size M2 (w.heap.size + 1) (w.heap.size + 1 + 1 + 1 + 1) (w.heap.size + 1 + 1 + 1) T by
    have := hbw.size
    exact ⟨by omega, hT0, by omega, ⟨by omega, by omega, by omega⟩, ⟨by omega, by omega, hMT⟩, ⟨by omega, by omega, by omega⟩, ⟨by omega, by omega, by omega⟩⟩)
  have CN := Lib.hid (nextC_c n ad cap m w0 _ _ _ _ _ _ _ HM.out hn hnum HL.out (n - 1))
  have hvf : visF M2 T = .func (Fn.func 55) #[] #[.pointer (some ⟨M2, 0, none⟩), .pointer (some ⟨T, 0, none⟩)] := rfl
  rw [hvf]
  clear hvf
  go_enter Try.func54, Try.ntmps54
  go_wp2_with fail
  go_loopw [11] (fun i wr => ∃ j : Nat, j ≤ n ∧ i = .int .i64 j ∧ (∃ vl vb', Own wr (w.heap.size + 1 + 1 + 1) 29 [vl] ∧ Own wr T 29 [vb'] ∧ RowI wr 0 vb' ((allC n m j).foldl (pkC m) b)) ∧ CirC w0 wr n cap ad w.heap.size M2 (w.heap.size + 1) (w.heap.size + 1 + 1 + 1 + 1) (w.heap.size + 1 + 1 + 1) T ∧ Chg T w wr ∧ w.heap.size + 1 + 1 + 1 + 1 + 1 ≤ wr.heap.size) (fun i _ => n - (intOf i).toNat)
  case atStart =>
    refine ⟨0, Nat.zero_le _, rfl, ⟨_, vb, (Own.newH _ _ _ rfl (by simp)).alloc _, ((((HT.out.alloc _).alloc _).alloc _).alloc _).alloc _, HB.out.alloc'.alloc'.alloc'.alloc'.alloc'⟩, ⟨?_, ?_, ?_, ?_, ?_⟩, Chg.of_below (bal_alloc (bal_alloc (bal_alloc (bal_alloc (bal_alloc (Below.refl _ _)))))), by simp⟩
    · exact (((((Own.newH w _ _ rfl rfl).alloc _).alloc _).alloc _).alloc _).cell? (i := 0) rfl
    · exact cell_alloc' (cell_alloc' (cell_alloc' (cell_alloc' (cell_alloc' h2))))
    · exact ((((Own.newH (w.alloc _) _ _ rfl (by simp)).alloc _).alloc _).alloc _).cell? (i := 0) rfl
    · exact (Own.newH _ _ _ rfl (by simp)).cell? (i := 0) rfl
    · exact bal_alloc (bal_alloc (bal_alloc (bal_alloc (bal_alloc hbw))))
  case round =>
    obtain ⟨wE, rfl⟩ : ∃ x : World, x = wr := ⟨_, rfl⟩
    obtain ⟨j, hj, rfl, ⟨vl, vb', hol, hot, hrb⟩, hc, hch, hsz⟩ := hrel
    have HC := Lib.hid hc; have HCH := Lib.hid hch; have HOL := Lib.hid hol; have HOT := Lib.hid hot; have HRB := Lib.hid hrb
    by_cases hlt : j < n
    case neg =>
      obtain rfl : j = n := by omega
      clear hol hc hch hrb hot
      go_wp2_with fail
      go_end0
      exact ⟨rfl, ⟨vb', HOT.out, HRB.out⟩, HCH.out⟩
    case pos =>
      have HS := Lib.hid (CirI.start (i := (j : Int)) hsz (by have := HL.out.x; omega) hol hot hrb)
      have k1 := (hol.alloc (.cells #[.int .i64 (j : Int)] 3)).cell? (i := 0) rfl
      have f1 := (hol.alloc (.cells #[.int .i64 (j : Int)] 3)).frozen 0
      have HX := Lib.hid (show Chg2 (w.heap.size + 1 + 1 + 1 + 1 + 1) (w.heap.size + 1 + 1 + 1) T wE ((wE.alloc (.cells #[.int .i64 (j : Int)] 3)).setCell ⟨w.heap.size + 1 + 1 + 1, 0, none⟩ (.slice (some ⟨wE.heap.size, 0, none⟩) 1 1)) from (Chg2.of_below (bal_alloc (Below.refl _ _)) hsz).trans (Chg2.of_chg1 (Chg.set _ _ _ _) (by simp; omega)))
      have HC2 := Lib.hid (hc.chg HL.out HX.out)
      have kx := HC2.out.x
      unfold nexF at kx
      have HA := Lib.hid (allC_succ n m j)
      have hP := Pth.one m hlt
      have CN2 := Lib.hid (CN.out [(j : Int)] _ _ vb' _ hP (by simp; omega) HS.out HC2.out)
      have hX := Lib.hid (show Chg T w ((wE.alloc (.cells #[.int .i64 (j : Int)] 3)).setCell ⟨w.heap.size + 1 + 1 + 1, 0, none⟩ (.slice (some ⟨wE.heap.size, 0, none⟩) 1 1)) by
        refine ⟨HCH.out.os, HCH.out.tape, HCH.out.output, by simp; omega, fun q hq hne => ?_⟩
        rw [HX.out.block q (by omega) (by omega) hne]
        exact HCH.out.block q hq hne)
      clear hol hc hch hrb hot hP
      go_wp2_with fail
      refine CN2.out.mono ?_
      rintro e w2 ⟨rfl, ⟨vl6, vb6, hi6⟩, hch6⟩
      have HI6 := Lib.hid hi6; have HCH6 := Lib.hid hch6
      have HC6 := Lib.hid (HC2.out.chg HL.out hch6)
      have HX6 := Lib.hid (show Chg T w w2 by
        have := hX.out.size
        refine ⟨hch6.os.trans hX.out.os, hch6.tape.trans hX.out.tape, hch6.output.trans hX.out.output, Nat.le_trans hX.out.size hch6.size, fun q hq hne => ?_⟩
        rw [hch6.block q (by omega) (by omega) hne]
        exact hX.out.block q hq hne)
      have hsz6 := hi6.sz
      clear hi6 hch6 k1 f1 kx
      go_wp2_with fail
      go_roundw
      case rel => exact ⟨j + 1, by omega, by go_num, ⟨vl6, vb6, HI6.out.cl, HI6.out.ct, by rw [HA.out, List.foldl_append]; exact HI6.out.rb⟩, HC6.out, HX6.out, hsz6⟩
      case measure => simp [intOf]; omega

def ngB (M : List (List Int)) : Bool := sqB M && !decide (bstC M.length (entM M) = [])
def ngX (M : List (List Int)) : List Int := bstC M.length (entM M)
theorem bst_len (n : Nat) (m : Nat → Nat → Int) : (bstC n m).length ≤ n := by
  by_cases h : bstC n m = []
  · rw [h]; exact Nat.zero_le _
  · exact (bst_in h).1.len

set_option maxHeartbeats 3200000 in
set_option maxRecDepth 100000 in
theorem iNegative_c (ad : Option Addr) (cap : Nat) (M : List (List Int)) (w : World) (hr : RdM w ad M) (hl : smM M) :
    Calls Try.prog 15 #[.slice ad M.length cap] w (LisR (ngB M) (ngX M) w) := by
  have hb0 := bal_alloc (o := .cells #[.slice ad M.length cap] 24) (Below.refl w.heap.size w)
  have k0 := (Own.newH w #[.slice ad M.length cap] 24 rfl rfl).cell? (i := 0) rfl
  have C1 := Lib.hid (isSquare_c ad cap M _ (hr.below hb0) (by have := hl.1; omega) (fun i hi => by have := hl.2 i hi; omega))
  have C2 := Lib.hid (fun (h : sqB M = true) (w1 : World) (T : Nat) (vb : Value) (hbw : Below w.heap.size w w1) (h2 : w1.cell? ⟨w.heap.size, 0, none⟩ = some (.slice ad M.length cap)) (hMT : w.heap.size ≠ T) (hT0 : w.heap.size ≤ T) (hT : Own w1 T 29 [vb]) (hb : RowI w1 0 vb []) => by
    obtain ⟨hn, _, hnum⟩ := sq_facts h
    have h3 := hr
    rw [← sq_toM h] at h3
    have h4 := circuits_c M.length ad cap (entM M) w w1 w.heap.size T [] vb h3 hn hnum hbw h2 hMT hT0 hT hb
    rw [show (allC M.length (entM M) M.length).foldl (pkC (entM M)) [] = ngX M from rfl] at h4
    unfold visF at h4
    exact h4)
  have HL := Lib.hid (bst_len M.length (entM M))
  rw [show bstC M.length (entM M) = ngX M from rfl] at HL
  unfold ngB
  rw [show bstC M.length (entM M) = ngX M from rfl]
  have hnb := hl.1
  clear hr hl
  generalize ngX M = X at C2 HL ⊢
  generalize sqB M = S at C1 C2 ⊢
  generalize M.length = n at C1 C2 k0 hb0 hnb HL ⊢
  cases S
  · clear C2
    go_enter Try.func15, Try.ntmps15
    go_wp2_with fail
    refine C1.out.mono ?_
    rintro e w1 ⟨rfl, hb1⟩
    have hb1 := ball hb0 hb1
    go_wp2_with fail
    exact bodyPost_ret (v := .tuple #[.slice none 0 0, .bool false]) (by simp [results, Try.results15, go_sem]) rfl (LisR.no _ hb1)
  · rw [Bool.true_and]
    have D2 := Lib.hid (C2.out rfl)
    clear C2
    go_enter Try.func15, Try.ntmps15
    go_wp2_with fail
    refine C1.out.mono ?_
    rintro e w1 ⟨rfl, hb1⟩
    have k1 := bcell' hb1 k0
    have hb1 := ball hb0 hb1
    have k2 := cell_alloc' (o := .cells #[.slice (some ⟨w1.heap.size, 0, none⟩) 0 0] 29) (cell_alloc' (o := .cells #[] 3) k1)
    have hlt : w.heap.size < w1.heap.size := cell_lt k1
    have D3 := Lib.hid (D2.out ((w1.alloc (.cells #[] 3)).alloc (.cells #[.slice (some ⟨w1.heap.size, 0, none⟩) 0 0] 29)) (w1.heap.size + 1) _ (bal_alloc (bal_alloc hb1)) k2 (by omega) (by omega) (Own.newH _ _ _ rfl (by simp)) ((rowI_new w1 0 _ (Nat.zero_le _) rfl).alloc'))
    clear D2 k0 C1
    go_wp2_with fail
    refine D3.out.mono ?_
    rintro e w2 ⟨rfl, ⟨vb, hT, hrow⟩, hch⟩
    have kT := hT.cell? (i := 0) rfl
    obtain ⟨av, cv, rfl, hrd⟩ := hrow.shape
    have HB2 : Below w.heap.size w w2 := (bal_alloc (bal_alloc hb1)).trans (hch.below (by omega) (by simp; omega))
    have HRD := Lib.hid hrd
    clear hT hrow hch hrd k2 k1 D3
    by_cases hX : X = []
    · subst hX
      go_wp2_with fail
      go_quiet (fail)
      go_wp2_with fail
      exact bodyPost_ret (v := .tuple #[.slice av 0 cv, .bool false]) (by simp [results, Try.results15, go_sem]) rfl ⟨av, cv, rfl, HRD.out, bdrewN HB2 _⟩
    · have hx0 : 0 < X.length := List.length_pos_iff.2 hX
      have HX := Lib.hid hX; clear hX
      obtain ⟨N, hN⟩ : ∃ N, X.length = N := ⟨_, rfl⟩
      rw [hN] at kT hx0
      have HN := Lib.hid hN; clear hN
      have g1 : decide ((0 : Int) < (N : Int)) = true := decide_eq_true (by omega)
      go_wp2_with fail
      go_quiet (fail)
      go_wp2_with fail
      refine bodyPost_ret (v := .tuple #[.slice av N cv, .bool true]) (by simp [results, Try.results15, go_sem]) rfl ?_
      rw [decide_eq_false HX.out]
      exact LisR.yes HRD.out HN.out (bdrewN HB2 _)
end Go.Proofs.Ytbffcbjbeeagmaa
