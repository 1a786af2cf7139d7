/-
  Both sides of ReduceChips, ReducingScript, LackingAt, IsWinnable, WonChips. Printed by gen_red.py.
-/
import Derived.Test.YtmhmdbmiimpbnaaRedI
namespace Go.Proofs.Ytmhmdbmiimpbnaa
open Go.RowKit

noncomputable def reduceChipsR (n : Int) (ls : List Lk) (d : List Int) (q : Int) : List Int × Bool := if askB n ls d q = true then ((redR n.toNat (betF ls) (valF ls) q.toNat (fd d)).1, true) else ([], false)
noncomputable def reducingScriptR (n : Int) (ls : List Lk) (d : List Int) (q : Int) : List Int × Bool := if askB n ls d q = true then ((redR n.toNat (betF ls) (valF ls) q.toNat (fd d)).2, true) else ([], false)
def lackZ (x : Int) : Int := if 0 < x then 0 else -x
def mostZ (a b : Int) : Int := if b < a then a else b
noncomputable def lackingR (n : Int) (ls : List Lk) (d : List Int) (q : Int) : Int × Bool := if askB n ls d q = true then (lackZ ((redR n.toNat (betF ls) (valF ls) q.toNat (fd d)).1.getD q.toNat 0), true) else (0, false)
noncomputable def winB (n : Int) (ls : List Lk) (d : List Int) : Bool := decide (0 ≤ (redR n.toNat (betF ls) (valF ls) 0 (fd d)).1.getD 0 0)
noncomputable def isWinnableR (n : Int) (ls : List Lk) (d : List Int) : Bool × Bool := if askB n ls d 0 = true then (winB n ls d, true) else (false, false)
noncomputable def wonR (n : Int) (ls : List Lk) (d : List Int) : List Int × Bool := if askB n ls d 0 = true ∧ winB n ls d = true then ((redR n.toNat (betF ls) (valF ls) 0 (fd d)).1, true) else ([], false)

theorem lack_eq {x y : Int} (h : x = y) : (x, true) = (y, true) := by rw [h]
theorem ask_zero {n : Int} {ls : List Lk} {d : List Int} (hg : goodL n ls = true) : askB n ls d 0 = gameB n ls d := by
  have := good_n hg
  have h : inB 0 0 (n - 1) = true := inB_t.2 ⟨Int.le_refl _, by omega⟩
  unfold askB
  rw [h, Bool.and_true]
theorem ask_bd {N : Nat} {d : List Int} (hdN : d.length = N) (hda : allB d (-20) 20 = true) : ∀ j, j < N → -40 ≤ fd d j ∧ fd d j ≤ 40 := fun j hj => by
  have := allB_t.1 hda j (by omega)
  show -40 ≤ d.getD j 0 ∧ d.getD j 0 ≤ 40
  omega
theorem red_len {n : Int} {ls : List Lk} {d : List Int} {q : Int} (h : askB n ls d q = true) : (redR n.toNat (betF ls) (valF ls) q.toNat (fd d)).1.length = n.toNat ∧ (redR n.toNat (betF ls) (valF ls) q.toNat (fd d)).2.length = n.toNat ∧ n.toNat ≤ 8 := by
  obtain ⟨hgm, hq0, hq1⟩ := askB_t h
  obtain ⟨hg, hc, hdl, hda⟩ := gameB_t hgm
  obtain ⟨hn1, hn2⟩ := good_n hg
  obtain ⟨N, rfl⟩ : ∃ N : Nat, n = N := ⟨n.toNat, by omega⟩
  rw [Int.toNat_natCast]
  obtain ⟨f, hf⟩ := pot_exists (q := q.toNat) rfl hg hc (by omega)
  obtain ⟨r, hr⟩ := redEnd_exists (gr_of (N := N) rfl hg) (by omega) hf (fun j hj => (ask_bd (by omega) hda j hj).2)
  rw [hr.eq]
  obtain ⟨_, _, a, b, rfl, _⟩ := hr
  exact ⟨tab_length _ _, tab_length _ _, by omega⟩
theorem reduceChipsR_len (n : Int) (ls : List Lk) (d : List Int) (q : Int) : (reduceChipsR n ls d q).1.length ≤ 1048576 := by
  unfold reduceChipsR
  split
  · rename_i h
    have := red_len h
    show (redR _ _ _ _ _).1.length ≤ _
    omega
  · simp
theorem reducingScriptR_len (n : Int) (ls : List Lk) (d : List Int) (q : Int) : (reducingScriptR n ls d q).1.length ≤ 1048576 := by
  unfold reducingScriptR
  split
  · rename_i h
    have := red_len h
    show (redR _ _ _ _ _).2.length ≤ _
    omega
  · simp
theorem wonR_len (n : Int) (ls : List Lk) (d : List Int) : (wonR n ls d).1.length ≤ 1048576 := by
  unfold wonR
  split
  · rename_i h
    have := red_len h.1
    show (redR _ _ _ _ _).1.length ≤ _
    rw [show (0 : Int).toNat = 0 from rfl] at this
    omega
  · simp
section
variable {N : Nat} {bet : Nat → Nat → Int} {val : Nat → Int} {q : Nat} {d : Nat → Int} {x y : Nat → Int}
theorem red_tab (g : Gr N bet val) (hN : N ≤ 8) (hq : q < N) (h : RedEnd N bet val q d (tab N x, tab N y)) (hd : ∀ j, j < N → -40 ≤ d j ∧ d j ≤ 40) : (∀ j, j < N → j ≠ q → 0 ≤ x j ∧ x j ≤ 34) ∧ sm N x = sm N d ∧ -1000 ≤ x q ∧ x q ≤ 1000 := by
  obtain ⟨a, b, e, h1, _, h3, h4, h5⟩ := h.props g hN hq hd
  have ex : ∀ j, j < N → x j = a j := fun j hj => by
    have := congrArg (fun r : List Int × List Int => r.1.getD j 0) e
    simp only at this
    rwa [tab_getD hj, tab_getD hj] at this
  refine ⟨fun j hj hjq => by rw [ex j hj]; exact h1 j hj hjq, by rw [sm_congr ex]; exact h3, by rw [ex q hq]; exact h4, by rw [ex q hq]; exact h5⟩
theorem red_q (g : Gr N bet val) (hN : N ≤ 8) (hq : q < N) (h : RedEnd N bet val q d (tab N x, tab N y)) (hd : ∀ j, j < N → -40 ≤ d j ∧ d j ≤ 40) : -1000 ≤ x q ∧ x q ≤ 1000 := (red_tab g hN hq h hd).2.2
theorem red_chips (g : Gr N bet val) (hN : N ≤ 8) (hq : q < N) (h : RedEnd N bet val q d (tab N x, tab N y)) (hd : ∀ j, j < N → -40 ≤ d j ∧ d j ≤ 40) : chipsB N (tab N x) = true := by
  obtain ⟨h1, _, h3, h4⟩ := red_tab g hN hq h hd
  simp only [chipsB, Bool.and_eq_true, decide_eq_true_eq, tab_length]
  refine ⟨trivial, allB_t.2 fun j hj => ?_⟩
  rw [tab_length] at hj
  rw [tab_getD hj]
  by_cases e : j = q
  · subst e; omega
  · have := h1 j hj e; omega
theorem red_neg (g : Gr N bet val) (hN : N ≤ 8) (hq : q < N) (h : RedEnd N bet val q d (tab N x, tab N y)) (hd : ∀ j, j < N → -40 ≤ d j ∧ d j ≤ 40) (hs : sm N d < 0) : x q < 0 := by
  obtain ⟨h1, h2, _, _⟩ := red_tab g hN hq h hd
  have h3 : sm N x = x q + sm N (fun i => if i = q then 0 else x i) := sm_but hq
  have h4 := sm_nonneg (N := N) (f := fun i => if i = q then 0 else x i) (fun i hi => by
    by_cases e : i = q
    · rw [if_pos e]; omega
    · rw [if_neg e]; exact (h1 i hi e).1)
  omega
end
theorem isum_sm : ∀ (xs : List Int), isum xs = sm xs.length (fd xs)
  | [] => rfl
  | x :: t => by
    rw [List.length_cons, sm_head]
    show _ = x + sm t.length (fun j => t.getD j 0)
    have := isum_sm t
    rw [isum_cons, this]
    rfl

set_option maxHeartbeats 400000 in
theorem l1Most_any (x y : Int) (w : World) :
    Calls Try.prog 81 #[.int .i64 x, .int .i64 y] w fun e w' => e = .returned (.int .i64 (mostZ x y)) ∧ w = w' := by
  by_cases h : y < x
  · have hR := Lib.hid (show mostZ x y = x from if_pos h)
    go_enter Try.func81, Try.ntmps81
    go_wp2
    go_ret
    exact ⟨by rw [hR.out]; rfl, rfl⟩
  · have hR := Lib.hid (show mostZ x y = y from if_neg h)
    go_enter Try.func81, Try.ntmps81
    go_wp2
    go_ret
    exact ⟨by rw [hR.out]; rfl, rfl⟩

set_option maxHeartbeats 1600000 in
set_option maxRecDepth 100000 in
theorem rdWins_any (N : Nat) (adl : Option Addr) (capl : Nat) (ls : List Lk) (a : Addr) (cap : Nat) (d : List Int) (w : World) (hl : ls.length ≤ 1048576) (hrl : RdL w adl ls) (hg : goodL N ls = true) (hc : connB N ls = true) (hdl : d.length = N) (hr : RdI w (some a) d) (hd : ∀ j, j < N → -40 ≤ fd d j ∧ fd d j ≤ 40) :
    Calls Try.prog 77 #[.int .i64 N, .slice adl ls.length capl, .slice (some a) N cap] w fun e w' => e = .returned (.bool (winB N ls d)) ∧ Below w.heap.size w w' := by
  have hgn := good_n hg
  have HGR := Lib.hid (gr_of (N := N) rfl hg)
  have hsum := chSum_any (some a) cap d w (by omega) hr (fun j hj => by have := hd j (by omega); have e : fd d j = d.getD j 0 := rfl; omega)
  rw [isum_sm, hdl] at hsum
  have hred := rdReduce_any N adl capl ls 0 a cap d w hl hrl hg hc (by omega) hdl hr hd
  rw [show ((0 : Nat) : Int) = 0 from rfl] at hred
  have HRED := Lib.hid hred; clear hred
  have HD := Lib.hid hd; clear hd
  have hneg := Lib.hid (fun x y (h : RedEnd N (betF ls) (valF ls) 0 (fd d) (tab N x, tab N y)) hs => red_neg HGR.out (by omega) (by omega) h HD.out hs)
  obtain ⟨r0, hr0⟩ := redEnd_exists HGR.out (by omega) (pot_exists rfl hg hc (show 0 < N by omega)).choose_spec (fun j hj => (HD.out j hj).2)
  obtain ⟨_, _, x0, y0, hr1, hr2⟩ := hr0
  have hre0 : RedEnd N (betF ls) (valF ls) 0 (fd d) (tab N x0, tab N y0) := ⟨_, _, x0, y0, rfl, hr2⟩
  clear hr1 hr2
  have hwin : Hid (winB N ls d = decide (0 ≤ x0 0)) := by show _ = _; unfold winB; rw [Int.toNat_natCast, hre0.eq]; show decide (0 ≤ (tab N x0).getD 0 0) = _; rw [tab_getD (by omega)]
  have HRE0 := Lib.hid hre0; clear hre0
  generalize hsm : sm N (fd d) = sd at hsum
  have HSUM := Lib.hid hsum; clear hsum
  have HSM := Lib.hid hsm; clear hsm
  by_cases hs : sd < 0
  case pos =>
    have hlt := hneg.out x0 y0 HRE0.out (by rw [HSM.out]; exact hs)
    have HLT := Lib.hid hlt; clear hlt
    go_enter Try.func77, Try.ntmps77
    go_wp2_with fail
    refine HSUM.out.mono ?_
    rintro e w' ⟨rfl, rfl⟩
    go_wp2_with fail
    go_ret
    exact ⟨ret_bool (by rw [hwin.out]; have := HLT.out; simp; omega), Below.refl _ _⟩
  case neg =>
    go_enter Try.func77, Try.ntmps77
    go_wp2_with fail
    refine HSUM.out.mono ?_
    rintro e w' ⟨rfl, rfl⟩
    go_wp2_with fail
    refine HRED.out.mono ?_
    rintro e w3 ⟨x, y, g, cp, gt, hre, rfl, hg1, hg2, ho1, ho2, hb3⟩
    have co := ho1.cell? (i := 0) (ints_get (by rw [tab_length]; omega))
    rw [tab_getD (by omega)] at co
    have hx : x 0 = x0 0 := by
      have := congrArg (fun r : List Int × List Int => r.1.getD 0 0) (hre.unique HRE0.out)
      simp only at this
      rwa [tab_getD (by omega), tab_getD (by omega)] at this
    rw [hx] at co
    clear hx hre ho1 ho2
    generalize x0 0 = xq at co hwin
    go_wp2_with fail
    go_ret
    exact ⟨ret_bool hwin.out.symm, hb3⟩

set_option maxHeartbeats 1600000 in
set_option maxRecDepth 100000 in
theorem isWin_any (G gb gv capb : Nat) (rb : Nat → Nat) (N : Nat) (ls : List Lk) (a : Addr) (cap : Nat) (d : List Int) (w : World) (h : GrAt w G gb gv capb rb N (betF ls) (valF ls) (edgeF ls)) (hg : goodL N ls = true) (hc : connB N ls = true) (hdl : d.length = N) (hr : RdI w (some a) d) (hd : ∀ j, j < N → -40 ≤ fd d j ∧ fd d j ≤ 40) :
    Calls Try.prog 75 #[.pointer (some ⟨G, 0, none⟩), .slice (some a) N cap] w fun e w' => e = .returned (.bool (winB N ls d)) ∧ Below w.heap.size w w' := by
  have hgn := good_n hg
  have hred := reduce_any G gb gv capb rb N ls 0 a cap d w h hg hc (by omega) hdl hr hd
  rw [show ((0 : Nat) : Int) = 0 from rfl] at hred
  have HRED := Lib.hid hred; clear hred hd h
  go_enter Try.func75, Try.ntmps75
  go_wp2_with fail
  refine HRED.out.mono ?_
  rintro e w3 ⟨x, y, g, cp, gt, hre, rfl, hg1, hg2, ho1, ho2, hb3⟩
  have co := ho1.cell? (i := 0) (ints_get (by rw [tab_length]; omega))
  rw [tab_getD (by omega)] at co
  have hwin : Hid (winB N ls d = decide (0 ≤ x 0)) := by show _ = _; unfold winB; rw [Int.toNat_natCast, hre.eq]; show decide (0 ≤ (tab N x).getD 0 0) = _; rw [tab_getD (by omega)]
  clear hre ho1 ho2
  generalize x 0 = xq at co hwin
  go_wp2_with fail
  go_ret
  exact ⟨ret_bool hwin.out.symm, hb3⟩


set_option maxHeartbeats 1600000 in
set_option maxRecDepth 100000 in
theorem specChips_c (n : Int) (adl : Option Addr) (capl : Nat) (ls : List Lk) (a : Addr) (cap : Nat) (d : List Int) (q : Int) (w : World) (hl : ls.length ≤ 1048576) (hr : RdL w adl ls) (hl' : d.length ≤ 1048576) (hr' : RdI w (some a) d) :
    Calls Try.prog 41 #[.int .i64 n, .slice adl ls.length capl, .slice (some a) d.length cap, .int .i64 q] w (RetLB (reduceChipsR n ls d q) w) := by
  by_cases hk : askB n ls d q = true
  case neg =>
    have hk' := Bool.eq_false_iff.2 hk
    have hR := Lib.hid (show reduceChipsR n ls d q = ([], false) from if_neg (fun h => hk h))
    go_enter Try.func41, Try.ntmps41
    go_wp2_with fail
    refine (rdAsked_any n adl capl ls (some a) cap d q _ hl hr hl' hr').mono ?_
    rw [hk']
    rintro e w1 ⟨rfl, hb1⟩
    go_wp2
    go_ret2
    exact RetLB.no hR.out hb1
  case pos =>
    obtain ⟨hgm, hq0, hq1⟩ := askB_t hk
    obtain ⟨hg, hc, hdl, hda⟩ := gameB_t hgm
    obtain ⟨hn1, hn2⟩ := good_n hg
    obtain ⟨N, rfl⟩ : ∃ N : Nat, n = N := ⟨n.toNat, by omega⟩
    obtain ⟨q, rfl⟩ : ∃ k : Nat, q = k := ⟨q.toNat, by omega⟩
    have hdN : d.length = N := by omega
    have HD := Lib.hid (ask_bd hdN hda); clear hda
    have HG := Lib.hid hg
    have HC := Lib.hid hc; clear hc
    have hasked := fun w => rdAsked_any N adl capl ls (some a) cap d q w hl
    rw [hk] at hasked
    rw [hdN] at hasked ⊢
    have HA := Lib.hid hasked; clear hasked
    have HK := Lib.hid hk
    have HDN := Lib.hid hdN; clear hdN hdl hgm hk hg
    have hR := Lib.hid (show reduceChipsR N ls d q = ((redR N (betF ls) (valF ls) q (fd d)).1, true) from if_pos HK.out)
    go_enter Try.func41, Try.ntmps41
    go_wp2_with fail
    refine (HA.out _ hr (by rw [← HDN.out]; exact hl') hr').mono ?_
    rintro e w1 ⟨rfl, hb1⟩
    go_wp2_with fail
    refine (rdReduce_any N adl capl ls q a cap d _ hl (hr.below hb1) HG.out HC.out (by omega) HDN.out (hr'.below hb1) HD.out).mono ?_
    rintro e w2 ⟨x, y, g, cp, gt, hre, rfl, hg1, hg2, ho1, ho2, hb2⟩
    have HRE := Lib.hid hre.eq; clear hre
    have HO := Lib.hid ho1; clear ho1 ho2
    go_wp2_with fail
    go_ret2
    exact RetLB.of (hR.out.trans (by rw [HRE.out])) (Or.inr ⟨g, cp, by rw [tab_length]; rfl, Nat.le_trans hb1.size hg1, HO.out⟩) (ball hb1 hb2)

set_option maxHeartbeats 1600000 in
set_option maxRecDepth 100000 in
theorem implChips_c (n : Int) (adl : Option Addr) (capl : Nat) (ls : List Lk) (a : Addr) (cap : Nat) (d : List Int) (q : Int) (w : World) (hl : ls.length ≤ 1048576) (hr : RdL w adl ls) (hl' : d.length ≤ 1048576) (hr' : RdI w (some a) d) :
    Calls Try.prog 40 #[.int .i64 n, .slice adl ls.length capl, .slice (some a) d.length cap, .int .i64 q] w (RetLB (reduceChipsR n ls d q) w) := by
  by_cases hg : goodL n ls = true
  case neg =>
    have hg' := Bool.eq_false_iff.2 hg
    have hR := Lib.hid (show reduceChipsR n ls d q = ([], false) from if_neg (fun h => hg (gameB_t (askB_t h).1).1))
    go_enter Try.func40, Try.ntmps40
    go_wp2_with fail
    refine (gameAt_no n adl capl ls _ _ _ hl hr hg').mono ?_
    rintro e w1 ⟨rfl, hb1⟩
    go_wp2
    go_ret2
    exact RetLB.no hR.out hb1
  case pos =>
    have HG := Lib.hid hg
    by_cases hk : askB n ls d q = true
    case neg =>
      have hk' := Bool.eq_false_iff.2 hk
      have hR := Lib.hid (show reduceChipsR n ls d q = ([], false) from if_neg (fun h => hk h))
      go_enter Try.func40, Try.ntmps40
      go_wp2_with fail
      refine (gameAt_any n adl capl ls (some a) cap d q _ hl hr hl' hr' HG.out).mono ?_
      rw [hk']
      rintro e w1 ⟨G, gb, gv, capb, rb, rfl, hG, hGB, hGV, hb1⟩
      clear hG
      go_wp2
      go_ret2
      exact RetLB.no hR.out hb1
    case pos =>
      obtain ⟨hgm, hq0, hq1⟩ := askB_t hk
      obtain ⟨_, hc, hdl, hda⟩ := gameB_t hgm
      obtain ⟨hn1, hn2⟩ := good_n hg
      obtain ⟨N, rfl⟩ : ∃ N : Nat, n = N := ⟨n.toNat, by omega⟩
      obtain ⟨q, rfl⟩ : ∃ k : Nat, q = k := ⟨q.toNat, by omega⟩
      have hdN : d.length = N := by omega
      have HD := Lib.hid (ask_bd hdN hda); clear hda
      have HC := Lib.hid hc; clear hc
      have hasked := fun w => gameAt_any N adl capl ls (some a) cap d q w hl
      rw [hk] at hasked
      rw [hdN] at hasked ⊢
      have HA := Lib.hid hasked; clear hasked
      have HK := Lib.hid hk
      have HDN := Lib.hid hdN; clear hdN hdl hk hg
      have hR := Lib.hid (show reduceChipsR N ls d q = ((redR N (betF ls) (valF ls) q (fd d)).1, true) from if_pos HK.out)
      have HGRR := Lib.hid (gr_of (N := N) rfl HG.out)
      go_enter Try.func40, Try.ntmps40
      go_wp2_with fail
      refine (HA.out _ hr (by rw [← HDN.out]; exact hl') hr' HG.out).mono ?_
      rintro e w1 ⟨G, gb, gv, capb, rb, rfl, hG, hGB, hGV, hb1⟩
      rw [Int.toNat_natCast] at hG
      have HGR := Lib.hid hG; clear hG
      go_wp2_with fail
      refine (reduce_any G gb gv capb rb N ls q a cap d _ HGR.out HG.out HC.out (by omega) HDN.out (hr'.below hb1) HD.out).mono ?_
      rintro e w2 ⟨x, y, g, cp, gt, hre, rfl, hg1, hg2, ho1, ho2, hb2⟩
      have htold := told_yes G gb gv capb rb N _ _ _ (some ⟨g, 0, none⟩) cp (tab N x) w2 (HGR.out.below hb2) (by rw [tab_length]; omega) ho1.rd (red_chips HGRR.out (by omega) (by omega) hre HD.out)
      rw [tab_length] at htold
      have HT := Lib.hid htold; clear htold
      have HRE := Lib.hid hre.eq; clear hre
      have HO := Lib.hid ho1; clear ho1 ho2
      go_wp2_with fail
      refine HT.out.mono ?_
      rintro e w3 ⟨rfl, hb3⟩
      have HO3 := Lib.hid (HO.out.belowAll hb3)
      go_wp2_with fail
      go_ret2
      exact RetLB.of (hR.out.trans (by rw [HRE.out])) (Or.inr ⟨g, cp, by rw [tab_length]; rfl, Nat.le_trans hb1.size hg1, HO3.out⟩) (ball (ball hb1 hb2) hb3)

set_option maxHeartbeats 1600000 in
set_option maxRecDepth 100000 in
theorem specScript_c (n : Int) (adl : Option Addr) (capl : Nat) (ls : List Lk) (a : Addr) (cap : Nat) (d : List Int) (q : Int) (w : World) (hl : ls.length ≤ 1048576) (hr : RdL w adl ls) (hl' : d.length ≤ 1048576) (hr' : RdI w (some a) d) :
    Calls Try.prog 43 #[.int .i64 n, .slice adl ls.length capl, .slice (some a) d.length cap, .int .i64 q] w (RetLB (reducingScriptR n ls d q) w) := by
  by_cases hk : askB n ls d q = true
  case neg =>
    have hk' := Bool.eq_false_iff.2 hk
    have hR := Lib.hid (show reducingScriptR n ls d q = ([], false) from if_neg (fun h => hk h))
    go_enter Try.func43, Try.ntmps43
    go_wp2_with fail
    refine (rdAsked_any n adl capl ls (some a) cap d q _ hl hr hl' hr').mono ?_
    rw [hk']
    rintro e w1 ⟨rfl, hb1⟩
    go_wp2
    go_ret2
    exact RetLB.no hR.out hb1
  case pos =>
    obtain ⟨hgm, hq0, hq1⟩ := askB_t hk
    obtain ⟨hg, hc, hdl, hda⟩ := gameB_t hgm
    obtain ⟨hn1, hn2⟩ := good_n hg
    obtain ⟨N, rfl⟩ : ∃ N : Nat, n = N := ⟨n.toNat, by omega⟩
    obtain ⟨q, rfl⟩ : ∃ k : Nat, q = k := ⟨q.toNat, by omega⟩
    have hdN : d.length = N := by omega
    have HD := Lib.hid (ask_bd hdN hda); clear hda
    have HG := Lib.hid hg
    have HC := Lib.hid hc; clear hc
    have hasked := fun w => rdAsked_any N adl capl ls (some a) cap d q w hl
    rw [hk] at hasked
    rw [hdN] at hasked ⊢
    have HA := Lib.hid hasked; clear hasked
    have HK := Lib.hid hk
    have HDN := Lib.hid hdN; clear hdN hdl hgm hk hg
    have hR := Lib.hid (show reducingScriptR N ls d q = ((redR N (betF ls) (valF ls) q (fd d)).2, true) from if_pos HK.out)
    go_enter Try.func43, Try.ntmps43
    go_wp2_with fail
    refine (HA.out _ hr (by rw [← HDN.out]; exact hl') hr').mono ?_
    rintro e w1 ⟨rfl, hb1⟩
    go_wp2_with fail
    refine (rdReduce_any N adl capl ls q a cap d _ hl (hr.below hb1) HG.out HC.out (by omega) HDN.out (hr'.below hb1) HD.out).mono ?_
    rintro e w2 ⟨x, y, g, cp, gt, hre, rfl, hg1, hg2, ho1, ho2, hb2⟩
    have HRE := Lib.hid hre.eq; clear hre
    have HO := Lib.hid ho2; clear ho1 ho2
    go_wp2_with fail
    go_ret2
    exact RetLB.of (hR.out.trans (by rw [HRE.out])) (Or.inr ⟨gt, N, by rw [tab_length]; rfl, Nat.le_trans hb1.size hg2, HO.out⟩) (ball hb1 hb2)

set_option maxHeartbeats 1600000 in
set_option maxRecDepth 100000 in
theorem implScript_c (n : Int) (adl : Option Addr) (capl : Nat) (ls : List Lk) (a : Addr) (cap : Nat) (d : List Int) (q : Int) (w : World) (hl : ls.length ≤ 1048576) (hr : RdL w adl ls) (hl' : d.length ≤ 1048576) (hr' : RdI w (some a) d) :
    Calls Try.prog 42 #[.int .i64 n, .slice adl ls.length capl, .slice (some a) d.length cap, .int .i64 q] w (RetLB (reducingScriptR n ls d q) w) := by
  by_cases hg : goodL n ls = true
  case neg =>
    have hg' := Bool.eq_false_iff.2 hg
    have hR := Lib.hid (show reducingScriptR n ls d q = ([], false) from if_neg (fun h => hg (gameB_t (askB_t h).1).1))
    go_enter Try.func42, Try.ntmps42
    go_wp2_with fail
    refine (gameAt_no n adl capl ls _ _ _ hl hr hg').mono ?_
    rintro e w1 ⟨rfl, hb1⟩
    go_wp2
    go_ret2
    exact RetLB.no hR.out hb1
  case pos =>
    have HG := Lib.hid hg
    by_cases hk : askB n ls d q = true
    case neg =>
      have hk' := Bool.eq_false_iff.2 hk
      have hR := Lib.hid (show reducingScriptR n ls d q = ([], false) from if_neg (fun h => hk h))
      go_enter Try.func42, Try.ntmps42
      go_wp2_with fail
      refine (gameAt_any n adl capl ls (some a) cap d q _ hl hr hl' hr' HG.out).mono ?_
      rw [hk']
      rintro e w1 ⟨G, gb, gv, capb, rb, rfl, hG, hGB, hGV, hb1⟩
      clear hG
      go_wp2
      go_ret2
      exact RetLB.no hR.out hb1
    case pos =>
      obtain ⟨hgm, hq0, hq1⟩ := askB_t hk
      obtain ⟨_, hc, hdl, hda⟩ := gameB_t hgm
      obtain ⟨hn1, hn2⟩ := good_n hg
      obtain ⟨N, rfl⟩ : ∃ N : Nat, n = N := ⟨n.toNat, by omega⟩
      obtain ⟨q, rfl⟩ : ∃ k : Nat, q = k := ⟨q.toNat, by omega⟩
      have hdN : d.length = N := by omega
      have HD := Lib.hid (ask_bd hdN hda); clear hda
      have HC := Lib.hid hc; clear hc
      have hasked := fun w => gameAt_any N adl capl ls (some a) cap d q w hl
      rw [hk] at hasked
      rw [hdN] at hasked ⊢
      have HA := Lib.hid hasked; clear hasked
      have HK := Lib.hid hk
      have HDN := Lib.hid hdN; clear hdN hdl hk hg
      have hR := Lib.hid (show reducingScriptR N ls d q = ((redR N (betF ls) (valF ls) q (fd d)).2, true) from if_pos HK.out)
      go_enter Try.func42, Try.ntmps42
      go_wp2_with fail
      refine (HA.out _ hr (by rw [← HDN.out]; exact hl') hr' HG.out).mono ?_
      rintro e w1 ⟨G, gb, gv, capb, rb, rfl, hG, hGB, hGV, hb1⟩
      rw [Int.toNat_natCast] at hG
      have HGR := Lib.hid hG; clear hG
      go_wp2_with fail
      refine (reduce_any G gb gv capb rb N ls q a cap d _ HGR.out HG.out HC.out (by omega) HDN.out (hr'.below hb1) HD.out).mono ?_
      rintro e w2 ⟨x, y, g, cp, gt, hre, rfl, hg1, hg2, ho1, ho2, hb2⟩
      have HRE := Lib.hid hre.eq; clear hre
      have HO := Lib.hid ho2; clear ho1 ho2
      go_wp2_with fail
      go_ret2
      exact RetLB.of (hR.out.trans (by rw [HRE.out])) (Or.inr ⟨gt, N, by rw [tab_length]; rfl, Nat.le_trans hb1.size hg2, HO.out⟩) (ball hb1 hb2)

set_option maxHeartbeats 1600000 in
set_option maxRecDepth 100000 in
theorem specLack_c (n : Int) (adl : Option Addr) (capl : Nat) (ls : List Lk) (a : Addr) (cap : Nat) (d : List Int) (q : Int) (w : World) (hl : ls.length ≤ 1048576) (hr : RdL w adl ls) (hl' : d.length ≤ 1048576) (hr' : RdI w (some a) d) :
    Calls Try.prog 33 #[.int .i64 n, .slice adl ls.length capl, .slice (some a) d.length cap, .int .i64 q] w (RetIB (lackingR n ls d q) w) := by
  by_cases hk : askB n ls d q = true
  case neg =>
    have hk' := Bool.eq_false_iff.2 hk
    have hR := Lib.hid (show lackingR n ls d q = (0, false) from if_neg (fun h => hk h))
    go_enter Try.func33, Try.ntmps33
    go_wp2_with fail
    refine (rdAsked_any n adl capl ls (some a) cap d q _ hl hr hl' hr').mono ?_
    rw [hk']
    rintro e w1 ⟨rfl, hb1⟩
    go_wp2
    go_ret2
    exact RetIB.of hR.out hb1
  case pos =>
    obtain ⟨hgm, hq0, hq1⟩ := askB_t hk
    obtain ⟨hg, hc, hdl, hda⟩ := gameB_t hgm
    obtain ⟨hn1, hn2⟩ := good_n hg
    obtain ⟨N, rfl⟩ : ∃ N : Nat, n = N := ⟨n.toNat, by omega⟩
    obtain ⟨q, rfl⟩ : ∃ k : Nat, q = k := ⟨q.toNat, by omega⟩
    have hdN : d.length = N := by omega
    have HD := Lib.hid (ask_bd hdN hda); clear hda
    have HG := Lib.hid hg
    have HC := Lib.hid hc; clear hc
    have hasked := fun w => rdAsked_any N adl capl ls (some a) cap d q w hl
    rw [hk] at hasked
    rw [hdN] at hasked ⊢
    have HA := Lib.hid hasked; clear hasked
    have HK := Lib.hid hk
    have HDN := Lib.hid hdN; clear hdN hdl hgm hk hg
    have hR := Lib.hid (show lackingR N ls d q = (lackZ ((redR N (betF ls) (valF ls) q (fd d)).1.getD q 0), true) from if_pos HK.out)
    have HGRR := Lib.hid (gr_of (N := N) rfl HG.out)
    go_enter Try.func33, Try.ntmps33
    go_wp2_with fail
    refine (HA.out _ hr (by rw [← HDN.out]; exact hl') hr').mono ?_
    rintro e w1 ⟨rfl, hb1⟩
    go_wp2_with fail
    refine (rdReduce_any N adl capl ls q a cap d _ hl (hr.below hb1) HG.out HC.out (by omega) HDN.out (hr'.below hb1) HD.out).mono ?_
    rintro e w2 ⟨x, y, g, cp, gt, hre, rfl, hg1, hg2, ho1, ho2, hb2⟩
    have hxb := red_q HGRR.out (by omega) (by omega) hre HD.out
    have co := ho1.cell? (i := q) (ints_get (by rw [tab_length]; omega))
    have hgt : (redR N (betF ls) (valF ls) q (fd d)).1.getD q 0 = x q := by rw [hre.eq]; exact tab_getD (by omega) 0
    rw [tab_getD (by omega)] at co
    generalize x q = xq at co hxb hgt
    have HGT := Lib.hid hgt; clear hgt hre ho1 ho2
    by_cases hx : 0 < xq
    · have hd : decide (0 < xq) = true := by simpa using hx
      go_wp2_with fail
      refine (l1Most_any _ _ _).mono ?_
      rintro e w' ⟨rfl, rfl⟩
      go_wp2_with fail
      go_ret2
      exact RetIB.of (hR.out.trans (by rw [HGT.out]; exact lack_eq (by unfold lackZ mostZ; split <;> split <;> omega))) (ball hb1 hb2)
    · have hd : decide (0 < xq) = false := by simpa using hx
      go_wp2_with fail
      refine (l1Most_any _ _ _).mono ?_
      rintro e w' ⟨rfl, rfl⟩
      go_wp2_with fail
      go_ret2
      exact RetIB.of (hR.out.trans (by rw [HGT.out]; exact lack_eq (by unfold lackZ mostZ; split <;> split <;> omega))) (ball hb1 hb2)

set_option maxHeartbeats 1600000 in
set_option maxRecDepth 100000 in
theorem implLack_c (n : Int) (adl : Option Addr) (capl : Nat) (ls : List Lk) (a : Addr) (cap : Nat) (d : List Int) (q : Int) (w : World) (hl : ls.length ≤ 1048576) (hr : RdL w adl ls) (hl' : d.length ≤ 1048576) (hr' : RdI w (some a) d) :
    Calls Try.prog 32 #[.int .i64 n, .slice adl ls.length capl, .slice (some a) d.length cap, .int .i64 q] w (RetIB (lackingR n ls d q) w) := by
  by_cases hg : goodL n ls = true
  case neg =>
    have hg' := Bool.eq_false_iff.2 hg
    have hR := Lib.hid (show lackingR n ls d q = (0, false) from if_neg (fun h => hg (gameB_t (askB_t h).1).1))
    go_enter Try.func32, Try.ntmps32
    go_wp2_with fail
    refine (gameAt_no n adl capl ls _ _ _ hl hr hg').mono ?_
    rintro e w1 ⟨rfl, hb1⟩
    go_wp2
    go_ret2
    exact RetIB.of hR.out hb1
  case pos =>
    have HG := Lib.hid hg
    by_cases hk : askB n ls d q = true
    case neg =>
      have hk' := Bool.eq_false_iff.2 hk
      have hR := Lib.hid (show lackingR n ls d q = (0, false) from if_neg (fun h => hk h))
      go_enter Try.func32, Try.ntmps32
      go_wp2_with fail
      refine (gameAt_any n adl capl ls (some a) cap d q _ hl hr hl' hr' HG.out).mono ?_
      rw [hk']
      rintro e w1 ⟨G, gb, gv, capb, rb, rfl, hG, hGB, hGV, hb1⟩
      clear hG
      go_wp2
      go_ret2
      exact RetIB.of hR.out hb1
    case pos =>
      obtain ⟨hgm, hq0, hq1⟩ := askB_t hk
      obtain ⟨_, hc, hdl, hda⟩ := gameB_t hgm
      obtain ⟨hn1, hn2⟩ := good_n hg
      obtain ⟨N, rfl⟩ : ∃ N : Nat, n = N := ⟨n.toNat, by omega⟩
      obtain ⟨q, rfl⟩ : ∃ k : Nat, q = k := ⟨q.toNat, by omega⟩
      have hdN : d.length = N := by omega
      have HD := Lib.hid (ask_bd hdN hda); clear hda
      have HC := Lib.hid hc; clear hc
      have hasked := fun w => gameAt_any N adl capl ls (some a) cap d q w hl
      rw [hk] at hasked
      rw [hdN] at hasked ⊢
      have HA := Lib.hid hasked; clear hasked
      have HK := Lib.hid hk
      have HDN := Lib.hid hdN; clear hdN hdl hk hg
      have hR := Lib.hid (show lackingR N ls d q = (lackZ ((redR N (betF ls) (valF ls) q (fd d)).1.getD q 0), true) from if_pos HK.out)
      have HGRR := Lib.hid (gr_of (N := N) rfl HG.out)
      go_enter Try.func32, Try.ntmps32
      go_wp2_with fail
      refine (HA.out _ hr (by rw [← HDN.out]; exact hl') hr' HG.out).mono ?_
      rintro e w1 ⟨G, gb, gv, capb, rb, rfl, hG, hGB, hGV, hb1⟩
      rw [Int.toNat_natCast] at hG
      have HGR := Lib.hid hG; clear hG
      go_wp2_with fail
      refine (reduce_any G gb gv capb rb N ls q a cap d _ HGR.out HG.out HC.out (by omega) HDN.out (hr'.below hb1) HD.out).mono ?_
      rintro e w2 ⟨x, y, g, cp, gt, hre, rfl, hg1, hg2, ho1, ho2, hb2⟩
      have hxb := red_q HGRR.out (by omega) (by omega) hre HD.out
      have co := ho1.cell? (i := q) (ints_get (by rw [tab_length]; omega))
      have hgt : (redR N (betF ls) (valF ls) q (fd d)).1.getD q 0 = x q := by rw [hre.eq]; exact tab_getD (by omega) 0
      rw [tab_getD (by omega)] at co
      generalize x q = xq at co hxb hgt
      have HGT := Lib.hid hgt; clear hgt hre ho1 ho2
      by_cases hx : 0 < xq
      · have hd : decide (0 < xq) = true := by simpa using hx
        go_wp2_with fail
        all_goals go_ret2
        all_goals exact RetIB.of (hR.out.trans (by rw [HGT.out]; exact lack_eq (by unfold lackZ; split <;> omega))) (ball hb1 hb2)
      · have hd : decide (0 < xq) = false := by simpa using hx
        go_wp2_with fail
        all_goals go_ret2
        all_goals exact RetIB.of (hR.out.trans (by rw [HGT.out]; exact lack_eq (by unfold lackZ; split <;> omega))) (ball hb1 hb2)

set_option maxHeartbeats 1600000 in
set_option maxRecDepth 100000 in
theorem specWin_c (n : Int) (adl : Option Addr) (capl : Nat) (ls : List Lk) (a : Addr) (cap : Nat) (d : List Int) (w : World) (hl : ls.length ≤ 1048576) (hr : RdL w adl ls) (hl' : d.length ≤ 1048576) (hr' : RdI w (some a) d) :
    Calls Try.prog 28 #[.int .i64 n, .slice adl ls.length capl, .slice (some a) d.length cap] w (RetBB (isWinnableR n ls d) w) := by
  by_cases hk : askB n ls d 0 = true
  case neg =>
    have hk' := Bool.eq_false_iff.2 hk
    have hR := Lib.hid (show isWinnableR n ls d = (false, false) from if_neg (fun h => hk h))
    go_enter Try.func28, Try.ntmps28
    go_wp2_with fail
    refine (rdAsked_any n adl capl ls (some a) cap d 0 _ hl hr hl' hr').mono ?_
    rw [hk']
    rintro e w1 ⟨rfl, hb1⟩
    go_wp2
    go_ret2
    exact RetBB.of hR.out hb1
  case pos =>
    obtain ⟨hgm, hq0, hq1⟩ := askB_t hk
    obtain ⟨hg, hc, hdl, hda⟩ := gameB_t hgm
    obtain ⟨hn1, hn2⟩ := good_n hg
    obtain ⟨N, rfl⟩ : ∃ N : Nat, n = N := ⟨n.toNat, by omega⟩
    have hdN : d.length = N := by omega
    have HD := Lib.hid (ask_bd hdN hda); clear hda
    have HG := Lib.hid hg
    have HC := Lib.hid hc; clear hc
    have hasked := fun w => rdAsked_any N adl capl ls (some a) cap d 0 w hl
    rw [hk] at hasked
    rw [hdN] at hasked ⊢
    have HA := Lib.hid hasked; clear hasked
    have HK := Lib.hid hk
    have HDN := Lib.hid hdN; clear hdN hdl hgm hk hg
    have hR := Lib.hid (show isWinnableR N ls d = (winB N ls d, true) from if_pos HK.out)
    go_enter Try.func28, Try.ntmps28
    go_wp2_with fail
    refine (HA.out _ hr (by rw [← HDN.out]; exact hl') hr').mono ?_
    rintro e w1 ⟨rfl, hb1⟩
    go_wp2_with fail
    refine (rdWins_any N adl capl ls a cap d _ hl (hr.below hb1) HG.out HC.out HDN.out (hr'.below hb1) HD.out).mono ?_
    rintro e w2 ⟨rfl, hb2⟩
    go_wp2_with fail
    go_ret2
    exact RetBB.of hR.out (ball hb1 hb2)

set_option maxHeartbeats 1600000 in
set_option maxRecDepth 100000 in
theorem implWin_c (n : Int) (adl : Option Addr) (capl : Nat) (ls : List Lk) (a : Addr) (cap : Nat) (d : List Int) (w : World) (hl : ls.length ≤ 1048576) (hr : RdL w adl ls) (hl' : d.length ≤ 1048576) (hr' : RdI w (some a) d) :
    Calls Try.prog 27 #[.int .i64 n, .slice adl ls.length capl, .slice (some a) d.length cap] w (RetBB (isWinnableR n ls d) w) := by
  by_cases hg : goodL n ls = true
  case neg =>
    have hg' := Bool.eq_false_iff.2 hg
    have hR := Lib.hid (show isWinnableR n ls d = (false, false) from if_neg (fun h => hg (gameB_t (askB_t h).1).1))
    go_enter Try.func27, Try.ntmps27
    go_wp2_with fail
    refine (game_no n adl capl ls _ _ hl hr hg').mono ?_
    rintro e w1 ⟨rfl, hb1⟩
    go_wp2
    go_ret2
    exact RetBB.of hR.out hb1
  case pos =>
    have HG := Lib.hid hg
    by_cases hk : askB n ls d 0 = true
    case neg =>
      have hk' := Bool.eq_false_iff.2 hk
      have hR := Lib.hid (show isWinnableR n ls d = (false, false) from if_neg (fun h => hk h))
      rw [ask_zero hg] at hk'
      go_enter Try.func27, Try.ntmps27
      go_wp2_with fail
      refine (game_any n adl capl ls (some a) cap d _ hl hr hl' hr' HG.out).mono ?_
      rw [hk']
      rintro e w1 ⟨G, gb, gv, capb, rb, rfl, hG, hGB, hGV, hb1⟩
      clear hG
      go_wp2
      go_ret2
      exact RetBB.of hR.out hb1
    case pos =>
      obtain ⟨hgm, hq0, hq1⟩ := askB_t hk
      obtain ⟨_, hc, hdl, hda⟩ := gameB_t hgm
      obtain ⟨hn1, hn2⟩ := good_n hg
      obtain ⟨N, rfl⟩ : ∃ N : Nat, n = N := ⟨n.toNat, by omega⟩
      have hdN : d.length = N := by omega
      have HD := Lib.hid (ask_bd hdN hda); clear hda
      have HC := Lib.hid hc; clear hc
      have hasked := fun w => game_any N adl capl ls (some a) cap d w hl
      rw [hgm] at hasked
      rw [hdN] at hasked ⊢
      have HA := Lib.hid hasked; clear hasked
      have HK := Lib.hid hk
      have HDN := Lib.hid hdN; clear hdN hdl hk hg
      have hR := Lib.hid (show isWinnableR N ls d = (winB N ls d, true) from if_pos HK.out)
      go_enter Try.func27, Try.ntmps27
      go_wp2_with fail
      refine (HA.out _ hr (by rw [← HDN.out]; exact hl') hr' HG.out).mono ?_
      rintro e w1 ⟨G, gb, gv, capb, rb, rfl, hG, hGB, hGV, hb1⟩
      rw [Int.toNat_natCast] at hG
      have HGR := Lib.hid hG; clear hG
      go_wp2_with fail
      refine (isWin_any G gb gv capb rb N ls a cap d _ HGR.out HG.out HC.out HDN.out (hr'.below hb1) HD.out).mono ?_
      rintro e w2 ⟨rfl, hb2⟩
      go_wp2_with fail
      go_ret2
      exact RetBB.of hR.out (ball hb1 hb2)

set_option maxHeartbeats 1600000 in
set_option maxRecDepth 100000 in
theorem specWon_c (n : Int) (adl : Option Addr) (capl : Nat) (ls : List Lk) (a : Addr) (cap : Nat) (d : List Int) (w : World) (hl : ls.length ≤ 1048576) (hr : RdL w adl ls) (hl' : d.length ≤ 1048576) (hr' : RdI w (some a) d) :
    Calls Try.prog 30 #[.int .i64 n, .slice adl ls.length capl, .slice (some a) d.length cap] w (RetLB (wonR n ls d) w) := by
  by_cases hk : askB n ls d 0 = true
  case neg =>
    have hk' := Bool.eq_false_iff.2 hk
    have hR := Lib.hid (show wonR n ls d = ([], false) from if_neg (fun h => hk h.1))
    go_enter Try.func30, Try.ntmps30
    go_wp2_with fail
    refine (rdAsked_any n adl capl ls (some a) cap d 0 _ hl hr hl' hr').mono ?_
    rw [hk']
    rintro e w1 ⟨rfl, hb1⟩
    go_wp2
    go_ret2
    exact RetLB.no hR.out hb1
  case pos =>
    obtain ⟨hgm, hq0, hq1⟩ := askB_t hk
    obtain ⟨hg, hc, hdl, hda⟩ := gameB_t hgm
    obtain ⟨hn1, hn2⟩ := good_n hg
    obtain ⟨N, rfl⟩ : ∃ N : Nat, n = N := ⟨n.toNat, by omega⟩
    have hdN : d.length = N := by omega
    have HD := Lib.hid (ask_bd hdN hda); clear hda
    have HG := Lib.hid hg
    have HC := Lib.hid hc; clear hc
    have hasked := fun w => rdAsked_any N adl capl ls (some a) cap d 0 w hl
    rw [hk] at hasked
    rw [hdN] at hasked ⊢
    have HA := Lib.hid hasked; clear hasked
    have HK := Lib.hid hk
    have HDN := Lib.hid hdN; clear hdN hdl hgm hk hg
    have hwb : ∃ wb, winB N ls d = wb := ⟨_, rfl⟩
    obtain ⟨wb, hwb⟩ := hwb
    have HWB := Lib.hid hwb; clear hwb
    cases wb
    case false =>
      have hR := Lib.hid (show wonR N ls d = ([], false) from if_neg (fun h => by rw [HWB.out] at h; cases h.2))
      go_enter Try.func30, Try.ntmps30
      go_wp2_with fail
      refine (HA.out _ hr (by rw [← HDN.out]; exact hl') hr').mono ?_
      rintro e w1 ⟨rfl, hb1⟩
      go_wp2_with fail
      refine (rdWins_any N adl capl ls a cap d _ hl (hr.below hb1) HG.out HC.out HDN.out (hr'.below hb1) HD.out).mono ?_
      rw [HWB.out]
      rintro e w2 ⟨rfl, hb2⟩
      go_wp2_with fail
      go_ret2
      exact RetLB.no hR.out (ball hb1 hb2)
    case true =>
      have hR := Lib.hid (show wonR N ls d = ((redR N (betF ls) (valF ls) 0 (fd d)).1, true) from if_pos ⟨HK.out, HWB.out⟩)
      go_enter Try.func30, Try.ntmps30
      go_wp2_with fail
      refine (HA.out _ hr (by rw [← HDN.out]; exact hl') hr').mono ?_
      rintro e w1 ⟨rfl, hb1⟩
      go_wp2_with fail
      refine (rdWins_any N adl capl ls a cap d _ hl (hr.below hb1) HG.out HC.out HDN.out (hr'.below hb1) HD.out).mono ?_
      rw [HWB.out]
      rintro e w2 ⟨rfl, hb2⟩
      have hred := rdReduce_any N adl capl ls 0 a cap d w2 hl (hr.below (ball hb1 hb2)) HG.out HC.out (by omega) HDN.out (hr'.below (ball hb1 hb2)) HD.out
      rw [show ((0 : Nat) : Int) = 0 from rfl] at hred
      have HRED := Lib.hid hred; clear hred
      go_wp2_with fail
      refine HRED.out.mono ?_
      rintro e w3 ⟨x, y, g, cp, gt, hre, rfl, hg1, hg2, ho1, ho2, hb3⟩
      have HRE := Lib.hid hre.eq; clear hre
      have HO := Lib.hid ho1; clear ho1 ho2
      have hz := Nat.le_trans hb1.size hb2.size
      go_wp2_with fail
      go_ret2
      exact RetLB.of (hR.out.trans (by rw [HRE.out])) (Or.inr ⟨g, cp, by rw [tab_length]; rfl, by omega, HO.out⟩) (ball (ball hb1 hb2) hb3)

set_option maxHeartbeats 1600000 in
set_option maxRecDepth 100000 in
theorem implWon_c (n : Int) (adl : Option Addr) (capl : Nat) (ls : List Lk) (a : Addr) (cap : Nat) (d : List Int) (w : World) (hl : ls.length ≤ 1048576) (hr : RdL w adl ls) (hl' : d.length ≤ 1048576) (hr' : RdI w (some a) d) :
    Calls Try.prog 29 #[.int .i64 n, .slice adl ls.length capl, .slice (some a) d.length cap] w (RetLB (wonR n ls d) w) := by
  by_cases hg : goodL n ls = true
  case neg =>
    have hg' := Bool.eq_false_iff.2 hg
    have hR := Lib.hid (show wonR n ls d = ([], false) from if_neg (fun h => hg (gameB_t (askB_t h.1).1).1))
    go_enter Try.func29, Try.ntmps29
    go_wp2_with fail
    refine (game_no n adl capl ls _ _ hl hr hg').mono ?_
    rintro e w1 ⟨rfl, hb1⟩
    go_wp2
    go_ret2
    exact RetLB.no hR.out hb1
  case pos =>
    have HG := Lib.hid hg
    by_cases hk : askB n ls d 0 = true
    case neg =>
      have hk' := Bool.eq_false_iff.2 hk
      have hR := Lib.hid (show wonR n ls d = ([], false) from if_neg (fun h => hk h.1))
      rw [ask_zero hg] at hk'
      go_enter Try.func29, Try.ntmps29
      go_wp2_with fail
      refine (game_any n adl capl ls (some a) cap d _ hl hr hl' hr' HG.out).mono ?_
      rw [hk']
      rintro e w1 ⟨G, gb, gv, capb, rb, rfl, hG, hGB, hGV, hb1⟩
      clear hG
      go_wp2
      go_ret2
      exact RetLB.no hR.out hb1
    case pos =>
      obtain ⟨hgm, hq0, hq1⟩ := askB_t hk
      obtain ⟨_, hc, hdl, hda⟩ := gameB_t hgm
      obtain ⟨hn1, hn2⟩ := good_n hg
      obtain ⟨N, rfl⟩ : ∃ N : Nat, n = N := ⟨n.toNat, by omega⟩
      have hdN : d.length = N := by omega
      have HD := Lib.hid (ask_bd hdN hda); clear hda
      have HC := Lib.hid hc; clear hc
      have hasked := fun w => game_any N adl capl ls (some a) cap d w hl
      rw [hgm] at hasked
      rw [hdN] at hasked ⊢
      have HA := Lib.hid hasked; clear hasked
      have HK := Lib.hid hk
      have HDN := Lib.hid hdN; clear hdN hdl hk hg
      have hwb : ∃ wb, winB N ls d = wb := ⟨_, rfl⟩
      obtain ⟨wb, hwb⟩ := hwb
      have HWB := Lib.hid hwb; clear hwb
      cases wb
      case false =>
        have hR := Lib.hid (show wonR N ls d = ([], false) from if_neg (fun h => by rw [HWB.out] at h; cases h.2))
        go_enter Try.func29, Try.ntmps29
        go_wp2_with fail
        refine (HA.out _ hr (by rw [← HDN.out]; exact hl') hr' HG.out).mono ?_
        rintro e w1 ⟨G, gb, gv, capb, rb, rfl, hG, hGB, hGV, hb1⟩
        rw [Int.toNat_natCast] at hG
        have HGR := Lib.hid hG; clear hG
        go_wp2_with fail
        refine (isWin_any G gb gv capb rb N ls a cap d _ HGR.out HG.out HC.out HDN.out (hr'.below hb1) HD.out).mono ?_
        rw [HWB.out]
        rintro e w2 ⟨rfl, hb2⟩
        go_wp2_with fail
        go_ret2
        exact RetLB.no hR.out (ball hb1 hb2)
      case true =>
        have hR := Lib.hid (show wonR N ls d = ((redR N (betF ls) (valF ls) 0 (fd d)).1, true) from if_pos ⟨HK.out, HWB.out⟩)
        go_enter Try.func29, Try.ntmps29
        go_wp2_with fail
        refine (HA.out _ hr (by rw [← HDN.out]; exact hl') hr' HG.out).mono ?_
        rintro e w1 ⟨G, gb, gv, capb, rb, rfl, hG, hGB, hGV, hb1⟩
        rw [Int.toNat_natCast] at hG
        have HGR := Lib.hid hG; clear hG
        go_wp2_with fail
        refine (isWin_any G gb gv capb rb N ls a cap d _ HGR.out HG.out HC.out HDN.out (hr'.below hb1) HD.out).mono ?_
        rw [HWB.out]
        rintro e w2 ⟨rfl, hb2⟩
        have hred := reduce_any G gb gv capb rb N ls 0 a cap d w2 (HGR.out.below hb2) HG.out HC.out (by omega) HDN.out (hr'.below (ball hb1 hb2)) HD.out
        rw [show ((0 : Nat) : Int) = 0 from rfl] at hred
        have HRED := Lib.hid hred; clear hred
        go_wp2_with fail
        refine HRED.out.mono ?_
        rintro e w3 ⟨x, y, g, cp, gt, hre, rfl, hg1, hg2, ho1, ho2, hb3⟩
        have HRE := Lib.hid hre.eq; clear hre
        have HO := Lib.hid ho1; clear ho1 ho2
        have hz := Nat.le_trans hb1.size hb2.size
        go_wp2_with fail
        go_ret2
        exact RetLB.of (hR.out.trans (by rw [HRE.out])) (Or.inr ⟨g, cp, by rw [tab_length]; rfl, by omega, HO.out⟩) (ball (ball hb1 hb2) hb3)

end Go.Proofs.Ytmhmdbmiimpbnaa
