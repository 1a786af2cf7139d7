/-
  The games' exported functions for chips whose slice may be nil. Printed by gen_nil.py.
-/
import Derived.Test.YtmhmdbmiimpbnaaChipH
import Derived.Test.YtmhmdbmiimpbnaaSetP
namespace Go.Proofs.Ytmhmdbmiimpbnaa
open Go.RowKit

theorem rd_some {w : World} {ad : Option Addr} {d : List Int} (h : RdI w ad d) (h0 : 0 < d.length) : ∃ a, ad = some a := by
  obtain ⟨b, off, e, _⟩ := h 0 h0
  exact ⟨_, e⟩
theorem ask_pos {n : Int} {ls : List Lk} {d : List Int} {q : Int} (h : askB n ls d q = true) : 0 < d.length := by
  obtain ⟨g, hn1, hn2, hq0, hq1, hl, hg, hc, hgm⟩ := ask_gr h
  omega

set_option maxHeartbeats 800000 in
theorem specWin_o (n : Int) (adl : Option Addr) (capl : Nat) (ls : List Lk) (ad : Option Addr) (cap : Nat) (d : List Int) (w : World) (hl : ls.length ≤ 1048576) (hr : RdL w adl ls) (hl' : d.length ≤ 1048576) (hr' : RdI w ad d) :
    Calls Try.prog 28 #[.int .i64 n, .slice adl ls.length capl, .slice ad d.length cap] w (RetBB (isWinnableR n ls d) w) := by
  by_cases hk : askB n ls d 0 = true
  case pos =>
    obtain ⟨a, rfl⟩ := rd_some hr' (ask_pos hk)
    exact specWin_c n adl capl ls a cap d w hl hr hl' hr'
  case neg =>
    have hk' := Bool.eq_false_iff.2 hk
    have hR := Lib.hid (show isWinnableR n ls d = (false, false) from if_neg (hk))
    go_enter Try.func28, Try.ntmps28
    go_wp2_with fail
    refine (rdAsked_any n adl capl ls ad cap d 0 _ hl hr hl' hr').mono ?_
    rw [hk']
    rintro e w1 ⟨rfl, hb1⟩
    go_wp2_with fail
    go_ret2
    exact RetBB.of hR.out hb1

set_option maxHeartbeats 800000 in
theorem specWon_o (n : Int) (adl : Option Addr) (capl : Nat) (ls : List Lk) (ad : Option Addr) (cap : Nat) (d : List Int) (w : World) (hl : ls.length ≤ 1048576) (hr : RdL w adl ls) (hl' : d.length ≤ 1048576) (hr' : RdI w ad d) :
    Calls Try.prog 30 #[.int .i64 n, .slice adl ls.length capl, .slice ad d.length cap] w (RetLB (wonR n ls d) w) := by
  by_cases hk : askB n ls d 0 = true
  case pos =>
    obtain ⟨a, rfl⟩ := rd_some hr' (ask_pos hk)
    exact specWon_c n adl capl ls a cap d w hl hr hl' hr'
  case neg =>
    have hk' := Bool.eq_false_iff.2 hk
    have hR := Lib.hid (show wonR n ls d = ([], false) from if_neg (fun h => hk h.1))
    go_enter Try.func30, Try.ntmps30
    go_wp2_with fail
    refine (rdAsked_any n adl capl ls ad cap d 0 _ hl hr hl' hr').mono ?_
    rw [hk']
    rintro e w1 ⟨rfl, hb1⟩
    go_wp2_with fail
    go_ret2
    exact RetLB.no hR.out hb1

set_option maxHeartbeats 800000 in
theorem specLack_o (n : Int) (adl : Option Addr) (capl : Nat) (ls : List Lk) (ad : Option Addr) (cap : Nat) (d : List Int) (q : Int) (w : World) (hl : ls.length ≤ 1048576) (hr : RdL w adl ls) (hl' : d.length ≤ 1048576) (hr' : RdI w ad d) :
    Calls Try.prog 33 #[.int .i64 n, .slice adl ls.length capl, .slice ad d.length cap, .int .i64 q] w (RetIB (lackingR n ls d q) w) := by
  by_cases hk : askB n ls d q = true
  case pos =>
    obtain ⟨a, rfl⟩ := rd_some hr' (ask_pos hk)
    exact specLack_c n adl capl ls a cap d q w hl hr hl' hr'
  case neg =>
    have hk' := Bool.eq_false_iff.2 hk
    have hR := Lib.hid (show lackingR n ls d q = (0, false) from if_neg (hk))
    go_enter Try.func33, Try.ntmps33
    go_wp2_with fail
    refine (rdAsked_any n adl capl ls ad cap d q _ hl hr hl' hr').mono ?_
    rw [hk']
    rintro e w1 ⟨rfl, hb1⟩
    go_wp2_with fail
    go_ret2
    exact RetIB.of hR.out hb1

set_option maxHeartbeats 800000 in
theorem specChips_o (n : Int) (adl : Option Addr) (capl : Nat) (ls : List Lk) (ad : Option Addr) (cap : Nat) (d : List Int) (q : Int) (w : World) (hl : ls.length ≤ 1048576) (hr : RdL w adl ls) (hl' : d.length ≤ 1048576) (hr' : RdI w ad d) :
    Calls Try.prog 41 #[.int .i64 n, .slice adl ls.length capl, .slice ad d.length cap, .int .i64 q] w (RetLB (reduceChipsR n ls d q) w) := by
  by_cases hk : askB n ls d q = true
  case pos =>
    obtain ⟨a, rfl⟩ := rd_some hr' (ask_pos hk)
    exact specChips_c n adl capl ls a cap d q w hl hr hl' hr'
  case neg =>
    have hk' := Bool.eq_false_iff.2 hk
    have hR := Lib.hid (show reduceChipsR n ls d q = ([], false) from if_neg (hk))
    go_enter Try.func41, Try.ntmps41
    go_wp2_with fail
    refine (rdAsked_any n adl capl ls ad cap d q _ hl hr hl' hr').mono ?_
    rw [hk']
    rintro e w1 ⟨rfl, hb1⟩
    go_wp2_with fail
    go_ret2
    exact RetLB.no hR.out hb1

set_option maxHeartbeats 800000 in
theorem specScript_o (n : Int) (adl : Option Addr) (capl : Nat) (ls : List Lk) (ad : Option Addr) (cap : Nat) (d : List Int) (q : Int) (w : World) (hl : ls.length ≤ 1048576) (hr : RdL w adl ls) (hl' : d.length ≤ 1048576) (hr' : RdI w ad d) :
    Calls Try.prog 43 #[.int .i64 n, .slice adl ls.length capl, .slice ad d.length cap, .int .i64 q] w (RetLB (reducingScriptR n ls d q) w) := by
  by_cases hk : askB n ls d q = true
  case pos =>
    obtain ⟨a, rfl⟩ := rd_some hr' (ask_pos hk)
    exact specScript_c n adl capl ls a cap d q w hl hr hl' hr'
  case neg =>
    have hk' := Bool.eq_false_iff.2 hk
    have hR := Lib.hid (show reducingScriptR n ls d q = ([], false) from if_neg (hk))
    go_enter Try.func43, Try.ntmps43
    go_wp2_with fail
    refine (rdAsked_any n adl capl ls ad cap d q _ hl hr hl' hr').mono ?_
    rw [hk']
    rintro e w1 ⟨rfl, hb1⟩
    go_wp2_with fail
    go_ret2
    exact RetLB.no hR.out hb1

set_option maxHeartbeats 800000 in
theorem specBurnt_o (n : Int) (adl : Option Addr) (capl : Nat) (ls : List Lk) (ad : Option Addr) (cap : Nat) (d : List Int) (q : Int) (w : World) (hl : ls.length ≤ 1048576) (hr : RdL w adl ls) (hl' : d.length ≤ 1048576) (hr' : RdI w ad d) :
    Calls Try.prog 49 #[.int .i64 n, .slice adl ls.length capl, .slice ad d.length cap, .int .i64 q] w (RetLB (burntR n ls d q) w) := by
  by_cases hk : askB n ls d q = true
  case pos =>
    obtain ⟨a, rfl⟩ := rd_some hr' (ask_pos hk)
    exact specBurnt_c n adl capl ls a cap d q w hl hr hl' hr'
  case neg =>
    have hk' := Bool.eq_false_iff.2 hk
    have hR := Lib.hid (show burntR n ls d q = ([], false) from if_neg (fun h => hk h.1))
    go_enter Try.func49, Try.ntmps49
    go_wp2_with fail
    refine (rdAsked_any n adl capl ls ad cap d q _ hl hr hl' hr').mono ?_
    rw [hk']
    rintro e w1 ⟨rfl, hb1⟩
    go_wp2_with fail
    go_ret2
    exact RetLB.no hR.out hb1

set_option maxHeartbeats 800000 in
theorem specReduced_o (n : Int) (adl : Option Addr) (capl : Nat) (ls : List Lk) (ad : Option Addr) (cap : Nat) (d : List Int) (q : Int) (w : World) (hl : ls.length ≤ 1048576) (hr : RdL w adl ls) (hl' : d.length ≤ 1048576) (hr' : RdI w ad d) :
    Calls Try.prog 47 #[.int .i64 n, .slice adl ls.length capl, .slice ad d.length cap, .int .i64 q] w (RetBB (reducedR n ls d q) w) := by
  by_cases hk : askB n ls d q = true
  case pos =>
    obtain ⟨a, rfl⟩ := rd_some hr' (ask_pos hk)
    exact specReduced_c n adl capl ls a cap d q w hl hr hl' hr'
  case neg =>
    have hk' := Bool.eq_false_iff.2 hk
    have hR := Lib.hid (show reducedR n ls d q = (false, false) from if_neg (hk))
    go_enter Try.func47, Try.ntmps47
    go_wp2_with fail
    refine (rdAsked_any n adl capl ls ad cap d q _ hl hr hl' hr').mono ?_
    rw [hk']
    rintro e w1 ⟨rfl, hb1⟩
    go_wp2_with fail
    go_ret2
    exact RetBB.of hR.out hb1

set_option maxHeartbeats 800000 in
theorem specSets_o (n : Int) (adl : Option Addr) (capl : Nat) (ls : List Lk) (ad : Option Addr) (cap : Nat) (d : List Int) (q : Int) (w : World) (hl : ls.length ≤ 1048576) (hr : RdL w adl ls) (hl' : d.length ≤ 1048576) (hr' : RdI w ad d) :
    Calls Try.prog 51 #[.int .i64 n, .slice adl ls.length capl, .slice ad d.length cap, .int .i64 q] w (RetRB (legalSetsR n ls d q) w) := by
  by_cases hk : askB n ls d q = true
  case pos =>
    obtain ⟨a, rfl⟩ := rd_some hr' (ask_pos hk)
    exact specSets_c n adl capl ls a cap d q w hl hr hl' hr'
  case neg =>
    have hk' := Bool.eq_false_iff.2 hk
    have hR := Lib.hid (show legalSetsR n ls d q = ([], false) from if_neg (fun h => hk h.1))
    go_enter Try.func51, Try.ntmps51
    go_wp2_with fail
    refine (rdAsked_any n adl capl ls ad cap d q _ hl hr hl' hr').mono ?_
    rw [hk']
    rintro e w1 ⟨rfl, hb1⟩
    go_wp2_with fail
    go_ret2
    exact RetRB.no hR.out hb1

set_option maxHeartbeats 800000 in
theorem implWin_o (n : Int) (adl : Option Addr) (capl : Nat) (ls : List Lk) (ad : Option Addr) (cap : Nat) (d : List Int) (w : World) (hl : ls.length ≤ 1048576) (hr : RdL w adl ls) (hl' : d.length ≤ 1048576) (hr' : RdI w ad d) :
    Calls Try.prog 27 #[.int .i64 n, .slice adl ls.length capl, .slice ad d.length cap] w (RetBB (isWinnableR n ls d) w) := by
  by_cases hk : askB n ls d 0 = true
  case pos =>
    obtain ⟨a, rfl⟩ := rd_some hr' (ask_pos hk)
    exact implWin_c n adl capl ls a cap d w hl hr hl' hr'
  case neg =>
    have hk' := Bool.eq_false_iff.2 hk
    have hR := Lib.hid (show isWinnableR n ls d = (false, false) from if_neg (hk))
    by_cases hg : goodL n ls = true
    case pos =>
      have HG := Lib.hid hg
      rw [ask_zero hg] at hk'
      clear hk hg
      go_enter Try.func27, Try.ntmps27
      go_wp2_with fail
      refine (game_any n adl capl ls ad cap d _ hl hr hl' hr' HG.out).mono ?_
      rw [hk']
      rintro e w1 ⟨G, gb, gv, capb, rb, rfl, hG, hGB, hGV, hb1⟩
      clear hG
      go_wp2_with fail
      go_ret2
      exact RetBB.of hR.out hb1
    case neg =>
      have hg' := Bool.eq_false_iff.2 hg
      go_enter Try.func27, Try.ntmps27
      go_wp2_with fail
      refine (game_no n adl capl ls _ _ hl hr hg').mono ?_
      rintro e w1 ⟨rfl, hb1⟩
      go_wp2_with fail
      go_ret2
      exact RetBB.of hR.out hb1

set_option maxHeartbeats 800000 in
theorem implWon_o (n : Int) (adl : Option Addr) (capl : Nat) (ls : List Lk) (ad : Option Addr) (cap : Nat) (d : List Int) (w : World) (hl : ls.length ≤ 1048576) (hr : RdL w adl ls) (hl' : d.length ≤ 1048576) (hr' : RdI w ad d) :
    Calls Try.prog 29 #[.int .i64 n, .slice adl ls.length capl, .slice ad d.length cap] w (RetLB (wonR n ls d) w) := by
  by_cases hk : askB n ls d 0 = true
  case pos =>
    obtain ⟨a, rfl⟩ := rd_some hr' (ask_pos hk)
    exact implWon_c n adl capl ls a cap d w hl hr hl' hr'
  case neg =>
    have hk' := Bool.eq_false_iff.2 hk
    have hR := Lib.hid (show wonR n ls d = ([], false) from if_neg (fun h => hk h.1))
    by_cases hg : goodL n ls = true
    case pos =>
      have HG := Lib.hid hg
      rw [ask_zero hg] at hk'
      clear hk hg
      go_enter Try.func29, Try.ntmps29
      go_wp2_with fail
      refine (game_any n adl capl ls ad cap d _ hl hr hl' hr' HG.out).mono ?_
      rw [hk']
      rintro e w1 ⟨G, gb, gv, capb, rb, rfl, hG, hGB, hGV, hb1⟩
      clear hG
      go_wp2_with fail
      go_ret2
      exact RetLB.no hR.out hb1
    case neg =>
      have hg' := Bool.eq_false_iff.2 hg
      go_enter Try.func29, Try.ntmps29
      go_wp2_with fail
      refine (game_no n adl capl ls _ _ hl hr hg').mono ?_
      rintro e w1 ⟨rfl, hb1⟩
      go_wp2_with fail
      go_ret2
      exact RetLB.no hR.out hb1

set_option maxHeartbeats 800000 in
theorem implLack_o (n : Int) (adl : Option Addr) (capl : Nat) (ls : List Lk) (ad : Option Addr) (cap : Nat) (d : List Int) (q : Int) (w : World) (hl : ls.length ≤ 1048576) (hr : RdL w adl ls) (hl' : d.length ≤ 1048576) (hr' : RdI w ad d) :
    Calls Try.prog 32 #[.int .i64 n, .slice adl ls.length capl, .slice ad d.length cap, .int .i64 q] w (RetIB (lackingR n ls d q) w) := by
  by_cases hk : askB n ls d q = true
  case pos =>
    obtain ⟨a, rfl⟩ := rd_some hr' (ask_pos hk)
    exact implLack_c n adl capl ls a cap d q w hl hr hl' hr'
  case neg =>
    have hk' := Bool.eq_false_iff.2 hk
    have hR := Lib.hid (show lackingR n ls d q = (0, false) from if_neg (hk))
    by_cases hg : goodL n ls = true
    case pos =>
      have HG := Lib.hid hg
      clear hk hg
      go_enter Try.func32, Try.ntmps32
      go_wp2_with fail
      refine (gameAt_any n adl capl ls ad cap d q _ hl hr hl' hr' HG.out).mono ?_
      rw [hk']
      rintro e w1 ⟨G, gb, gv, capb, rb, rfl, hG, hGB, hGV, hb1⟩
      clear hG
      go_wp2_with fail
      go_ret2
      exact RetIB.of hR.out hb1
    case neg =>
      have hg' := Bool.eq_false_iff.2 hg
      go_enter Try.func32, Try.ntmps32
      go_wp2_with fail
      refine (gameAt_no n adl capl ls _ _ _ hl hr hg').mono ?_
      rintro e w1 ⟨rfl, hb1⟩
      go_wp2_with fail
      go_ret2
      exact RetIB.of hR.out hb1

set_option maxHeartbeats 800000 in
theorem implChips_o (n : Int) (adl : Option Addr) (capl : Nat) (ls : List Lk) (ad : Option Addr) (cap : Nat) (d : List Int) (q : Int) (w : World) (hl : ls.length ≤ 1048576) (hr : RdL w adl ls) (hl' : d.length ≤ 1048576) (hr' : RdI w ad d) :
    Calls Try.prog 40 #[.int .i64 n, .slice adl ls.length capl, .slice ad d.length cap, .int .i64 q] w (RetLB (reduceChipsR n ls d q) w) := by
  by_cases hk : askB n ls d q = true
  case pos =>
    obtain ⟨a, rfl⟩ := rd_some hr' (ask_pos hk)
    exact implChips_c n adl capl ls a cap d q w hl hr hl' hr'
  case neg =>
    have hk' := Bool.eq_false_iff.2 hk
    have hR := Lib.hid (show reduceChipsR n ls d q = ([], false) from if_neg (hk))
    by_cases hg : goodL n ls = true
    case pos =>
      have HG := Lib.hid hg
      clear hk hg
      go_enter Try.func40, Try.ntmps40
      go_wp2_with fail
      refine (gameAt_any n adl capl ls ad cap d q _ hl hr hl' hr' HG.out).mono ?_
      rw [hk']
      rintro e w1 ⟨G, gb, gv, capb, rb, rfl, hG, hGB, hGV, hb1⟩
      clear hG
      go_wp2_with fail
      go_ret2
      exact RetLB.no hR.out hb1
    case neg =>
      have hg' := Bool.eq_false_iff.2 hg
      go_enter Try.func40, Try.ntmps40
      go_wp2_with fail
      refine (gameAt_no n adl capl ls _ _ _ hl hr hg').mono ?_
      rintro e w1 ⟨rfl, hb1⟩
      go_wp2_with fail
      go_ret2
      exact RetLB.no hR.out hb1

set_option maxHeartbeats 800000 in
theorem implScript_o (n : Int) (adl : Option Addr) (capl : Nat) (ls : List Lk) (ad : Option Addr) (cap : Nat) (d : List Int) (q : Int) (w : World) (hl : ls.length ≤ 1048576) (hr : RdL w adl ls) (hl' : d.length ≤ 1048576) (hr' : RdI w ad d) :
    Calls Try.prog 42 #[.int .i64 n, .slice adl ls.length capl, .slice ad d.length cap, .int .i64 q] w (RetLB (reducingScriptR n ls d q) w) := by
  by_cases hk : askB n ls d q = true
  case pos =>
    obtain ⟨a, rfl⟩ := rd_some hr' (ask_pos hk)
    exact implScript_c n adl capl ls a cap d q w hl hr hl' hr'
  case neg =>
    have hk' := Bool.eq_false_iff.2 hk
    have hR := Lib.hid (show reducingScriptR n ls d q = ([], false) from if_neg (hk))
    by_cases hg : goodL n ls = true
    case pos =>
      have HG := Lib.hid hg
      clear hk hg
      go_enter Try.func42, Try.ntmps42
      go_wp2_with fail
      refine (gameAt_any n adl capl ls ad cap d q _ hl hr hl' hr' HG.out).mono ?_
      rw [hk']
      rintro e w1 ⟨G, gb, gv, capb, rb, rfl, hG, hGB, hGV, hb1⟩
      clear hG
      go_wp2_with fail
      go_ret2
      exact RetLB.no hR.out hb1
    case neg =>
      have hg' := Bool.eq_false_iff.2 hg
      go_enter Try.func42, Try.ntmps42
      go_wp2_with fail
      refine (gameAt_no n adl capl ls _ _ _ hl hr hg').mono ?_
      rintro e w1 ⟨rfl, hb1⟩
      go_wp2_with fail
      go_ret2
      exact RetLB.no hR.out hb1

set_option maxHeartbeats 800000 in
theorem implBurnt_o (n : Int) (adl : Option Addr) (capl : Nat) (ls : List Lk) (ad : Option Addr) (cap : Nat) (d : List Int) (q : Int) (w : World) (hl : ls.length ≤ 1048576) (hr : RdL w adl ls) (hl' : d.length ≤ 1048576) (hr' : RdI w ad d) :
    Calls Try.prog 48 #[.int .i64 n, .slice adl ls.length capl, .slice ad d.length cap, .int .i64 q] w (RetLB (burntR n ls d q) w) := by
  by_cases hk : askB n ls d q = true
  case pos =>
    obtain ⟨a, rfl⟩ := rd_some hr' (ask_pos hk)
    exact implBurnt_c n adl capl ls a cap d q w hl hr hl' hr'
  case neg =>
    have hk' := Bool.eq_false_iff.2 hk
    have hR := Lib.hid (show burntR n ls d q = ([], false) from if_neg (fun h => hk h.1))
    by_cases hg : goodL n ls = true
    case pos =>
      have HG := Lib.hid hg
      clear hk hg
      go_enter Try.func48, Try.ntmps48
      go_wp2_with fail
      refine (gameAt_any n adl capl ls ad cap d q _ hl hr hl' hr' HG.out).mono ?_
      rw [hk']
      rintro e w1 ⟨G, gb, gv, capb, rb, rfl, hG, hGB, hGV, hb1⟩
      clear hG
      go_wp2_with fail
      go_ret2
      exact RetLB.no hR.out hb1
    case neg =>
      have hg' := Bool.eq_false_iff.2 hg
      go_enter Try.func48, Try.ntmps48
      go_wp2_with fail
      refine (gameAt_no n adl capl ls _ _ _ hl hr hg').mono ?_
      rintro e w1 ⟨rfl, hb1⟩
      go_wp2_with fail
      go_ret2
      exact RetLB.no hR.out hb1

set_option maxHeartbeats 800000 in
theorem implReduced_o (n : Int) (adl : Option Addr) (capl : Nat) (ls : List Lk) (ad : Option Addr) (cap : Nat) (d : List Int) (q : Int) (w : World) (hl : ls.length ≤ 1048576) (hr : RdL w adl ls) (hl' : d.length ≤ 1048576) (hr' : RdI w ad d) :
    Calls Try.prog 45 #[.int .i64 n, .slice adl ls.length capl, .slice ad d.length cap, .int .i64 q] w (RetBB (reducedR n ls d q) w) := by
  by_cases hk : askB n ls d q = true
  case pos =>
    obtain ⟨a, rfl⟩ := rd_some hr' (ask_pos hk)
    exact implReduced_c n adl capl ls a cap d q w hl hr hl' hr'
  case neg =>
    have hk' := Bool.eq_false_iff.2 hk
    have hR := Lib.hid (show reducedR n ls d q = (false, false) from if_neg (hk))
    by_cases hg : goodL n ls = true
    case pos =>
      have HG := Lib.hid hg
      clear hk hg
      go_enter Try.func45, Try.ntmps45
      go_wp2_with fail
      refine (gameAt_any n adl capl ls ad cap d q _ hl hr hl' hr' HG.out).mono ?_
      rw [hk']
      rintro e w1 ⟨G, gb, gv, capb, rb, rfl, hG, hGB, hGV, hb1⟩
      clear hG
      go_wp2_with fail
      go_ret2
      exact RetBB.of hR.out hb1
    case neg =>
      have hg' := Bool.eq_false_iff.2 hg
      go_enter Try.func45, Try.ntmps45
      go_wp2_with fail
      refine (gameAt_no n adl capl ls _ _ _ hl hr hg').mono ?_
      rintro e w1 ⟨rfl, hb1⟩
      go_wp2_with fail
      go_ret2
      exact RetBB.of hR.out hb1

set_option maxHeartbeats 800000 in
theorem implSets_o (n : Int) (adl : Option Addr) (capl : Nat) (ls : List Lk) (ad : Option Addr) (cap : Nat) (d : List Int) (q : Int) (w : World) (hl : ls.length ≤ 1048576) (hr : RdL w adl ls) (hl' : d.length ≤ 1048576) (hr' : RdI w ad d) :
    Calls Try.prog 50 #[.int .i64 n, .slice adl ls.length capl, .slice ad d.length cap, .int .i64 q] w (RetRB (legalSetsR n ls d q) w) := by
  by_cases hk : askB n ls d q = true
  case pos =>
    obtain ⟨a, rfl⟩ := rd_some hr' (ask_pos hk)
    exact implSets_c n adl capl ls a cap d q w hl hr hl' hr'
  case neg =>
    have hk' := Bool.eq_false_iff.2 hk
    have hR := Lib.hid (show legalSetsR n ls d q = ([], false) from if_neg (fun h => hk h.1))
    have hb0 : Below w.heap.size w (((w.alloc (.cells #[.int .i64 n] 3)).alloc (.cells #[.slice ad d.length cap] 30)).alloc (.cells #[.int .i64 q] 3)) := (((Below.refl _ _).alloc (Nat.le_refl _) _).alloc (by simp) _).alloc (by simp; omega) _
    have o1 := ((Own.newA w #[.int .i64 n] 3 (cs := [.int .i64 n]) rfl).alloc (.cells #[.slice ad d.length cap] 30)).alloc (.cells #[.int .i64 q] 3)
    have o2 := (Own.newA (w.alloc (.cells #[.int .i64 n] 3)) #[.slice ad d.length cap] 30 (cs := [.slice ad d.length cap]) rfl).alloc (.cells #[.int .i64 q] 3)
    have o3 := Own.newA ((w.alloc (.cells #[.int .i64 n] 3)).alloc (.cells #[.slice ad d.length cap] 30)) #[.int .i64 q] 3 (cs := [.int .i64 q]) rfl
    simp only [World.size_alloc] at o2 o3
    have hsz0 : (((w.alloc (.cells #[.int .i64 n] 3)).alloc (.cells #[.slice ad d.length cap] 30)).alloc (.cells #[.int .i64 q] 3)).heap.size = w.heap.size + 3 := by simp
    have k1 := o1.cell? (i := 0) rfl
    have k2 := o2.cell? (i := 0) rfl
    have k3 := o3.cell? (i := 0) rfl
    clear o1 o2 o3
    have HR1 := Lib.hid (hr.below hb0); clear hr
    have HR2 := Lib.hid (hr'.below hb0); clear hr'
    by_cases hg : goodL n ls = true
    case pos =>
      have HG := Lib.hid hg
      clear hk hg
      go_enter Try.func50, Try.ntmps50
      go_wp2_with fail
      refine (gameAt_any n adl capl ls ad cap d q _ hl HR1.out hl' HR2.out HG.out).mono ?_
      rw [hk']
      rintro e w1 ⟨G, gb, gv, capb, rb, rfl, hG, hGB, hGV, hb1⟩
      have hb01 := ball hb0 hb1
      clear k1 k2 k3 hb0 hsz0 hb1 hG
      go_wp2_with fail
      go_ret2
      exact RetRB.no hR.out (hb01.alloc hb01.size _)
    case neg =>
      have hg' := Bool.eq_false_iff.2 hg
      go_enter Try.func50, Try.ntmps50
      go_wp2_with fail
      refine (gameAt_no n adl capl ls _ _ _ hl HR1.out hg').mono ?_
      rintro e w1 ⟨rfl, hb1⟩
      have hb01 := ball hb0 hb1
      clear k1 k2 k3 hb0 hsz0 hb1
      go_wp2_with fail
      go_ret2
      exact RetRB.no hR.out (hb01.alloc hb01.size _)

set_option maxHeartbeats 1600000 in
set_option maxRecDepth 100000 in
theorem specEqv_o (n : Int) (adl : Option Addr) (capl : Nat) (ls : List Lk) (ad : Option Addr) (cap : Nat) (d : List Int) (ad2 : Option Addr) (cap2 : Nat) (d2 : List Int) (w : World) (hl : ls.length ≤ 1048576) (hr : RdL w adl ls) (hl' : d.length ≤ 1048576) (hr' : RdI w ad d) (hl2 : d2.length ≤ 1048576) (hr2 : RdI w ad2 d2) :
    Calls Try.prog 36 #[.int .i64 n, .slice adl ls.length capl, .slice ad d.length cap, .slice ad2 d2.length cap2] w (RetBB (equivR n ls d d2) w) := by
  by_cases hk : askB n ls d 0 = true
  case neg =>
    have hk' := Bool.eq_false_iff.2 hk
    have hR := Lib.hid (show equivR n ls d d2 = (false, false) from if_neg (fun h => hk h.1))
    go_enter Try.func36, Try.ntmps36
    go_wp2_with fail
    refine (rdAsked_any n adl capl ls ad cap d 0 _ hl hr hl' hr').mono ?_
    rw [hk']
    rintro e w1 ⟨rfl, hb1⟩
    go_wp2
    go_ret2
    exact RetBB.of hR.out hb1
  case pos =>
    by_cases hk2 : askB n ls d2 0 = true
    case neg =>
      have hk' := Bool.eq_false_iff.2 hk2
      have hR := Lib.hid (show equivR n ls d d2 = (false, false) from if_neg (fun h => hk2 h.2))
      go_enter Try.func36, Try.ntmps36
      go_wp2_with fail
      refine (rdAsked_any n adl capl ls ad cap d 0 _ hl hr hl' hr').mono ?_
      rw [hk]
      rintro e w1 ⟨rfl, hb1⟩
      go_wp2_with fail
      refine (rdAsked_any n adl capl ls ad2 cap2 d2 0 _ hl (hr.below hb1) hl2 (hr2.below hb1)).mono ?_
      rw [hk']
      rintro e w2 ⟨rfl, hb2⟩
      go_wp2
      go_ret2
      exact RetBB.of hR.out (ball hb1 hb2)
    case pos =>
      obtain ⟨a, rfl⟩ := rd_some hr' (ask_pos hk)
      obtain ⟨a2, rfl⟩ := rd_some hr2 (ask_pos hk2)
      exact specEqv_c n adl capl ls a cap d a2 cap2 d2 w hl hr hl' hr' hl2 hr2

set_option maxHeartbeats 1600000 in
set_option maxRecDepth 100000 in
theorem implEqv_o (n : Int) (adl : Option Addr) (capl : Nat) (ls : List Lk) (ad : Option Addr) (cap : Nat) (d : List Int) (ad2 : Option Addr) (cap2 : Nat) (d2 : List Int) (w : World) (hl : ls.length ≤ 1048576) (hr : RdL w adl ls) (hl' : d.length ≤ 1048576) (hr' : RdI w ad d) (hl2 : d2.length ≤ 1048576) (hr2 : RdI w ad2 d2) :
    Calls Try.prog 35 #[.int .i64 n, .slice adl ls.length capl, .slice ad d.length cap, .slice ad2 d2.length cap2] w (RetBB (equivR n ls d d2) w) := by
  by_cases hg : goodL n ls = true
  case neg =>
    have hg' := Bool.eq_false_iff.2 hg
    have hR := Lib.hid (show equivR n ls d d2 = (false, false) from if_neg (fun h => hg (gameB_t (askB_t h.1).1).1))
    go_enter Try.func35, Try.ntmps35
    go_wp2_with fail
    refine (game_no n adl capl ls _ _ hl hr hg').mono ?_
    rintro e w1 ⟨rfl, hb1⟩
    go_wp2_with fail
    refine (game_no n adl capl ls _ _ hl (hr.below hb1) hg').mono ?_
    rintro e w2 ⟨rfl, hb2⟩
    go_wp2
    go_ret2
    exact RetBB.of hR.out (ball hb1 hb2)
  case pos =>
    have HG := Lib.hid hg
    have hz := fun d => ask_zero (d := d) hg
    by_cases hk : gameB n ls d = true
    case neg =>
      have hk' := Bool.eq_false_iff.2 hk
      have hR := Lib.hid (show equivR n ls d d2 = (false, false) from if_neg (fun h => hk (by rw [← hz]; exact h.1)))
      have HGB := Lib.hid (fun w => game_any n adl capl ls ad2 cap2 d2 w hl)
      obtain ⟨b2, hb2'⟩ : ∃ b2, gameB n ls d2 = b2 := ⟨_, rfl⟩
      rw [hb2'] at HGB
      clear hz
      cases b2 <;>
      · go_enter Try.func35, Try.ntmps35
        go_wp2_with fail
        refine (game_any n adl capl ls ad cap d _ hl hr hl' hr' HG.out).mono ?_
        rw [hk']
        rintro e w1 ⟨G, gb, gv, capb, rb, rfl, hG, hGB, hGV, hb1⟩
        clear hG
        go_wp2_with fail
        refine (HGB.out _ (hr.below hb1) hl2 (hr2.below hb1) HG.out).mono ?_
        rintro e w2 ⟨G2, gb2, gv2, capb2, rb2, rfl, hG2, hGB2, hGV2, hb2⟩
        clear hG2
        go_wp2
        go_ret2
        exact RetBB.of hR.out (ball hb1 hb2)
    case pos =>
      by_cases hk2 : gameB n ls d2 = true
      case neg =>
        have hk' := Bool.eq_false_iff.2 hk2
        have hR := Lib.hid (show equivR n ls d d2 = (false, false) from if_neg (fun h => hk2 (by rw [← hz]; exact h.2)))
        clear hz
        go_enter Try.func35, Try.ntmps35
        go_wp2_with fail
        refine (game_any n adl capl ls ad cap d _ hl hr hl' hr' HG.out).mono ?_
        rw [hk]
        rintro e w1 ⟨G, gb, gv, capb, rb, rfl, hG, hGB, hGV, hb1⟩
        clear hG
        go_wp2_with fail
        refine (game_any n adl capl ls ad2 cap2 d2 _ hl (hr.below hb1) hl2 (hr2.below hb1) HG.out).mono ?_
        rw [hk']
        rintro e w2 ⟨G2, gb2, gv2, capb2, rb2, rfl, hG2, hGB2, hGV2, hb2⟩
        clear hG2
        go_wp2
        go_ret2
        exact RetBB.of hR.out (ball hb1 hb2)
      case pos =>
        obtain ⟨a, rfl⟩ := rd_some hr' (ask_pos (q := 0) (by rw [hz]; exact hk))
        obtain ⟨a2, rfl⟩ := rd_some hr2 (ask_pos (q := 0) (by rw [hz]; exact hk2))
        exact implEqv_c n adl capl ls a cap d a2 cap2 d2 w hl hr hl' hr' hl2 hr2

end Go.Proofs.Ytmhmdbmiimpbnaa
