/-
  Both sides of AreEquivalent.
-/
import Derived.Test.YtmhmdbmiimpbnaaRedR
namespace Go.Proofs.Ytmhmdbmiimpbnaa
open Go.RowKit

noncomputable def equivR (n : Int) (ls : List Lk) (x y : List Int) : Bool × Bool := if askB n ls x 0 = true ∧ askB n ls y 0 = true then (decide ((redR n.toNat (betF ls) (valF ls) 0 (fd x)).1 = (redR n.toNat (betF ls) (valF ls) 0 (fd y)).1), true) else (false, false)

theorem lack_eqB {x y : Bool} (h : x = y) : (x, true) = (y, true) := by rw [h]
theorem tab_dec {N : Nat} {x y : Nat → Int} (h : ∀ j, j < N → x j = y j) : decide (tab N x = tab N y) = true := by rw [tab_congr h]; simp
theorem tab_dec_no {N : Nat} {x y : Nat → Int} {j : Nat} (hj : j < N) (h : x j ≠ y j) : decide (tab N x = tab N y) = false := by
  refine decide_eq_false fun e => h ?_
  have h2 : (tab N x).getD j 0 = (tab N y).getD j 0 := by rw [e]
  rwa [tab_getD hj, tab_getD hj] at h2

set_option maxHeartbeats 1600000 in
set_option maxRecDepth 100000 in
theorem l1Same_any (N g1 c1 g2 c2 : Nat) (x y : Nat → Int) (w : World) (hN : N ≤ 8) (h1 : Own w g1 3 (ints (tab N x))) (h2 : Own w g2 3 (ints (tab N y))) :
    Calls Try.prog 87 #[.slice (some ⟨g1, 0, none⟩) N c1, .slice (some ⟨g2, 0, none⟩) N c2] w fun e w' => e = .returned (.bool (decide (tab N x = tab N y))) ∧ Below w.heap.size w w' := by
  have H1 := Lib.hid h1; clear h1
  have H2 := Lib.hid h2; clear h2
  have hd0 : ((N : Int) != (N : Int)) = false := by simp
  go_enter Try.func87, Try.ntmps87
  go_wp2_with fail
  clear hd0
  go_loopw [13] (fun i wr => ∃ k : Nat, k ≤ N ∧ i = .int .i64 k ∧ (∀ j, j < k → x j = y j) ∧ Below w.heap.size w wr) (fun i _ => N - (intOf i).toNat)
  case atStart => exact ⟨0, Nat.zero_le _, rfl, fun j hj => by omega, Below.refl _ _⟩
  case round =>
    obtain ⟨k, hk, rfl, hlow, hbel⟩ := hrel
    have HLow := Lib.hid hlow; clear hlow
    obtain ⟨wo, rfl⟩ : ∃ wo : World, wo = wr := ⟨_, rfl⟩
    by_cases hlt : k < N
    · have k1 := (H1.out.belowAll hbel).cell? (i := k) (ints_get (by rw [tab_length]; exact hlt))
      have k2 := (H2.out.belowAll hbel).cell? (i := k) (ints_get (by rw [tab_length]; exact hlt))
      rw [tab_getD hlt] at k1 k2
      by_cases he : x k = y k
      · have HE := Lib.hid he
        generalize x k = a at k1 he
        generalize y k = b at k2 he
        have hd1 : (a == b) = true := by simpa using he
        have hd2 : (a != b) = false := by simp [he]
        clear he
        go_wp2_with fail
        go_quiet (fail)
        go_wp2_with fail
        go_roundw
        case rel =>
          refine ⟨k + 1, by omega, by go_num, fun j hj => ?_, bdrewN hbel _⟩
          by_cases e : j = k
          · subst e; exact HE.out
          · exact HLow.out j (by omega)
        case measure => simp [intOf]; omega
      · have HE := Lib.hid he
        generalize x k = a at k1 he
        generalize y k = b at k2 he
        have hd1 : (a == b) = false := by simpa using he
        have hd2 : (a != b) = true := by simpa using he
        clear he
        go_wp2_with fail
        go_quiet (fail)
        go_wp2_with fail
        go_ret
        exact ⟨ret_bool (tab_dec_no hlt HE.out).symm, bdrewN hbel _⟩
    · have he : k = N := by omega
      subst he
      go_wp2_with fail
      go_ret
      exact ⟨ret_bool (tab_dec HLow.out).symm, hbel⟩

set_option maxHeartbeats 1600000 in
set_option maxRecDepth 100000 in
theorem equal_any (N g1 c1 g2 c2 : Nat) (x y : Nat → Int) (w : World) (hN : N ≤ 8) (h1 : Own w g1 3 (ints (tab N x))) (h2 : Own w g2 3 (ints (tab N y))) :
    Calls Try.prog 86 #[.slice (some ⟨g1, 0, none⟩) N c1, .slice (some ⟨g2, 0, none⟩) N c2] w fun e w' => e = .returned (.bool (decide (tab N x = tab N y))) ∧ Below w.heap.size w w' := by
  have H1 := Lib.hid h1; clear h1
  have H2 := Lib.hid h2; clear h2
  have hd0 : ((N : Int) != (N : Int)) = false := by simp
  go_enter Try.func86, Try.ntmps86
  go_wp2_with fail
  clear hd0
  go_loopw [13] (fun i wr => ∃ k : Nat, k ≤ N ∧ i = .int .i64 k ∧ (∀ j, j < k → x j = y j) ∧ Below w.heap.size w wr) (fun i _ => N - (intOf i).toNat)
  case atStart => exact ⟨0, Nat.zero_le _, rfl, fun j hj => by omega, Below.refl _ _⟩
  case round =>
    obtain ⟨k, hk, rfl, hlow, hbel⟩ := hrel
    have HLow := Lib.hid hlow; clear hlow
    obtain ⟨wo, rfl⟩ : ∃ wo : World, wo = wr := ⟨_, rfl⟩
    by_cases hlt : k < N
    · have k1 := (H1.out.belowAll hbel).cell? (i := k) (ints_get (by rw [tab_length]; exact hlt))
      have k2 := (H2.out.belowAll hbel).cell? (i := k) (ints_get (by rw [tab_length]; exact hlt))
      rw [tab_getD hlt] at k1 k2
      by_cases he : x k = y k
      · have HE := Lib.hid he
        generalize x k = a at k1 he
        generalize y k = b at k2 he
        have hd1 : (a == b) = true := by simpa using he
        have hd2 : (a != b) = false := by simp [he]
        clear he
        go_wp2_with fail
        go_quiet (fail)
        go_wp2_with fail
        go_roundw
        case rel =>
          refine ⟨k + 1, by omega, by go_num, fun j hj => ?_, bdrewN hbel _⟩
          by_cases e : j = k
          · subst e; exact HE.out
          · exact HLow.out j (by omega)
        case measure => simp [intOf]; omega
      · have HE := Lib.hid he
        generalize x k = a at k1 he
        generalize y k = b at k2 he
        have hd1 : (a == b) = false := by simpa using he
        have hd2 : (a != b) = true := by simpa using he
        clear he
        go_wp2_with fail
        go_quiet (fail)
        go_wp2_with fail
        go_ret
        exact ⟨ret_bool (tab_dec_no hlt HE.out).symm, bdrewN hbel _⟩
    · have he : k = N := by omega
      subst he
      go_wp2_with fail
      go_ret
      exact ⟨ret_bool (tab_dec HLow.out).symm, hbel⟩

set_option maxHeartbeats 1600000 in
set_option maxRecDepth 100000 in
theorem specEqv_c (n : Int) (adl : Option Addr) (capl : Nat) (ls : List Lk) (a : Addr) (cap : Nat) (d : List Int) (a2 : Addr) (cap2 : Nat) (d2 : List Int) (w : World) (hl : ls.length ≤ 1048576) (hr : RdL w adl ls) (hl' : d.length ≤ 1048576) (hr' : RdI w (some a) d) (hl2 : d2.length ≤ 1048576) (hr2 : RdI w (some a2) d2) :
    Calls Try.prog 36 #[.int .i64 n, .slice adl ls.length capl, .slice (some a) d.length cap, .slice (some a2) d2.length cap2] w (RetBB (equivR n ls d d2) w) := by
  by_cases hk : askB n ls d 0 = true
  case neg =>
    have hk' := Bool.eq_false_iff.2 hk
    have hR := Lib.hid (show equivR n ls d d2 = (false, false) from if_neg (fun h => hk h.1))
    go_enter Try.func36, Try.ntmps36
    go_wp2_with fail
    refine (rdAsked_any n adl capl ls (some a) cap d 0 _ hl hr hl' hr').mono ?_
    rw [hk']
    rintro e w1 ⟨rfl, hb1⟩
    go_wp2
    go_ret2
    exact RetBB.of hR.out hb1
  case pos =>
    by_cases hk2 : askB n ls d2 0 = true
    case neg =>
      have hk' := Bool.eq_false_iff.2 hk2
      have hR := Lib.hid (show equivR n ls d d2 = (false, false) from if_neg (fun h => hk2 h.2))
      go_enter Try.func36, Try.ntmps36
      go_wp2_with fail
      refine (rdAsked_any n adl capl ls (some a) cap d 0 _ hl hr hl' hr').mono ?_
      rw [hk]
      rintro e w1 ⟨rfl, hb1⟩
      go_wp2_with fail
      refine (rdAsked_any n adl capl ls (some a2) cap2 d2 0 _ hl (hr.below hb1) hl2 (hr2.below hb1)).mono ?_
      rw [hk']
      rintro e w2 ⟨rfl, hb2⟩
      go_wp2
      go_ret2
      exact RetBB.of hR.out (ball hb1 hb2)
    case pos =>
      obtain ⟨hgm, hq0, hq1⟩ := askB_t hk
      obtain ⟨hg, hc, hdl, hda⟩ := gameB_t hgm
      obtain ⟨_, _, hdl2, hda2⟩ := gameB_t (askB_t hk2).1
      obtain ⟨hn1, hn2⟩ := good_n hg
      obtain ⟨N, rfl⟩ : ∃ N : Nat, n = N := ⟨n.toNat, by omega⟩
      have hdN : d.length = N := by omega
      have hdN2 : d2.length = N := by omega
      have HD := Lib.hid (ask_bd hdN hda); clear hda
      have HD2 := Lib.hid (ask_bd hdN2 hda2); clear hda2
      have HG := Lib.hid hg
      have HC := Lib.hid hc; clear hc
      have hR := Lib.hid (show equivR N ls d d2 = (decide ((redR N (betF ls) (valF ls) 0 (fd d)).1 = (redR N (betF ls) (valF ls) 0 (fd d2)).1), true) from if_pos ⟨hk, hk2⟩)
      have hasked := fun w => rdAsked_any N adl capl ls (some a) cap d 0 w hl
      have hasked2 := fun w => rdAsked_any N adl capl ls (some a2) cap2 d2 0 w hl
      rw [hk] at hasked
      rw [hk2] at hasked2
      rw [hdN] at hasked ⊢
      rw [hdN2] at hasked2 ⊢
      have HA := Lib.hid hasked; clear hasked
      have HA2 := Lib.hid hasked2; clear hasked2
      have hred := fun w' (h : Below w.heap.size w w') => rdReduce_any N adl capl ls 0 a cap d w' hl (hr.below h) HG.out HC.out (by omega) hdN (hr'.below h) HD.out
      have hred2 := fun w' (h : Below w.heap.size w w') => rdReduce_any N adl capl ls 0 a2 cap2 d2 w' hl (hr.below h) HG.out HC.out (by omega) hdN2 (hr2.below h) HD2.out
      rw [show ((0 : Nat) : Int) = 0 from rfl] at hred hred2
      have HRED := Lib.hid hred; clear hred
      have HRED2 := Lib.hid hred2; clear hred2
      have hlx : N ≤ 1048576 := by omega
      clear hdN hdN2 hdl hdl2 hgm hk hk2 hg hl' hl2
      go_enter Try.func36, Try.ntmps36
      go_wp2_with fail
      refine (HA.out _ hr hlx hr').mono ?_
      rintro e w1 ⟨rfl, hb1⟩
      go_wp2_with fail
      refine (HA2.out _ (hr.below hb1) hlx (hr2.below hb1)).mono ?_
      rintro e w2 ⟨rfl, hb2⟩
      have hb12 := ball hb1 hb2
      go_wp2_with fail
      refine (HRED.out _ hb12).mono ?_
      rintro e w3 ⟨x, y, g, cp, gt, hre, rfl, hg1, hg2, ho1, ho2, hb3⟩
      have HO := Lib.hid ho1; clear ho1 ho2
      have HRE := Lib.hid hre.eq; clear hre
      have hb13 := ball hb12 hb3
      go_wp2_with fail
      refine (HRED2.out _ hb13).mono ?_
      rintro e w4 ⟨x2, y2, g2, cp2, gt2, hre2, rfl, hg3, hg4, ho3, ho4, hb4⟩
      have HO2 := Lib.hid ho3; clear ho3 ho4
      have HRE2 := Lib.hid hre2.eq; clear hre2
      have hsame := l1Same_any N g cp g2 cp2 x x2 w4 (by omega) (HO.out.belowAll hb4) HO2.out
      obtain ⟨sb, hsb⟩ : ∃ sb, decide (tab N x = tab N x2) = sb := ⟨_, rfl⟩
      rw [hsb] at hsame
      have HSB := Lib.hid hsb; clear hsb
      have HS := Lib.hid hsame; clear hsame
      go_wp2_with fail
      refine HS.out.mono ?_
      rintro e w5 ⟨rfl, hb5⟩
      go_wp2_with fail
      go_ret2
      exact RetBB.of (hR.out.trans (by rw [HRE.out, HRE2.out]; exact lack_eqB HSB.out)) (ball (ball hb13 hb4) hb5)

set_option maxHeartbeats 1600000 in
set_option maxRecDepth 100000 in
theorem implEqv_c (n : Int) (adl : Option Addr) (capl : Nat) (ls : List Lk) (a : Addr) (cap : Nat) (d : List Int) (a2 : Addr) (cap2 : Nat) (d2 : List Int) (w : World) (hl : ls.length ≤ 1048576) (hr : RdL w adl ls) (hl' : d.length ≤ 1048576) (hr' : RdI w (some a) d) (hl2 : d2.length ≤ 1048576) (hr2 : RdI w (some a2) d2) :
    Calls Try.prog 35 #[.int .i64 n, .slice adl ls.length capl, .slice (some a) d.length cap, .slice (some a2) d2.length cap2] w (RetBB (equivR n ls d d2) w) := by
  by_cases hg : goodL n ls = true
  case neg =>
    have hg' := Bool.eq_false_iff.2 hg
    have hR := Lib.hid (show equivR n ls d d2 = (false, false) from if_neg (fun h => hg (gameB_t (askB_t h.1).1).1))
    go_enter Try.func35, Try.ntmps35
    go_wp2_with fail
    refine (game_no n adl capl ls _ _ hl hr hg').mono ?_
    rintro e w1 ⟨rfl, hb1⟩
    go_wp2_with fail
    refine (game_no n adl capl ls _ _ hl (hr.below hb1) hg').mono ?_
    rintro e w2 ⟨rfl, hb2⟩
    go_wp2
    go_ret2
    exact RetBB.of hR.out (ball hb1 hb2)
  case pos =>
    have HG := Lib.hid hg
    have hz := fun d => ask_zero (d := d) hg
    by_cases hk : gameB n ls d = true
    case neg =>
      have hk' := Bool.eq_false_iff.2 hk
      have hR := Lib.hid (show equivR n ls d d2 = (false, false) from if_neg (fun h => hk (by rw [← hz]; exact h.1)))
      have HGB := Lib.hid (fun w => game_any n adl capl ls (some a2) cap2 d2 w hl)
      obtain ⟨b2, hb2'⟩ : ∃ b2, gameB n ls d2 = b2 := ⟨_, rfl⟩
      rw [hb2'] at HGB
      clear hz
      cases b2 <;>
      · go_enter Try.func35, Try.ntmps35
        go_wp2_with fail
        refine (game_any n adl capl ls (some a) cap d _ hl hr hl' hr' HG.out).mono ?_
        rw [hk']
        rintro e w1 ⟨G, gb, gv, capb, rb, rfl, hG, hGB, hGV, hb1⟩
        clear hG
        go_wp2_with fail
        refine (HGB.out _ (hr.below hb1) hl2 (hr2.below hb1) HG.out).mono ?_
        rintro e w2 ⟨G2, gb2, gv2, capb2, rb2, rfl, hG2, hGB2, hGV2, hb2⟩
        clear hG2
        go_wp2
        go_ret2
        exact RetBB.of hR.out (ball hb1 hb2)
    case pos =>
      by_cases hk2 : gameB n ls d2 = true
      case neg =>
        have hk' := Bool.eq_false_iff.2 hk2
        have hR := Lib.hid (show equivR n ls d d2 = (false, false) from if_neg (fun h => hk2 (by rw [← hz]; exact h.2)))
        clear hz
        go_enter Try.func35, Try.ntmps35
        go_wp2_with fail
        refine (game_any n adl capl ls (some a) cap d _ hl hr hl' hr' HG.out).mono ?_
        rw [hk]
        rintro e w1 ⟨G, gb, gv, capb, rb, rfl, hG, hGB, hGV, hb1⟩
        clear hG
        go_wp2_with fail
        refine (game_any n adl capl ls (some a2) cap2 d2 _ hl (hr.below hb1) hl2 (hr2.below hb1) HG.out).mono ?_
        rw [hk']
        rintro e w2 ⟨G2, gb2, gv2, capb2, rb2, rfl, hG2, hGB2, hGV2, hb2⟩
        clear hG2
        go_wp2
        go_ret2
        exact RetBB.of hR.out (ball hb1 hb2)
      case pos =>
        obtain ⟨_, hc, hdl, hda⟩ := gameB_t hk
        obtain ⟨_, _, hdl2, hda2⟩ := gameB_t hk2
        obtain ⟨hn1, hn2⟩ := good_n hg
        have hR := Lib.hid (show equivR n ls d d2 = (decide ((redR n.toNat (betF ls) (valF ls) 0 (fd d)).1 = (redR n.toNat (betF ls) (valF ls) 0 (fd d2)).1), true) from if_pos ⟨by rw [hz]; exact hk, by rw [hz]; exact hk2⟩)
        obtain ⟨N, rfl⟩ : ∃ N : Nat, n = N := ⟨n.toNat, by omega⟩
        rw [Int.toNat_natCast] at hR
        clear hz
        have hdN : d.length = N := by omega
        have hdN2 : d2.length = N := by omega
        have HD := Lib.hid (ask_bd hdN hda); clear hda
        have HD2 := Lib.hid (ask_bd hdN2 hda2); clear hda2
        have HC := Lib.hid hc; clear hc
        have hasked := fun w => game_any N adl capl ls (some a) cap d w hl
        have hasked2 := fun w => game_any N adl capl ls (some a2) cap2 d2 w hl
        rw [hk] at hasked
        rw [hk2] at hasked2
        rw [hdN] at hasked ⊢
        rw [hdN2] at hasked2 ⊢
        have HA := Lib.hid hasked; clear hasked
        have HA2 := Lib.hid hasked2; clear hasked2
        have hred := fun w' (h : Below w.heap.size w w') G gb gv capb rb hG => reduce_any G gb gv capb rb N ls 0 a cap d w' hG HG.out HC.out (by omega) hdN (hr'.below h) HD.out
        have hred2 := fun w' (h : Below w.heap.size w w') G gb gv capb rb hG => reduce_any G gb gv capb rb N ls 0 a2 cap2 d2 w' hG HG.out HC.out (by omega) hdN2 (hr2.below h) HD2.out
        rw [show ((0 : Nat) : Int) = 0 from rfl] at hred hred2
        have HRED := Lib.hid hred; clear hred
        have HRED2 := Lib.hid hred2; clear hred2
        have hlx : N ≤ 1048576 := by omega
        clear hdN hdN2 hdl hdl2 hk hk2 hg hl' hl2
        go_enter Try.func35, Try.ntmps35
        go_wp2_with fail
        refine (HA.out _ hr hlx hr' HG.out).mono ?_
        rintro e w1 ⟨G, gb, gv, capb, rb, rfl, hG, hGB, hGV, hb1⟩
        rw [Int.toNat_natCast] at hG
        have HGR := Lib.hid hG; clear hG
        go_wp2_with fail
        refine (HA2.out _ (hr.below hb1) hlx (hr2.below hb1) HG.out).mono ?_
        rintro e w2 ⟨G2, gb2, gv2, capb2, rb2, rfl, hG2, hGB2, hGV2, hb2⟩
        clear hG2
        have hb12 := ball hb1 hb2
        go_wp2_with fail
        refine (HRED.out _ hb12 G gb gv capb rb (HGR.out.below hb2)).mono ?_
        rintro e w3 ⟨x, y, g, cp, gt, hre, rfl, hg1, hg2, ho1, ho2, hb3⟩
        have HO := Lib.hid ho1; clear ho1 ho2
        have HRE := Lib.hid hre.eq; clear hre
        have hb13 := ball hb12 hb3
        go_wp2_with fail
        refine (HRED2.out _ hb13 G gb gv capb rb (HGR.out.below (ball hb2 hb3))).mono ?_
        rintro e w4 ⟨x2, y2, g2, cp2, gt2, hre2, rfl, hg3, hg4, ho3, ho4, hb4⟩
        have HO2 := Lib.hid ho3; clear ho3 ho4
        have HRE2 := Lib.hid hre2.eq; clear hre2
        have hsame := equal_any N g cp g2 cp2 x x2 w4 (by omega) (HO.out.belowAll hb4) HO2.out
        obtain ⟨sb, hsb⟩ : ∃ sb, decide (tab N x = tab N x2) = sb := ⟨_, rfl⟩
        rw [hsb] at hsame
        have HSB := Lib.hid hsb; clear hsb
        have HS := Lib.hid hsame; clear hsame
        go_wp2_with fail
        refine HS.out.mono ?_
        rintro e w5 ⟨rfl, hb5⟩
        go_wp2_with fail
        go_ret2
        exact RetBB.of (hR.out.trans (by rw [HRE.out, HRE2.out]; exact lack_eqB HSB.out)) (ball (ball hb13 hb4) hb5)

end Go.Proofs.Ytmhmdbmiimpbnaa
