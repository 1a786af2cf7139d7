/-
  LinksOut for a set that may be nil. Printed by gen_opt.py.
-/
import Derived.Test.YtmhmdbmiimpbnaaLinksR
namespace Go.Proofs.Ytmhmdbmiimpbnaa
open Go.RowKit


set_option maxHeartbeats 800000 in
theorem scriptOf_o (G gb gv capb : Nat) (rb : Nat → Nat) (N : Nat) (bet : Nat → Nat → Int) (val : Nat → Int) (ed : Int) (a : Option Addr) (cap : Nat) (set : List Int) (w : World) (hG : GrAt w G gb gv capb rb N bet val ed) (hN : N ≤ 8) (hl : set.length ≤ 1048576) (hr : RdI w a set) (hx : ∀ j, j < set.length → 0 ≤ set.getD j 0 ∧ set.getD j 0 < N) :
    Calls Try.prog 69 #[.pointer (some ⟨G, 0, none⟩), .slice a set.length cap] w fun e w' => ∃ g, e = .returned (.slice (some ⟨g, 0, none⟩) N N) ∧ w.heap.size ≤ g ∧ Own w' g 3 (ints (tab N (setF set))) ∧ Below w.heap.size w w' := by
  have hmk := run_makeN (P := Try.prog) 30 3 (.int .i64 0) 1 8 Try.underlying30 Try.infoI N (by omega) (by omega)
  simp only [Value.cells, Nat.mul_one] at hmk
  have c0 := hG.c0
  clear hG
  have HR := Lib.hid hr; clear hr
  have HX := Lib.hid hx; clear hx
  go_enter Try.func69, Try.ntmps69
  go_wp2
  go_loopw [15] (fun i wr => ∃ k : Nat, k ≤ set.length ∧ i = .int .i64 k ∧ Own wr w.heap.size 3 (ints (tab N (setF (set.take k)))) ∧ Below w.heap.size w wr) (fun i _ => set.length - (intOf i).toNat)
  case atStart => exact ⟨0, Nat.zero_le _, rfl, (Own.newA w _ 3 (madeInts _)).congr (by rw [tab_congr fun i _ => (setF_nil i).symm]; rfl), (Below.refl _ _).alloc (Nat.le_refl _) _⟩
  case round =>
    obtain ⟨k, hk, rfl, hown, hbel⟩ := hrel
    have HO := Lib.hid hown; clear hown
    by_cases hlt : k < set.length
    · obtain ⟨b, off, e, hb, c⟩ := HR.out k hlt
      obtain rfl : a = some ⟨b, off, none⟩ := e
      have d := bcell hbel hb c
      clear c
      have hxk := HX.out k hlt
      have hst := fun i => setF_step hlt i
      generalize set.getD k 0 = x at d hxk hst
      obtain ⟨v, rfl⟩ : ∃ v : Nat, x = v := ⟨x.toNat, by omega⟩
      have HST := Lib.hid hst; clear hst
      have hv : v < N := by omega
      have f1 := HO.out.frozen v
      have c1 := HO.out.cell? (i := v) (ints_get (by rw [tab_length]; exact hv))
      have st := HO.out.set v (.int .i64 1)
      rw [ints_set, tab_set] at st
      have HS := Lib.hid st; clear st
      go_wp2
      go_roundw
      case rel =>
        refine ⟨k + 1, by omega, by go_num, HS.out.congr ?_, hbel.setCell (Nat.le_refl _) _⟩
        congr 1
        refine tab_congr fun i _ => ?_
        rw [HST.out]
        by_cases e : i = v
        · subst e; rw [if_pos rfl, if_pos rfl]
        · rw [if_neg e, if_neg (by omega)]
      case measure => simp [intOf]; omega
    · have he : k = set.length := by omega
      subst he
      go_wp2
      go_ret
      refine ⟨_, rfl, Nat.le_refl _, HO.out.congr ?_, hbel⟩
      rw [List.take_length]

set_option maxHeartbeats 800000 in
set_option maxRecDepth 100000 in
theorem specLinks_o (n : Int) (ad : Option Addr) (cap : Nat) (ls : List Lk) (a : Option Addr) (cap' : Nat) (set : List Int) (w : World) (hl : ls.length ≤ 1048576) (hr : RdL w ad ls) (hl' : set.length ≤ 1048576) (hr' : RdI w a set) :
    Calls Try.prog 24 #[.int .i64 n, .slice ad ls.length cap, .slice a set.length cap'] w (RetIB (linksR n ls set) w) := by
  by_cases hg : goodL n ls = true
  · obtain ⟨hn1, hn2⟩ := good_n hg
    by_cases hs : risB set 0 (n - 1) = true
    · have hR : Hid (linksR n ls set = (linkOut ls set, true)) := if_pos ⟨hg, hs⟩
      have HGD := Lib.hid hg
      have HRL := Lib.hid hr
      have HRS := Lib.hid hr'
      go_enter Try.func24, Try.ntmps24
      go_wp2_with fail
      refine (chGood_any n ad cap ls _ hl hr).mono ?_
      rw [hg]
      rintro e w1 ⟨rfl, hb1⟩
      go_wp2_with fail
      refine (l1Ris_any a cap' set (n - 1) _ hl' (hr'.below hb1)).mono ?_
      rw [hs]
      rintro e w' ⟨rfl, rfl⟩
      clear hg hs hr hr'
      go_wp2_with fail
      go_loopw [8, 24] (fun s i wr => ∃ k : Nat, k ≤ ls.length ∧ i = .int .i64 k ∧ s = .int .i64 (linkOut (ls.take k) set) ∧ Below w.heap.size w wr) (fun _ i _ => ls.length - (intOf i).toNat)
      case atStart => exact ⟨0, Nat.zero_le _, rfl, rfl, hb1⟩
      case round =>
        obtain ⟨k, hk, rfl, rfl, hbel⟩ := hrel
        have v3 := linkOut_bound HGD.out hl set k
        by_cases hlt : k < ls.length
        · obtain ⟨b, off, rfl, hb, c0, c1, c2⟩ := HRL.out k hlt
          have d0 := bcell hbel hb c0
          have d1 := bcell hbel hb c1
          have d2 := bcell hbel hb c2
          clear c0 c1 c2
          obtain ⟨xl, hx⟩ : ∃ xl, ls.getD k Lk.z = xl := ⟨_, rfl⟩
          obtain ⟨g1, g2, g3, g4, g5⟩ := good_lk HGD.out hlt hx
          have st := linkOut_step (set := set) hlt hx
          rw [hx] at d0 d1 d2
          obtain ⟨xa, xb, xn⟩ := xl
          simp only at d0 d1 d2 g1 g2 g3 g4 g5 st
          have HX := Lib.hid hx; clear hx
          have HST := Lib.hid st; clear st
          have hbX := hbel.alloc hbel.size (.cells #[.int .i64 xa, .int .i64 xb, .int .i64 xn] 41)
          generalize linkOut (ls.take k) set = s at v3 HST ⊢
          by_cases ha : xa ∈ set
          case pos =>
            by_cases hb2 : xb ∈ set
            case pos =>
              have dA : decide (xa ∈ set) = true := by simp [ha]
              have dB : decide (xb ∈ set) = true := by simp [hb2]
              have HA := Lib.hid ha; clear ha
              have HB := Lib.hid hb2; clear hb2
              go_wp2_with fail
              go_quiet ((go_at_call 72; exact Calls.quiet_of_same ((l1Has_any _ _ _ _ _ hl' (HRS.out.below (bdrewN hbX _))).mono (fun e w' h => ⟨h.1, h.2.symm⟩))))
              go_wp2
              go_roundw
              case rel => exact ⟨k + 1, by omega, by go_num, by rw [HST.out, if_neg (by simp [HA.out, HB.out]), Int.add_zero], bdrewN hbX _⟩
              case measure => simp [intOf]; omega
            case neg =>
              have dA : decide (xa ∈ set) = true := by simp [ha]
              have dB : decide (xb ∈ set) = false := by simp [hb2]
              have HA := Lib.hid ha; clear ha
              have HB := Lib.hid hb2; clear hb2
              go_wp2_with fail
              go_quiet ((go_at_call 72; exact Calls.quiet_of_same ((l1Has_any _ _ _ _ _ hl' (HRS.out.below (bdrewN hbX _))).mono (fun e w' h => ⟨h.1, h.2.symm⟩))))
              go_wp2
              go_roundw
              case rel => exact ⟨k + 1, by omega, by go_num, by rw [HST.out, if_pos (by simp [HA.out, HB.out])], bdrewN hbX _⟩
              case measure => simp [intOf]; omega
          case neg =>
            by_cases hb2 : xb ∈ set
            case pos =>
              have dA : decide (xa ∈ set) = false := by simp [ha]
              have dB : decide (xb ∈ set) = true := by simp [hb2]
              have HA := Lib.hid ha; clear ha
              have HB := Lib.hid hb2; clear hb2
              go_wp2_with fail
              go_quiet ((go_at_call 72; exact Calls.quiet_of_same ((l1Has_any _ _ _ _ _ hl' (HRS.out.below (bdrewN hbX _))).mono (fun e w' h => ⟨h.1, h.2.symm⟩))))
              go_wp2
              go_roundw
              case rel => exact ⟨k + 1, by omega, by go_num, by rw [HST.out, if_pos (by simp [HA.out, HB.out])], bdrewN hbX _⟩
              case measure => simp [intOf]; omega
            case neg =>
              have dA : decide (xa ∈ set) = false := by simp [ha]
              have dB : decide (xb ∈ set) = false := by simp [hb2]
              have HA := Lib.hid ha; clear ha
              have HB := Lib.hid hb2; clear hb2
              go_wp2_with fail
              go_quiet ((go_at_call 72; exact Calls.quiet_of_same ((l1Has_any _ _ _ _ _ hl' (HRS.out.below (bdrewN hbX _))).mono (fun e w' h => ⟨h.1, h.2.symm⟩))))
              go_wp2
              go_roundw
              case rel => exact ⟨k + 1, by omega, by go_num, by rw [HST.out, if_neg (by simp [HA.out, HB.out]), Int.add_zero], bdrewN hbX _⟩
              case measure => simp [intOf]; omega
        · have he : k = ls.length := by omega
          subst he
          rw [List.take_length] at v3 ⊢
          go_wp2
          go_ret2
          exact RetIB.of hR.out hbel
    · have hs' := Bool.eq_false_iff.2 hs
      have hR : Hid (linksR n ls set = (0, false)) := if_neg (by simp [hs'])
      go_enter Try.func24, Try.ntmps24
      go_wp2_with fail
      refine (chGood_any n ad cap ls _ hl hr).mono ?_
      rw [hg]
      rintro e w1 ⟨rfl, hb1⟩
      go_wp2_with fail
      refine (l1Ris_any a cap' set (n - 1) _ hl' (hr'.below hb1)).mono ?_
      rw [hs']
      rintro e w' ⟨rfl, rfl⟩
      go_wp2
      go_ret2
      exact RetIB.of hR.out hb1
  · have hg' := Bool.eq_false_iff.2 hg
    have hR : Hid (linksR n ls set = (0, false)) := if_neg (by simp [hg'])
    go_enter Try.func24, Try.ntmps24
    go_wp2_with fail
    refine (chGood_any n ad cap ls _ hl hr).mono ?_
    rw [hg']
    rintro e w1 ⟨rfl, hb1⟩
    go_wp2
    go_ret2
    exact RetIB.of hR.out hb1

set_option maxHeartbeats 800000 in
set_option maxRecDepth 100000 in
theorem implLinks_o (n : Int) (ad : Option Addr) (cap : Nat) (ls : List Lk) (a : Option Addr) (cap' : Nat) (set : List Int) (w : World) (hl : ls.length ≤ 1048576) (hr : RdL w ad ls) (hl' : set.length ≤ 1048576) (hr' : RdI w a set) :
    Calls Try.prog 23 #[.int .i64 n, .slice ad ls.length cap, .slice a set.length cap'] w (RetIB (linksR n ls set) w) := by
  by_cases hg : goodL n ls = true
  · obtain ⟨hn1, hn2⟩ := good_n hg
    have hnn : Hid (risB set 0 ((n.toNat : Int) - 1) = risB set 0 (n - 1)) := by show _ = _; rw [Int.toNat_of_nonneg (by omega)]
    by_cases hs : risB set 0 (n - 1) = true
    · have hR : Hid (linksR n ls set = (linkOut ls set, true)) := if_pos ⟨hg, hs⟩
      have HGD := Lib.hid hg
      have HSS := Lib.hid hs
      have HRS := Lib.hid hr'
      have hbt : ∀ v j, 0 ≤ betF ls v j ∧ betF ls v j ≤ 5 := fun v j => by have := betF_bound hg ls.length v j; rwa [List.take_length] at this
      have HBT := Lib.hid hbt; clear hbt
      go_enter Try.func23, Try.ntmps23
      go_wp2_with fail
      refine (graphOf_any n ad cap ls _ hl hr hg).mono ?_
      rintro e w1 ⟨G, gb, gv, capb, rb, rfl, hG, hGB, hGV, hb1⟩
      have HG := Lib.hid hG; clear hG
      go_wp2_with fail
      refine (isSet_any G gb gv capb rb n.toNat _ _ _ a cap' set _ HG.out (by omega) hl' (hr'.below hb1)).mono ?_
      rw [hnn.out, hs]
      rintro e w' ⟨rfl, rfl⟩
      go_wp2_with fail
      refine (scriptOf_o G gb gv capb rb n.toNat _ _ _ a cap' set _ HG.out (by omega) hl' (hr'.below hb1) (fun j hj => by have := risB_bounds hs hj; omega)).mono ?_
      rintro e w2 ⟨gm, rfl, hgm, hom, hb2⟩
      have bb := ball hb1 hb2
      have HG2 := Lib.hid (HG.out.below hb2)
      have HOM := Lib.hid hom.rd
      clear hg hs hr hr' hom
      go_wp2_with fail
      go_loop [11, 33] (fun s i => ∃ k : Nat, k ≤ set.length ∧ i = .int .i64 k ∧ s = .int .i64 (setOut (betF ls) (tab n.toNat (setF set)) n.toNat (set.take k))) (fun _ i => set.length - (intOf i).toNat)
      case atStart => exact ⟨0, Nat.zero_le _, rfl, rfl⟩
      case round =>
        obtain ⟨k, hk, rfl, rfl⟩ := hrel
        have v3 := setOut_bound (bet := betF ls) (m := tab n.toNat (setF set)) (N := n.toNat) (by omega) hl' HBT.out k
        by_cases hlt : k < set.length
        · obtain ⟨b, off, e, hb, c⟩ := HRS.out k hlt
          obtain rfl : a = some ⟨b, off, none⟩ := e
          have d0 := bcell bb hb c
          clear c
          have xb := risB_bounds HSS.out hlt
          have st := setOut_step (bet := betF ls) (m := tab n.toNat (setF set)) (N := n.toNat) hlt
          generalize set.getD k 0 = x at d0 xb st
          obtain ⟨v, rfl⟩ : ∃ v : Nat, x = v := ⟨x.toNat, by omega⟩
          rw [Int.toNat_natCast] at st
          have ob := outF_bound (bet := betF ls) (m := tab n.toNat (setF set)) (v := v) (N := n.toNat) (fun j _ => HBT.out v j) n.toNat (Nat.le_refl _)
          have HST := Lib.hid st; clear st
          generalize setOut (betF ls) (tab n.toNat (setF set)) n.toNat (set.take k) = s at v3 HST ⊢
          go_wp2_with fail
          refine (outside_any G gb gv capb rb n.toNat _ _ _ v _ _ (tab n.toNat (setF set)) _ HG2.out (by omega) (by omega) (tab_length _ _) HOM.out (fun j _ => HBT.out v j)).mono ?_
          rintro e w' ⟨rfl, rfl⟩
          generalize outF (betF ls) (tab n.toNat (setF set)) v n.toNat = o at ob HST ⊢
          go_wp2
          go_round
          case rel => exact ⟨k + 1, by omega, by go_num, by rw [HST.out]⟩
          case measure => simp [intOf]; omega
        · have he : k = set.length := by omega
          subst he
          rw [List.take_length] at v3 ⊢
          go_wp2
          go_ret2
          exact RetIB.of (by rw [hR.out, ← setOut_link HGD.out HSS.out]) bb
    · have hs' := Bool.eq_false_iff.2 hs
      have hR : Hid (linksR n ls set = (0, false)) := if_neg (by simp [hs'])
      go_enter Try.func23, Try.ntmps23
      go_wp2_with fail
      refine (graphOf_any n ad cap ls _ hl hr hg).mono ?_
      rintro e w1 ⟨G, gb, gv, capb, rb, rfl, hG, hGB, hGV, hb1⟩
      have HG := Lib.hid hG; clear hG
      go_wp2_with fail
      refine (isSet_any G gb gv capb rb n.toNat _ _ _ a cap' set _ HG.out (by omega) hl' (hr'.below hb1)).mono ?_
      rw [hnn.out, hs']
      rintro e w' ⟨rfl, rfl⟩
      go_wp2
      go_ret2
      exact RetIB.of hR.out hb1
  · have hg' := Bool.eq_false_iff.2 hg
    have hR : Hid (linksR n ls set = (0, false)) := if_neg (by simp [hg'])
    go_enter Try.func23, Try.ntmps23
    go_wp2_with fail
    refine (graphOf_no n ad cap ls _ hl hr hg').mono ?_
    rintro e w1 ⟨rfl, hb1⟩
    go_wp2
    go_ret2
    exact RetIB.of hR.out hb1

end Go.Proofs.Ytmhmdbmiimpbnaa
