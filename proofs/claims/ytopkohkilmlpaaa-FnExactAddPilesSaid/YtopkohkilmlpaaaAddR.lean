/-
  Both sides of AddPiles.
-/
import Derived.Test.YtopkohkilmlpaaaTopR
namespace Go.Proofs.Ytopkohkilmlpaaa
open Go.RowKit

def addL (N : Nat) (d d2 : List Int) : List Int := tab N fun j => fo d j + fo d2 j
noncomputable def addR (n : Int) (ls : List Lk) (z : Int) (d d2 : List Int) : List Int × Bool := if pgB n ls z = true ∧ pileB n z d = true ∧ pileB n z d2 = true then ((topR n.toNat (betF ls) (valF ls) z.toNat (fo (addL n.toNat d d2))).1, true) else ([], false)
theorem addR_len {n : Int} {ls : List Lk} {z : Int} {d d2 : List Int} : (addR n ls z d d2).1.length ≤ 1048576 := by
  by_cases hp : pgB n ls z = true ∧ pileB n z d = true ∧ pileB n z d2 = true
  · have hR0 : addR n ls z d d2 = ((topR n.toNat (betF ls) (valF ls) z.toNat (fo (addL n.toNat d d2))).1, true) := if_pos hp
    obtain ⟨N, Z, rfl, rfl, hN1, hN5, hZ, hg, hc, hdl, hdb, hd0⟩ := pile_ok hp.1 hp.2.1
    obtain ⟨_, _, e1, e2, _, _, _, _, _, _, hdb2, _⟩ := pile_ok hp.1 hp.2.2
    rw [Int.toNat_natCast, Int.toNat_natCast] at hR0
    have := topR_len (topEnd_exists hg hc hZ (d := fo (addL N d d2)) (fun j hj => by
      show 0 ≤ fo (tab N _) j
      rw [fo_tab hj]
      have := hdb j hj
      have := hdb2 j (by omega)
      omega))
    rw [hR0]
    simp only
    omega
  · have hR0 : addR n ls z d d2 = ([], false) := if_neg hp
    rw [hR0]; simp

set_option maxHeartbeats 1600000 in
set_option maxRecDepth 100000 in
theorem piSum_any (N : Nat) (adl : Option Addr) (capl : Nat) (ls : List Lk) (z : Nat) (a : Addr) (cap : Nat) (d : List Int) (a2 : Addr) (cap2 : Nat) (d2 : List Int) (w : World) (hl : ls.length ≤ 1048576) (hrl : RdL w adl ls) (hg : goodL N ls = true) (hc : connB N ls = true) (hz : z < N) (hdl : d.length = N) (hr : RdI w (some a) d) (hdl2 : d2.length = N) (hr2 : RdI w (some a2) d2) (hd : ∀ j, j < N → 0 ≤ fo d j ∧ fo d j ≤ 50) (hd2 : ∀ j, j < N → 0 ≤ fo d2 j ∧ fo d2 j ≤ 50) (hdz : fo d z = 0) (hdz2 : fo d2 z = 0) :
    Calls Try.prog 58 #[.int .i64 N, .slice adl ls.length capl, .int .i64 z, .slice (some a) N cap, .slice (some a2) N cap2] w fun e w' => ∃ v, e = .returned v ∧ ResI w' w.heap.size 3 v (topR N (betF ls) (valF ls) z (fo (addL N d d2))).1 ∧ Below w.heap.size w w' := by
  have hgn := good_n hg
  obtain ⟨i0, hi0, hz0, hz1, hz2⟩ := info_parts Try.infoI
  have HDL := Lib.hid hdl; clear hdl
  have HDL2 := Lib.hid hdl2; clear hdl2
  have HR := Lib.hid hr; clear hr
  have HR2 := Lib.hid hr2; clear hr2
  have HD := Lib.hid hd; clear hd
  have HD2 := Lib.hid hd2; clear hd2
  have HZ := Lib.hid hdz; clear hdz
  have HZ2 := Lib.hid hdz2; clear hdz2
  have HG := Lib.hid hg; clear hg
  have HC := Lib.hid hc; clear hc
  go_enter Try.func58, Try.ntmps58
  go_wp2_with fail
  go_loopw [11, 18] (fun v i wr => ∃ k : Nat, k ≤ N ∧ i = .int .i64 k ∧ wr.ownsRow w.heap.size 3 1 v k (ints (addL k d d2)) ∧ Below w.heap.size w wr) (fun _ i _ => N - (intOf i).toNat)
  case atStart => exact ⟨0, Nat.zero_le _, rfl, World.ownsRow_nil _ _ _ _, Below.refl _ _⟩
  case round =>
    obtain ⟨k, hk, rfl, hown, hbel⟩ := hrel
    have HO := Lib.hid hown; clear hown
    by_cases hlt : k < N
    case pos =>
      obtain ⟨b, off, e, hb, c⟩ := HR.out k (by rw [HDL.out]; exact hlt)
      obtain rfl : a = ⟨b, off, none⟩ := by simpa using e
      obtain ⟨b2, off2, e2, hb2, c2⟩ := HR2.out k (by rw [HDL2.out]; exact hlt)
      obtain rfl : a2 = ⟨b2, off2, none⟩ := by simpa using e2
      clear e e2
      have d0 := bcell hbel hb c
      have d1 := bcell hbel hb2 c2
      clear c c2
      have hx := HD.out k hlt
      have hy := HD2.out k hlt
      have hst : Hid (addL (k + 1) d d2 = addL k d d2 ++ [d.getD k 0 + d2.getD k 0]) := tab_succ _ _
      unfold fo at hx hy
      generalize d.getD k 0 = x at d0 hx hst
      generalize d2.getD k 0 = y at d1 hy hst
      have hsz := hbel.size
      go_wp2_with (at_builtin; refine wpList_append_lies _ rfl _ _ _ rfl w.heap.size 3 i0 _ 1 8 Try.underlying23 hi0 hz0 hz1 hz2 rfl (by omega) _ k _ rfl (HO.out.alloc _) ⟨wr.heap.size, 0, none⟩ 1 1 [.int .i64 (x + y)] rfl rfl (World.news_of_block (cs := #[.int .i64 (x + y)]) (t := 3) (fr := (0, 0)) (heap_alloc_new _ _)) (by simp [Value.oneCell']) (by omega) (by unfold maxLen; omega) (by omega) (by simp; omega) (wr.heap.size + 1) (by simp) ?_; intro gg gcap w2 hown1 hgrow hat hlt2)
      go_roundw
      case rel =>
        refine ⟨k + 1, by omega, by go_num, row_congr hown1 rfl ?_, app_below hbel hsz HO.out hgrow⟩
        rw [hst.out]
        simp [ints]
      case measure => simp [intOf]; omega
    case neg =>
      have he : k = N := by omega
      subst he
      rcases Own.of_row HO.out with ⟨_, h0, _⟩ | ⟨g, cap', rfl, hgB, hkc, hcm, ho⟩
      · omega
      have hlen : (addL k d d2).length = k := tab_length _ _
      have HOO := Lib.hid ho; clear ho
      go_wp2_with fail
      refine (piTopple_any k adl capl ls z ⟨g, 0, none⟩ cap' (addL k d d2) _ hl (hrl.below hbel) HG.out HC.out hz hlen HOO.out.rd (fun j hj => ?_) ?_).mono ?_
      · have h1 := HD.out j hj
        have h2 := HD2.out j hj
        have h3 : fo (addL k d d2) j = fo d j + fo d2 j := fo_tab hj
        omega
      · have h1 := HZ.out
        have h2 := HZ2.out
        have h3 : fo (addL k d d2) z = fo d z + fo d2 z := fo_tab hz
        omega
      rintro e w2 ⟨v, u, rfl, hv, hu, hvu, hb2⟩
      clear hu hvu
      have HV := Lib.hid hv; clear hv
      go_wp2_with fail
      go_ret
      exact ⟨_, rfl, HV.out.mono hbel.size, ball hbel hb2⟩

set_option maxHeartbeats 1600000 in
set_option maxRecDepth 100000 in
theorem tsum_any (G gb gv capb : Nat) (rb : Nat → Nat) (N : Nat) (ls : List Lk) (z : Nat) (a : Addr) (cap : Nat) (d : List Int) (a2 : Addr) (cap2 : Nat) (d2 : List Int) (w : World) (h : GrAt w G gb gv capb rb N (betF ls) (valF ls) (edgeF ls)) (hg : goodL N ls = true) (hc : connB N ls = true) (hz : z < N) (hdl : d.length = N) (hr : RdI w (some a) d) (hdl2 : d2.length = N) (hr2 : RdI w (some a2) d2) (hd : ∀ j, j < N → 0 ≤ fo d j ∧ fo d j ≤ 50) (hd2 : ∀ j, j < N → 0 ≤ fo d2 j ∧ fo d2 j ≤ 50) :
    Calls Try.prog 59 #[.agg #[.pointer (some ⟨G, 0, none⟩), .int .i64 z], .slice (some a) N cap, .slice (some a2) N cap2] w fun e w' => ∃ v, e = .returned v ∧ ResI w' w.heap.size 3 v (topR N (betF ls) (valF ls) z (fo (addL N d d2))).1 ∧ Below w.heap.size w w' := by
  have hgn := good_n hg
  have HDL := Lib.hid hdl; clear hdl
  have HDL2 := Lib.hid hdl2; clear hdl2
  have HD := Lib.hid hd; clear hd
  have HD2 := Lib.hid hd2; clear hd2
  have HG := Lib.hid hg; clear hg
  have HC := Lib.hid hc; clear hc
  have hT := Own.newA w #[.pointer (some ⟨G, 0, none⟩), .int .i64 z] 55 rfl
  have hb0 : Below w.heap.size w (w.alloc (.cells #[.pointer (some ⟨G, 0, none⟩), .int .i64 z] 55)) := (Below.refl _ _).alloc (Nat.le_refl _) _
  have HT := Lib.hid hT; clear hT
  have HG0 := Lib.hid (h.below hb0); clear h
  have HR := Lib.hid (hr.below hb0); clear hr
  have HR2 := Lib.hid (hr2.below hb0); clear hr2
  go_enter Try.func59, Try.ntmps59
  go_wp2_with fail
  generalize w.alloc (.cells #[.pointer (some ⟨G, 0, none⟩), .int .i64 z] 55) = W at HT HG0 HR HR2 hb0 ⊢
  have hcl := clone_any a cap d W (by rw [HDL.out]; omega) HR.out
  rw [HDL.out] at hcl
  refine hcl.mono ?_
  clear hcl
  rintro e w1 ⟨v1, rfl, hv1, hb1⟩
  rcases hv1 with ⟨_, h0⟩ | ⟨g, cap1, e', hgB, ho⟩
  · have := HDL.out; rw [h0] at this; simp at this; omega
  rw [HDL.out] at e'
  subst e'
  have hdt : d = tab N (fo d) := by
    have := tab_self d 0
    rw [HDL.out] at this
    exact this.symm
  have HO := Lib.hid (ho.congr (cs' := ints (tab N (fo d))) (by rw [← hdt])); clear ho hdt
  have hbw := ball hb0 hb1
  have HT1 := Lib.hid (HT.out.belowAll hb1)
  have HG1 := Lib.hid (HG0.out.below hb1)
  have hTl := HT.out.lt
  have hgne : g ≠ w.heap.size := by omega
  have hGg : G ≠ g := by have := HG0.out.hG.lt; omega
  have hGgb : gb ≠ g := by have := HG0.out.hb.lt; omega
  have hGgv : gv ≠ g := by have := HG0.out.hv.lt; omega
  have HGr := Lib.hid (fun i hi => show rb i ≠ g by have := (HG0.out.hr i hi).lt; omega)
  go_wp2_with fail
  go_loopw [16] (fun i wr => ∃ k : Nat, k ≤ N ∧ i = .int .i64 k ∧ Own wr g 3 (ints (tab N fun j => if j < k then fo d j + fo d2 j else fo d j)) ∧ Chg g w1 wr) (fun i _ => N - (intOf i).toNat)
  case atStart => exact ⟨0, Nat.zero_le _, rfl, HO.out.congr (by congr 1), Chg.refl _ _⟩
  case round =>
    obtain ⟨k, hk, rfl, hown, hchg⟩ := hrel
    have HW := Lib.hid hown; clear hown
    by_cases hlt : k < N
    case pos =>
      obtain ⟨b2, off2, e2, hbb2, c2⟩ := HR2.out k (by rw [HDL2.out]; exact hlt)
      obtain rfl : a2 = ⟨b2, off2, none⟩ := by simpa using e2
      clear e2
      have d1 := hchg.cell (p := ⟨b2, off2 + k, none⟩) (by show b2 ≠ g; omega) (bcell hb1 hbb2 c2)
      clear c2
      have c0 := HW.out.cell? (i := k) (ints_get (by rw [tab_length]; exact hlt))
      rw [tab_getD hlt, if_neg (Nat.lt_irrefl k)] at c0
      have f0 := HW.out.frozen k
      have hx := HD.out k hlt
      have hy := HD2.out k hlt
      have st : Own (wr.setCell ⟨g, k, none⟩ (.int .i64 (fo d k + fo d2 k))) g 3 (ints (tab N fun j => if j < k + 1 then fo d j + fo d2 j else fo d j)) := by
        have := HW.out.set k (.int .i64 (fo d k + fo d2 k))
        rw [ints_set, tab_set] at this
        refine this.congr ?_
        congr 1
        refine tab_congr fun i _ => ?_
        by_cases e : i = k
        · subst e; rw [if_pos rfl, if_pos (show i < i + 1 by omega)]
        · rw [if_neg e]
          by_cases e2 : i < k
          · rw [if_pos e2, if_pos (show i < k + 1 by omega)]
          · rw [if_neg e2, if_neg (show ¬ i < k + 1 by omega)]
      have HST := Lib.hid st; clear st
      change wr.cell? ⟨b2, off2 + k, none⟩ = some (.int .i64 (fo d2 k)) at d1
      generalize fo d k = x at c0 hx HST
      generalize fo d2 k = y at d1 hy HST
      go_wp2_with fail
      go_roundw
      case rel => exact ⟨k + 1, by omega, by go_num, HST.out, hchg.trans (Chg.set _ _ _ _)⟩
      case measure => simp [intOf]; omega
    case neg =>
      have he : k = N := by omega
      subst he
      have k0 := (HT1.out.chg hchg (Ne.symm hgne)).cell? (i := 0) rfl
      have k1 := (HT1.out.chg hchg (Ne.symm hgne)).cell? (i := 1) rfl
      have HOO := Lib.hid (HW.out.congr (cs' := ints (addL k d d2)) (by congr 1; exact tab_congr fun j hj => if_pos hj))
      have HG2 := Lib.hid (HG1.out.chg hchg hGg hGgb hGgv (fun i hi => HGr.out i hi))
      have hbw2 := bchg hbw hchg (by omega) hbw.size
      go_wp2_with fail
      refine (topple_any G gb gv capb rb k ls z ⟨g, 0, none⟩ cap1 (addL k d d2) _ HG2.out HG.out HC.out hz (tab_length _ _) HOO.out.rd (fun j hj => ?_)).mono ?_
      · have h1 := HD.out j hj
        have h2 := HD2.out j hj
        have h3 : fo (addL k d d2) j = fo d j + fo d2 j := fo_tab hj
        omega
      rintro e w2 ⟨v, u, rfl, hv, hu, hvu, hb2⟩
      clear hu hvu
      have HV := Lib.hid hv; clear hv
      go_wp2_with fail
      go_ret
      exact ⟨_, rfl, HV.out.mono hbw2.size, ball hbw2 hb2⟩

set_option maxHeartbeats 1600000 in
set_option maxRecDepth 100000 in
theorem specAdd_c (n : Int) (adl : Option Addr) (capl : Nat) (ls : List Lk) (z : Int) (a : Addr) (cap : Nat) (d : List Int) (a2 : Addr) (cap2 : Nat) (d2 : List Int) (w : World) (hl : ls.length ≤ 1048576) (hr : RdL w adl ls) (hl' : d.length ≤ 1048576) (hr' : RdI w (some a) d) (hl2 : d2.length ≤ 1048576) (hr2 : RdI w (some a2) d2) :
    Calls Try.prog 30 #[.int .i64 n, .slice adl ls.length capl, .int .i64 z, .slice (some a) d.length cap, .slice (some a2) d2.length cap2] w (RetLB (addR n ls z d d2) w) := by
  by_cases hp : (pgB n ls z && pileB n z d) = true
  case neg =>
    have hp' := Bool.eq_false_iff.2 hp
    have hR : Hid (addR n ls z d d2 = ([], false)) := if_neg (by
      intro q
      exact hp (by simp [q.1, q.2.1]))
    go_enter Try.func30, Try.ntmps30
    go_wp2_with fail
    refine (piAsked_any n adl capl ls z (some a) cap d _ hl hr hl' hr').mono ?_
    rw [hp']
    rintro e w1 ⟨rfl, hb1⟩
    go_wp2_with fail
    go_ret2
    exact RetLB.no hR.out hb1
  case pos =>
    have hpp := hp
    simp only [Bool.and_eq_true] at hpp
    obtain ⟨N, Z, rfl, rfl, hN1, hN5, hZ, hg, hc, hdl, hdb, hd0⟩ := pile_ok hpp.1 hpp.2
    by_cases hq : pileB N Z d2 = true
    case neg =>
      have hq' := Bool.eq_false_iff.2 hq
      have hR : Hid (addR N ls Z d d2 = ([], false)) := if_neg (by
        intro q
        exact hq q.2.2)
      clear hpp hdl hd0
      go_enter Try.func30, Try.ntmps30
      go_wp2_with fail
      refine (piAsked_any _ adl capl ls _ (some a) cap d _ hl hr hl' hr').mono ?_
      rw [hp]
      rintro e w1 ⟨rfl, hb1⟩
      go_wp2_with fail
      refine (piPile_any N Z (some a2) cap2 d2 _ hl2 (hr2.below hb1) (by omega) (by omega)).mono ?_
      rw [hq']
      rintro e w' ⟨rfl, rfl⟩
      go_wp2_with fail
      go_ret2
      exact RetLB.no hR.out hb1
    case pos =>
      have hR0 : addR N ls Z d d2 = _ := if_pos ⟨hpp.1, hpp.2, hq⟩
      obtain ⟨_, _, e1, e2, _, _, _, _, _, hdl2, hdb2, hd02⟩ := pile_ok hpp.1 hq
      obtain rfl := Int.ofNat.inj e1
      obtain rfl := Int.ofNat.inj e2
      rw [Int.toNat_natCast, Int.toNat_natCast] at hR0
      have hR := Lib.hid hR0; clear hR0 hpp e1 e2
      have HDL := Lib.hid hdl; clear hdl
      have HDL2 := Lib.hid hdl2; clear hdl2
      have HD0 := Lib.hid hd0; clear hd0
      have HD02 := Lib.hid hd02; clear hd02
      go_enter Try.func30, Try.ntmps30
      go_wp2_with fail
      refine (piAsked_any _ adl capl ls _ (some a) cap d _ hl hr hl' hr').mono ?_
      rw [hp]
      rintro e w1 ⟨rfl, hb1⟩
      go_wp2_with fail
      refine (piPile_any N Z (some a2) cap2 d2 _ hl2 (hr2.below hb1) (by omega) (by omega)).mono ?_
      rw [hq]
      rintro e w' ⟨rfl, rfl⟩
      go_wp2_with fail
      rw [HDL.out, HDL2.out]
      refine (piSum_any N adl capl ls Z a cap d a2 cap2 d2 _ hl (hr.below hb1) hg hc hZ HDL.out (hr'.below hb1) HDL2.out (hr2.below hb1) hdb hdb2 HD0.out HD02.out).mono ?_
      rintro e w2 ⟨v, rfl, hv, hb2⟩
      have HV := Lib.hid hv; clear hv
      go_wp2_with fail
      go_ret2
      exact RetLB.of hR.out (HV.out.mono hb1.size) (ball hb1 hb2)

set_option maxHeartbeats 1600000 in
set_option maxRecDepth 100000 in
theorem implAdd_c (n : Int) (adl : Option Addr) (capl : Nat) (ls : List Lk) (z : Int) (a : Addr) (cap : Nat) (d : List Int) (a2 : Addr) (cap2 : Nat) (d2 : List Int) (w : World) (hl : ls.length ≤ 1048576) (hr : RdL w adl ls) (hl' : d.length ≤ 1048576) (hr' : RdI w (some a) d) (hl2 : d2.length ≤ 1048576) (hr2 : RdI w (some a2) d2) :
    Calls Try.prog 31 #[.int .i64 n, .slice adl ls.length capl, .int .i64 z, .slice (some a) d.length cap, .slice (some a2) d2.length cap2] w (RetLB (addR n ls z d d2) w) := by
  have hb0 : Below w.heap.size w (w.alloc (.cells #[.slice (some a) d.length cap, .slice (some a2) d2.length cap2] 23)) := (Below.refl _ _).alloc (Nat.le_refl _) _
  have hon := Own.newA w #[.slice (some a) d.length cap, .slice (some a2) d2.length cap2] 23 (cs := [.slice (some a) d.length cap, .slice (some a2) d2.length cap2]) rfl
  have HON := Lib.hid hon; clear hon
  by_cases hg : goodL n ls = true
  case neg =>
    have hg' := Bool.eq_false_iff.2 hg
    have hR : Hid (addR n ls z d d2 = ([], false)) := if_neg (by simp [pgB_no hg'])
    go_enter Try.func31, Try.ntmps31
    go_wp2_with fail
    refine (withPiles_no n adl capl ls z _ _ hl (hr.below hb0) hg').mono ?_
    rintro e w1 ⟨rfl, hb1⟩
    have hbw := ball hb0 hb1
    go_wp2_with fail
    go_ret2
    exact RetLB.no hR.out (hbw.alloc hbw.size _)
  case pos =>
    by_cases hp : (pgB n ls z && (pileB n z d && pileB n z d2)) = true
    case neg =>
      have hp' : wpB n ls z [d, d2] = false := by rw [wpB_two]; exact Bool.eq_false_iff.2 hp
      have hR : Hid (addR n ls z d d2 = ([], false)) := if_neg (by
        intro q
        exact hp (by simp [q.1, q.2.1, q.2.2]))
      go_enter Try.func31, Try.ntmps31
      go_wp2_with fail
      refine (withPiles_any n adl capl ls z w.heap.size 2 [.slice (some a) d.length cap, .slice (some a2) d2.length cap2] [d, d2] _ hl (hr.below hb0) hg (by simp) HON.out (pilesAt_two hl' (hr'.below hb0) hl2 (hr2.below hb0))).mono ?_
      rw [hp']
      rintro e w1 ⟨G, gb, gv, capb, rb, rfl, hG, hGB, hGV, hb1⟩
      clear hG
      have hbw := ball hb0 hb1
      go_wp2_with fail
      go_ret2
      exact RetLB.no hR.out (hbw.alloc hbw.size _)
    case pos =>
      have hpp := hp
      simp only [Bool.and_eq_true] at hpp
      have hp' : wpB n ls z [d, d2] = true := by rw [wpB_two]; exact hp
      have hR0 : addR n ls z d d2 = _ := if_pos hpp
      obtain ⟨N, Z, rfl, rfl, hN1, hN5, hZ, _, hc, hdl, hdb, hd0⟩ := pile_ok hpp.1 hpp.2.1
      obtain ⟨_, _, e1, e2, _, _, _, _, _, hdl2, hdb2, hd02⟩ := pile_ok hpp.1 hpp.2.2
      obtain rfl := Int.ofNat.inj e1
      obtain rfl := Int.ofNat.inj e2
      rw [Int.toNat_natCast, Int.toNat_natCast] at hR0
      have hR := Lib.hid hR0; clear hR0 hpp hp e1 e2
      have HDL := Lib.hid hdl; clear hdl
      have HDL2 := Lib.hid hdl2; clear hdl2
      clear hd0 hd02
      go_enter Try.func31, Try.ntmps31
      go_wp2_with fail
      refine (withPiles_any _ adl capl ls _ w.heap.size 2 [.slice (some a) d.length cap, .slice (some a2) d2.length cap2] [d, d2] _ hl (hr.below hb0) hg (by simp) HON.out (pilesAt_two hl' (hr'.below hb0) hl2 (hr2.below hb0))).mono ?_
      rw [hp']
      rintro e w1 ⟨G, gb, gv, capb, rb, rfl, hG, hGB, hGV, hb1⟩
      rw [Int.toNat_natCast] at hG
      have hbw := ball hb0 hb1
      have hba := hbw.alloc hbw.size (.cells #[.pointer (some ⟨G, 0, none⟩), .int .i64 Z] 55)
      have HG := Lib.hid (hG.alloc (.cells #[.pointer (some ⟨G, 0, none⟩), .int .i64 Z] 55)); clear hG
      go_wp2_with fail
      rw [HDL.out, HDL2.out]
      refine (tsum_any G gb gv capb rb N ls Z a cap d a2 cap2 d2 _ HG.out hg hc hZ HDL.out (hr'.below hba) HDL2.out (hr2.below hba) hdb hdb2).mono ?_
      rintro e w2 ⟨v, rfl, hv, hb2⟩
      have HV := Lib.hid hv; clear hv
      go_wp2_with fail
      go_ret2
      exact RetLB.of hR.out (HV.out.mono hba.size) (ball hba hb2)

end Go.Proofs.Ytopkohkilmlpaaa
