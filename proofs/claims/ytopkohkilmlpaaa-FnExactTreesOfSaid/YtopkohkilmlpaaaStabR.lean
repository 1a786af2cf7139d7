/-
  Both sides of IsStable and GreatestStable.
-/
import Derived.Test.YtopkohkilmlpaaaWith
namespace Go.Proofs.Ytopkohkilmlpaaa
open Go.RowKit

def AR (n : Int) (ls : List Lk) (z : Int) (ds : List (List Int)) : Prop := pgB n ls z = true ∧ ∀ d ∈ ds, pileB n z d = true

set_option maxHeartbeats 800000 in
theorem piAsked_any (n : Int) (ad : Option Addr) (cap : Nat) (ls : List Lk) (z : Int) (ad' : Option Addr) (cap' : Nat) (d : List Int) (w : World) (hl : ls.length ≤ 1048576) (hr : RdL w ad ls) (hl' : d.length ≤ 1048576) (hr' : RdI w ad' d) :
    Calls Try.prog 39 #[.int .i64 n, .slice ad ls.length cap, .int .i64 z, .slice ad' d.length cap'] w fun e w' => e = .returned (.bool (pgB n ls z && pileB n z d)) ∧ Below w.heap.size w w' := by
  by_cases hp : pgB n ls z = true
  case pos =>
    obtain ⟨hg, h5, he, hc, hz⟩ := pgB_t.1 hp
    obtain ⟨hz0, hz1⟩ := inB_t.1 hz
    have HPP := Lib.hid hp
    go_enter Try.func39, Try.ntmps39
    go_wp2_with fail
    refine (piGraph_any n ad cap ls z _ hl hr).mono ?_
    rw [hp]
    rintro e w1 ⟨rfl, hb1⟩
    go_wp2_with fail
    refine (piPile_any n z ad' cap' d _ hl' (hr'.below hb1) hz0 (by omega)).mono ?_
    rintro e w' ⟨rfl, rfl⟩
    go_wp2_with fail
    go_ret
    exact ⟨ret_bool (by simp [HPP.out]), hb1⟩
  case neg =>
    have hp' := Bool.eq_false_iff.2 hp
    have HPP := Lib.hid hp'
    go_enter Try.func39, Try.ntmps39
    go_wp2_with fail
    refine (piGraph_any n ad cap ls z _ hl hr).mono ?_
    rw [hp']
    rintro e w1 ⟨rfl, hb1⟩
    go_wp2_with fail
    go_ret
    exact ⟨ret_bool (by simp [HPP.out]), hb1⟩

theorem next_stab {N : Nat} {val : Nat → Int} {z : Nat} {c : Nat → Int} {r : Int} (h : Next N val z c r) : decide (r < 0) = stabB N val z c := by
  rcases h with ⟨v, rfl, hv, hvz, hc⟩ | ⟨rfl, hs⟩
  · rw [stabB_f hv hvz hc]; simp
  · rw [stabB_t.2 hs]; rfl

theorem wpB_one {n : Int} {ls : List Lk} {z : Int} {d : List Int} : wpB n ls z [d] = (pgB n ls z && pileB n z d) := by simp [wpB]
theorem wpB_two {n : Int} {ls : List Lk} {z : Int} {d d' : List Int} : wpB n ls z [d, d'] = (pgB n ls z && (pileB n z d && pileB n z d')) := by simp [wpB, List.range_succ]
theorem pilesAt_one {w : World} {a : Addr} {cap : Nat} {d : List Int} (hl : d.length ≤ 1048576) (hr : RdI w (some a) d) : PilesAt w [.slice (some a) d.length cap] [d] := ⟨rfl, fun i v hv => by
  have hi : i = 0 := by have := (List.getElem?_eq_some_iff.1 hv).1; simpa using this
  subst hi
  simp at hv
  subst hv
  exact ⟨some a, cap, rfl, hl, hr⟩⟩
theorem pilesAt_two {w : World} {a a' : Addr} {cap cap' : Nat} {d d' : List Int} (hl : d.length ≤ 1048576) (hr : RdI w (some a) d) (hl' : d'.length ≤ 1048576) (hr' : RdI w (some a') d') : PilesAt w [.slice (some a) d.length cap, .slice (some a') d'.length cap'] [d, d'] := ⟨rfl, fun i v hv => by
  have hi : i = 0 ∨ i = 1 := by have := (List.getElem?_eq_some_iff.1 hv).1; simp at this; omega
  rcases hi with rfl | rfl
  · simp at hv
    subst hv
    exact ⟨some a, cap, rfl, hl, hr⟩
  · simp at hv
    subst hv
    exact ⟨some a', cap', rfl, hl', hr'⟩⟩

set_option maxHeartbeats 800000 in
theorem specStable_c (n : Int) (adl : Option Addr) (capl : Nat) (ls : List Lk) (z : Int) (a : Addr) (cap : Nat) (d : List Int) (w : World) (hl : ls.length ≤ 1048576) (hr : RdL w adl ls) (hl' : d.length ≤ 1048576) (hr' : RdI w (some a) d) :
    Calls Try.prog 22 #[.int .i64 n, .slice adl ls.length capl, .int .i64 z, .slice (some a) d.length cap] w (RetBB (isStableR n ls z d) w) := by
  by_cases hp : (pgB n ls z && pileB n z d) = true
  case pos =>
    have hpp := hp
    simp only [Bool.and_eq_true] at hpp
    have hR : Hid (isStableR n ls z d = (stabB n.toNat (valF ls) z.toNat (fo d), true)) := if_pos hpp
    obtain ⟨hg, h5, he, hc, hz⟩ := pgB_t.1 hpp.1
    obtain ⟨hz0, hz1⟩ := inB_t.1 hz
    have hdl := (pileB_t hpp.2).1
    obtain ⟨zz, rfl⟩ : ∃ k : Nat, z = k := ⟨z.toNat, by omega⟩
    have HDL : Hid (d.length = n.toNat) := by show _ = _; omega
    clear hdl hpp
    go_enter Try.func22, Try.ntmps22
    go_wp2_with fail
    refine (piAsked_any n adl capl ls zz (some a) cap d _ hl hr hl' hr').mono ?_
    rw [hp]
    rintro e w1 ⟨rfl, hb1⟩
    go_wp2_with fail
    rw [HDL.out]
    refine (piNext_any n adl capl ls zz (some a) cap d _ hl (hr.below hb1) hg HDL.out (hr'.below hb1)).mono ?_
    rintro e w2 ⟨⟨r, rfl, hnx⟩, hb2⟩
    have HNX := Lib.hid (next_stab hnx); clear hnx
    have HQ : Hid (isStableR n ls zz d = (decide (r < 0), true)) := by show _ = _; rw [hR.out, HNX.out, Int.toNat_natCast]
    by_cases h0 : r < 0
    all_goals
      go_wp2_with fail
      go_ret2
      exact RetBB.of (by rw [HQ.out] <;> simp [h0]) (ball hb1 hb2)
  case neg =>
    have hp' := Bool.eq_false_iff.2 hp
    have hR : Hid (isStableR n ls z d = (false, false)) := if_neg (by simpa [Bool.and_eq_true] using hp)
    go_enter Try.func22, Try.ntmps22
    go_wp2_with fail
    refine (piAsked_any n adl capl ls z (some a) cap d _ hl hr hl' hr').mono ?_
    rw [hp']
    rintro e w1 ⟨rfl, hb1⟩
    go_wp2_with fail
    go_ret2
    exact RetBB.of hR.out hb1

set_option maxHeartbeats 1600000 in
set_option maxRecDepth 100000 in
theorem implStable_c (n : Int) (adl : Option Addr) (capl : Nat) (ls : List Lk) (z : Int) (a : Addr) (cap : Nat) (d : List Int) (w : World) (hl : ls.length ≤ 1048576) (hr : RdL w adl ls) (hl' : d.length ≤ 1048576) (hr' : RdI w (some a) d) :
    Calls Try.prog 23 #[.int .i64 n, .slice adl ls.length capl, .int .i64 z, .slice (some a) d.length cap] w (RetBB (isStableR n ls z d) w) := by
  have hb0 : Below w.heap.size w (w.alloc (.cells #[.slice (some a) d.length cap] 23)) := (Below.refl _ _).alloc (Nat.le_refl _) _
  have hon := Own.newA w #[.slice (some a) d.length cap] 23 (cs := [.slice (some a) d.length cap]) rfl
  have HON := Lib.hid hon; clear hon
  by_cases hg : goodL n ls = true
  case neg =>
    have hg' := Bool.eq_false_iff.2 hg
    have hR : Hid (isStableR n ls z d = (false, false)) := if_neg (by simp [pgB_no hg'])
    go_enter Try.func23, Try.ntmps23
    go_wp2_with fail
    refine (withPiles_no n adl capl ls z _ _ hl (hr.below hb0) hg').mono ?_
    rintro e w1 ⟨rfl, hb1⟩
    have hbw := ball hb0 hb1
    go_wp2_with fail
    go_ret2
    exact RetBB.of hR.out (hbw.alloc hbw.size _)
  case pos =>
    by_cases hp : (pgB n ls z && pileB n z d) = true
    case neg =>
      have hp' : wpB n ls z [d] = false := by rw [wpB_one]; exact Bool.eq_false_iff.2 hp
      have hR : Hid (isStableR n ls z d = (false, false)) := if_neg (by simpa [Bool.and_eq_true] using hp)
      go_enter Try.func23, Try.ntmps23
      go_wp2_with fail
      refine (withPiles_any n adl capl ls z w.heap.size 1 [.slice (some a) d.length cap] [d] _ hl (hr.below hb0) hg (by simp) HON.out (pilesAt_one hl' (hr'.below hb0))).mono ?_
      rw [hp']
      rintro e w1 ⟨G, gb, gv, capb, rb, rfl, hG, hGB, hGV, hb1⟩
      clear hG
      have hbw := ball hb0 hb1
      go_wp2_with fail
      go_ret2
      exact RetBB.of hR.out (hbw.alloc hbw.size _)
    case pos =>
      have hpp := hp
      simp only [Bool.and_eq_true] at hpp
      have hp' : wpB n ls z [d] = true := by rw [wpB_one]; exact hp
      have hR : Hid (isStableR n ls z d = (stabB n.toNat (valF ls) z.toNat (fo d), true)) := if_pos hpp
      obtain ⟨_, h5, he, hc, hz⟩ := pgB_t.1 hpp.1
      obtain ⟨hz0, hz1⟩ := inB_t.1 hz
      have hdl := (pileB_t hpp.2).1
      obtain ⟨zz, rfl⟩ : ∃ k : Nat, z = k := ⟨z.toNat, by omega⟩
      have HDL : Hid (d.length = n.toNat) := by show _ = _; omega
      clear hdl hpp hp
      go_enter Try.func23, Try.ntmps23
      go_wp2_with fail
      refine (withPiles_any n adl capl ls zz w.heap.size 1 [.slice (some a) d.length cap] [d] _ hl (hr.below hb0) hg (by simp) HON.out (pilesAt_one hl' (hr'.below hb0))).mono ?_
      rw [hp']
      rintro e w1 ⟨G, gb, gv, capb, rb, rfl, hG, hGB, hGV, hb1⟩
      have hbw := ball hb0 hb1
      have hba := hbw.alloc hbw.size (.cells #[.pointer (some ⟨G, 0, none⟩), .int .i64 zz] 55)
      have HG := Lib.hid (hG.alloc (.cells #[.pointer (some ⟨G, 0, none⟩), .int .i64 zz] 55)); clear hG
      go_wp2_with fail
      rw [HDL.out]
      refine (isStable_any G gb gv capb rb n.toNat _ _ _ zz (some a) cap d _ HG.out (by omega) HDL.out (hr'.below hba)).mono ?_
      rintro e w2 ⟨rfl, hb2⟩
      go_wp2_with fail
      go_ret2
      exact RetBB.of (by rw [hR.out, Int.toNat_natCast]) (ball hba hb2)

noncomputable def greatR (n : Int) (ls : List Lk) (z : Int) : List Int × Bool := if pgB n ls z = true then (tab n.toNat (fun i => if i = z.toNat then 0 else valF ls i - 1), true) else ([], false)
theorem greatR_len (n : Int) (ls : List Lk) (z : Int) : (greatR n ls z).1.length ≤ 1048576 := by
  unfold greatR
  split
  · rename_i h
    have := good_n (pgB_t.1 h).1
    rw [tab_length]; omega
  · simp

set_option maxHeartbeats 1600000 in
set_option maxRecDepth 100000 in
theorem piGreatest_any (n : Int) (adl : Option Addr) (capl : Nat) (ls : List Lk) (z : Nat) (w : World) (hl : ls.length ≤ 1048576) (hrl : RdL w adl ls) (hg : goodL n ls = true) :
    Calls Try.prog 38 #[.int .i64 n, .slice adl ls.length capl, .int .i64 z] w fun e w' => ∃ v, e = .returned v ∧ ResI w' w.heap.size 3 v (tab n.toNat (fun i => if i = z then 0 else valF ls i - 1)) ∧ Below w.heap.size w w' := by
  obtain ⟨hn1, hn2⟩ := good_n hg
  obtain ⟨N, rfl⟩ : ∃ N : Nat, n = N := ⟨n.toNat, by omega⟩
  rw [Int.toNat_natCast]
  have hvb : ∀ i, 0 ≤ valF ls i ∧ valF ls i ≤ 10485760 := fun i => by have := valF_bound hg hl ls.length i; rwa [List.take_length] at this
  have HVB := Lib.hid hvb; clear hvb
  go_enter Try.func38, Try.ntmps38
  go_wp2_with fail
  refine (chVal_any _ adl capl ls _ hl hrl hg).mono ?_
  rw [Int.toNat_natCast]
  rintro e w1 ⟨v, rfl, hv, hb1⟩
  rcases hv with ⟨_, h0⟩ | ⟨g, cap, e', hgB, ho⟩
  · have := congrArg List.length h0
    rw [tab_length] at this
    simp at this
    omega
  rw [tab_length] at e'
  subst e'
  have HO := Lib.hid ho; clear ho
  go_wp2_with fail
  go_loopw [14] (fun i wr => ∃ k : Nat, k ≤ N ∧ i = .int .i64 k ∧ Own wr g 3 (ints (tab N fun i => if i < k then (if i = z then 0 else valF ls i - 1) else valF ls i)) ∧ Chg g w1 wr) (fun i _ => N - (intOf i).toNat)
  case atStart => exact ⟨0, Nat.zero_le _, rfl, HO.out.congr (by congr 1), Chg.refl _ _⟩
  case round =>
    obtain ⟨k, hk, rfl, hown, hchg⟩ := hrel
    have HW := Lib.hid hown; clear hown
    by_cases hlt : k < N
    case neg =>
      have he : k = N := by omega
      subst he
      go_wp2_with fail
      go_ret
      refine ⟨_, rfl, Or.inr ⟨g, cap, by rw [tab_length]; rfl, hgB, HW.out.congr ?_⟩, bchg hb1 hchg hgB hb1.size⟩
      congr 1
      exact tab_congr fun i hi => by rw [if_pos hi]
    case pos =>
      have c0 := HW.out.cell? (i := k) (ints_get (by rw [tab_length]; exact hlt))
      rw [tab_getD hlt, if_neg (Nat.lt_irrefl k)] at c0
      have f0 := HW.out.frozen k
      have xb := HVB.out k
      have st : ∀ x : Int, x = (if k = z then 0 else valF ls k - 1) → Own (wr.setCell ⟨g, k, none⟩ (.int .i64 x)) g 3 (ints (tab N fun i => if i < k + 1 then (if i = z then 0 else valF ls i - 1) else valF ls i)) := fun x hx => by
        have := HW.out.set k (.int .i64 x)
        rw [ints_set, tab_set] at this
        refine this.congr ?_
        congr 1
        refine tab_congr fun i _ => ?_
        by_cases e : i = k
        · subst e; rw [if_pos rfl, if_pos (show i < i + 1 by omega), hx]
        · rw [if_neg e]
          by_cases e2 : i < k
          · rw [if_pos e2, if_pos (show i < k + 1 by omega)]
          · rw [if_neg e2, if_neg (show ¬ i < k + 1 by omega)]
      have HST := Lib.hid st; clear st
      generalize hx : valF ls k = x at c0 xb HST
      have HX := Lib.hid hx; clear hx
      by_cases hkz : k = z
      case pos =>
        have hd1 : ((k : Int) == (z : Int)) = true := by simp [hkz]
        have HK := Lib.hid hkz; clear hkz
        go_wp2_with fail
        go_roundw
        case rel => exact ⟨k + 1, by omega, by go_num, HST.out 0 (by rw [if_pos HK.out]), hchg.trans (Chg.set _ _ _ _)⟩
        case measure => simp [intOf]; omega
      case neg =>
        have hd1 : ((k : Int) == (z : Int)) = false := by simpa using fun q => hkz (by omega)
        have HK := Lib.hid hkz; clear hkz
        go_wp2_with fail
        go_roundw
        case rel => exact ⟨k + 1, by omega, by go_num, HST.out _ (by rw [if_neg HK.out]), hchg.trans (Chg.set _ _ _ _)⟩
        case measure => simp [intOf]; omega

set_option maxHeartbeats 800000 in
theorem specGreat_c (n : Int) (adl : Option Addr) (capl : Nat) (ls : List Lk) (z : Int) (w : World) (hl : ls.length ≤ 1048576) (hr : RdL w adl ls) :
    Calls Try.prog 17 #[.int .i64 n, .slice adl ls.length capl, .int .i64 z] w (RetLB (greatR n ls z) w) := by
  by_cases hp : pgB n ls z = true
  case pos =>
    obtain ⟨hg, h5, he, hc, hz⟩ := pgB_t.1 hp
    obtain ⟨hz0, hz1⟩ := inB_t.1 hz
    obtain ⟨zz, rfl⟩ : ∃ k : Nat, z = k := ⟨z.toNat, by omega⟩
    have hR : Hid (greatR n ls zz = (tab n.toNat (fun i => if i = zz then 0 else valF ls i - 1), true)) := by show _ = _; unfold greatR; rw [if_pos hp, Int.toNat_natCast]
    go_enter Try.func17, Try.ntmps17
    go_wp2_with fail
    refine (piGraph_any n adl capl ls zz _ hl hr).mono ?_
    rw [hp]
    rintro e w1 ⟨rfl, hb1⟩
    go_wp2_with fail
    refine (piGreatest_any n adl capl ls zz _ hl (hr.below hb1) hg).mono ?_
    rintro e w2 ⟨v, rfl, hv, hb2⟩
    have HV := Lib.hid hv; clear hv
    go_wp2_with fail
    go_ret2
    exact RetLB.of hR.out (HV.out.mono hb1.size) (ball hb1 hb2)
  case neg =>
    have hp' := Bool.eq_false_iff.2 hp
    have hR : Hid (greatR n ls z = ([], false)) := if_neg hp
    go_enter Try.func17, Try.ntmps17
    go_wp2_with fail
    refine (piGraph_any n adl capl ls z _ hl hr).mono ?_
    rw [hp']
    rintro e w1 ⟨rfl, hb1⟩
    go_wp2_with fail
    go_ret2
    exact RetLB.no hR.out hb1

set_option maxHeartbeats 1600000 in
set_option maxRecDepth 100000 in
theorem implGreat_c (n : Int) (adl : Option Addr) (capl : Nat) (ls : List Lk) (z : Int) (w : World) (hl : ls.length ≤ 1048576) (hr : RdL w adl ls) :
    Calls Try.prog 18 #[.int .i64 n, .slice adl ls.length capl, .int .i64 z] w (RetLB (greatR n ls z) w) := by
  by_cases hg : goodL n ls = true
  case neg =>
    have hg' := Bool.eq_false_iff.2 hg
    have hR : Hid (greatR n ls z = ([], false)) := if_neg (by simp [pgB_no hg'])
    go_enter Try.func18, Try.ntmps18
    go_wp2_with fail
    refine (tableOf_no n adl capl ls z _ hl hr hg').mono ?_
    rintro e w1 ⟨rfl, hb1⟩
    go_wp2_with fail
    go_ret2
    exact RetLB.no hR.out (hb1.alloc hb1.size _)
  case pos =>
    by_cases hp : pgB n ls z = true
    case neg =>
      have hp' := Bool.eq_false_iff.2 hp
      have hR : Hid (greatR n ls z = ([], false)) := if_neg hp
      go_enter Try.func18, Try.ntmps18
      go_wp2_with fail
      refine (tableOf_any n adl capl ls z _ hl hr hg).mono ?_
      rw [hp']
      rintro e w1 ⟨G, gb, gv, capb, rb, rfl, hG, hGB, hGV, hb1⟩
      clear hG
      go_wp2_with fail
      go_ret2
      exact RetLB.no hR.out (hb1.alloc hb1.size _)
    case pos =>
      obtain ⟨_, h5, he, hc, hz⟩ := pgB_t.1 hp
      obtain ⟨hz0, hz1⟩ := inB_t.1 hz
      obtain ⟨hn1, hn2⟩ := good_n hg
      obtain ⟨zz, rfl⟩ : ∃ k : Nat, z = k := ⟨z.toNat, by omega⟩
      have hR : Hid (greatR n ls zz = (tab n.toNat (fun i => if i = zz then 0 else valF ls i - 1), true)) := by show _ = _; unfold greatR; rw [if_pos hp, Int.toNat_natCast]
      have hvb : ∀ i, 0 ≤ valF ls i ∧ valF ls i ≤ 10485760 := fun i => by have := valF_bound hg hl ls.length i; rwa [List.take_length] at this
      have HVB := Lib.hid hvb; clear hvb
      obtain ⟨N, rfl⟩ : ∃ N : Nat, n = N := ⟨n.toNat, by omega⟩
      rw [Int.toNat_natCast] at hR
      have hmk := run_makeN (P := Try.prog) 23 3 (.int .i64 0) 1 8 Try.underlying23 Try.infoI N (by omega) (by omega)
      simp only [Value.cells, Nat.mul_one] at hmk
      go_enter Try.func18, Try.ntmps18
      go_wp2_with fail
      refine (tableOf_any _ adl capl ls zz _ hl hr hg).mono ?_
      rw [hp]
      rintro e w1 ⟨G, gb, gv, capb, rb, rfl, hG, hGB, hGV, hb1⟩
      rw [Int.toNat_natCast] at hG
      have hgvl := hG.hv.lt
      have hb2 := (hb1.alloc hb1.size (.cells #[.pointer (some ⟨G, 0, none⟩), .int .i64 zz] 55)).alloc (by have := hb1.size; simp; omega) (.cells (madeCells #[.int .i64 0] N) 3)
      have HG := Lib.hid ((hG.alloc (.cells #[.pointer (some ⟨G, 0, none⟩), .int .i64 zz] 55)).alloc (.cells (madeCells #[.int .i64 0] N) 3)); clear hG
      have HT := Lib.hid ((Own.newA w1 #[.pointer (some ⟨G, 0, none⟩), .int .i64 zz] 55 rfl).alloc (.cells (madeCells #[.int .i64 0] N) 3))
      have HO := Lib.hid (Own.newA (w1.alloc (.cells #[.pointer (some ⟨G, 0, none⟩), .int .i64 zz] 55)) _ 3 (madeInts N))
      go_wp2_with fail
      simp only [World.size_alloc] at HO
      generalize (w1.alloc (.cells #[.pointer (some ⟨G, 0, none⟩), .int .i64 zz] 55)).alloc (.cells (madeCells #[.int .i64 0] N) 3) = W at HG HT HO hb2 ⊢
      go_loopw [25] (fun i wr => ∃ k : Nat, k ≤ N ∧ i = .int .i64 k ∧ Own wr (w1.heap.size + 1) 3 (ints (tab N fun i => if i < k then (if i = zz then 0 else valF ls i - 1) else 0)) ∧ Chg (w1.heap.size + 1) W wr) (fun i _ => N - (intOf i).toNat)
      case atStart => exact ⟨0, Nat.zero_le _, rfl, HO.out.congr (by congr 1), Chg.refl _ _⟩
      case round =>
        obtain ⟨k, hk, rfl, hown, hchg⟩ := hrel
        have HW := Lib.hid hown; clear hown
        by_cases hlt : k < N
        case neg =>
          have he : k = N := by omega
          subst he
          go_wp2_with fail
          go_ret2
          refine RetLB.of hR.out (Or.inr ⟨_, k, by rw [tab_length]; rfl, by have := hb1.size; omega, HW.out.congr ?_⟩) (bchg hb2 hchg (by have := hb1.size; omega) hb2.size)
          congr 1
          exact tab_congr fun i hi => by rw [if_pos hi]
        case pos =>
          have hne : G ≠ w1.heap.size + 1 := HG.out.hG.ne_of_type HO.out (by decide)
          have t0 := (HT.out.chg hchg (by omega)).cell? (i := 0) rfl
          have e2 := (HG.out.hG.chg hchg hne).cell? (i := 2) rfl
          have f0 := HW.out.frozen k
          have cz := HW.out.cell? (i := k) (ints_get (by rw [tab_length]; exact hlt))
          rw [tab_getD hlt, if_neg (Nat.lt_irrefl k)] at cz
          have xb := HVB.out k
          have st : ∀ x : Int, x = (if k = zz then 0 else valF ls k - 1) → Own (wr.setCell ⟨w1.heap.size + 1, k, none⟩ (.int .i64 x)) (w1.heap.size + 1) 3 (ints (tab N fun i => if i < k + 1 then (if i = zz then 0 else valF ls i - 1) else 0)) := fun x hx => by
            have := HW.out.set k (.int .i64 x)
            rw [ints_set, tab_set] at this
            refine this.congr ?_
            congr 1
            refine tab_congr fun i _ => ?_
            by_cases e : i = k
            · subst e; rw [if_pos rfl, if_pos (show i < i + 1 by omega), hx]
            · rw [if_neg e]
              by_cases e2 : i < k
              · rw [if_pos e2, if_pos (show i < k + 1 by omega)]
              · rw [if_neg e2, if_neg (show ¬ i < k + 1 by omega)]
          have HST := Lib.hid st; clear st
          have hnv : gv ≠ w1.heap.size + 1 := by omega
          have cv := (HG.out.hv.chg hchg hnv).cell? (i := k) (ints_get (by rw [tab_length]; exact hlt))
          rw [tab_getD hlt] at cv
          generalize hx : valF ls k = x at cv xb HST
          have HX := Lib.hid hx; clear hx
          by_cases hkz : k = zz
          case pos =>
            have hd1 : ((k : Int) == (zz : Int)) = true := by simp [hkz]
            have hd2 : ((k : Int) != (zz : Int)) = false := by simp [hkz]
            have stay : Own wr (w1.heap.size + 1) 3 (ints (tab N fun i => if i < k + 1 then (if i = zz then 0 else valF ls i - 1) else 0)) := by
              refine HW.out.congr ?_
              congr 1
              refine tab_congr fun i _ => ?_
              by_cases e : i = k
              · subst e; rw [if_neg (Nat.lt_irrefl _), if_pos (show i < i + 1 by omega), if_pos hkz]
              · by_cases e2 : i < k
                · rw [if_pos e2, if_pos (show i < k + 1 by omega)]
                · rw [if_neg e2, if_neg (show ¬ i < k + 1 by omega)]
            have HSY := Lib.hid stay; clear stay
            have HK := Lib.hid hkz; clear hkz
            go_wp2_with fail
            go_roundw
            case rel => exact ⟨k + 1, by omega, by go_num, HSY.out, hchg⟩
            case measure => simp [intOf]; omega
          case neg =>
            have hd1 : ((k : Int) == (zz : Int)) = false := by simpa using fun q => hkz (by omega)
            have hd2 : ((k : Int) != (zz : Int)) = true := by simpa using fun q => hkz (by omega)
            have HK := Lib.hid hkz; clear hkz
            go_wp2_with fail
            go_roundw
            case rel => exact ⟨k + 1, by omega, by go_num, HST.out _ (by rw [if_neg HK.out]), hchg.trans (Chg.set _ _ _ _)⟩
            case measure => simp [intOf]; omega

end Go.Proofs.Ytopkohkilmlpaaa
