/-
  Firing a set of vertices: both sides of FireSet.
-/
import Derived.Test.YtopkohkilmlpaaaFireR
import Derived.Test.YtopkohkilmlpaaaLinks
namespace Go.Proofs.Ytopkohkilmlpaaa
open Go.RowKit

def fireSetR (n : Int) (ls : List Lk) (d s : List Int) : List Int × Bool := if bothB n ls d = true ∧ risB s 0 (n - 1) = true then tellR n (resF n ls d (tab n.toNat (setF s))) else ([], false)
theorem fireSetR_len (n : Int) (ls : List Lk) (d s : List Int) : (fireSetR n ls d s).1.length ≤ 1048576 := by
  unfold fireSetR
  split
  · rename_i h
    have := good_n (bothB_t h.1).1
    exact tellR_len (by omega)
  · simp

set_option maxHeartbeats 800000 in
set_option maxRecDepth 100000 in
theorem specFireSet_c (n : Int) (adl : Option Addr) (capl : Nat) (ls : List Lk) (a : Addr) (cap : Nat) (d : List Int) (a2 : Addr) (cap2 : Nat) (s : List Int) (w : World) (hl : ls.length ≤ 1048576) (hr : RdL w adl ls) (hl' : d.length ≤ 1048576) (hr' : RdI w (some a) d) (hl2 : s.length ≤ 1048576) (hr2 : RdI w (some a2) s) :
    Calls Try.prog 24 #[.int .i64 n, .slice adl ls.length capl, .slice (some a) d.length cap, .slice (some a2) s.length cap2] w (RetLB (fireSetR n ls d s) w) := by
  by_cases hg : bothB n ls d = true
  · obtain ⟨hgl, _⟩ := bothB_t hg
    obtain ⟨hn1, hn2⟩ := good_n hgl
    by_cases hv0 : risB s 0 (n - 1) = true
    · have hR : Hid (fireSetR n ls d s = tellR n (resF n ls d (tab n.toNat (setF s)))) := if_pos ⟨hg, hv0⟩
      have hvb := fun (j : Nat) (hj : j < s.length) => risB_bounds hv0 hj
      obtain ⟨hdl, hdb⟩ := bothB_bounds hg
      have HDL := Lib.hid hdl; clear hdl
      · go_enter Try.func24, Try.ntmps24
        go_wp2_with fail
        refine (chBoth_any n adl capl ls (some a) cap d _ hl hr hl' hr').mono ?_
        rw [hg]
        rintro e w1 ⟨rfl, hb1⟩
        go_wp2_with fail
        refine (l1Ris_any (some a2) cap2 s (n - 1) _ hl2 (hr2.below hb1)).mono ?_
        rw [hv0]
        rintro e w' ⟨rfl, rfl⟩
        go_wp2_with fail
        obtain ⟨N, rfl⟩ : ∃ N : Nat, n = N := ⟨n.toNat, by omega⟩
        refine (chSet_any N a2 cap2 s _ (by omega) hl2 (hr2.below hb1) (fun j hj => by have := hvb j hj; omega)).mono ?_
        rintro e w2 ⟨g, rfl, hgg, hog, hb2⟩
        have bb2 := ball hb1 hb2
        have HOG := Lib.hid hog; clear hog
        go_wp2_with fail
        rw [HDL.out]
        refine (chFire_any (N : Int) adl capl ls a cap d ⟨g, 0, none⟩ N (tab N (setF s)) _ hl (hr.below bb2) hgl HDL.out (by rw [tab_length]; simp) (hr'.below bb2) HOG.out.rd hdb (fun u hu => setList_bounds N s u (by simpa using hu))).mono ?_
        rintro e w3 ⟨vv, rfl, hv, hb3⟩
        have hlen : (resF N ls d (tab N (setF s))).length ≤ 1048576 := by unfold resF; rw [tab_length]; simp; omega
        obtain ⟨ad3, cap3, rfl, hrd⟩ := hv.rd
        have HRES := Lib.hid (hv.mono bb2.size)
        change ResI _ _ _ _ (resF N ls d (tab N (setF s))) at hv
        change RdI _ _ (resF N ls d (tab N (setF s))) at hrd
        have bb := ball bb2 hb3
        clear hv
        by_cases hc : chipsB (N : Int) (resF (N : Int) ls d (tab N (setF s))) = true
        · have hR2 : Hid (fireSetR (N : Int) ls d s = (resF (N : Int) ls d (tab N (setF s)), true)) := by show _ = _; rw [hR.out]; exact if_pos hc
          go_wp2_with fail
          refine (chIf_yes (N : Int) ad3 cap3 _ _ hlen hrd hc).mono ?_
          rintro e w9 ⟨rfl, rfl⟩
          go_wp2
          go_ret2
          exact RetLB.of hR2.out HRES.out bb
        · have hc' := Bool.eq_false_iff.2 hc
          have hR2 : Hid (fireSetR (N : Int) ls d s = ([], false)) := by show _ = _; rw [hR.out]; exact if_neg hc
          go_wp2_with fail
          refine (chIf_no (N : Int) ad3 cap3 _ _ hlen hrd hc').mono ?_
          rintro e w9 ⟨rfl, rfl⟩
          go_wp2
          go_ret2
          exact RetLB.no hR2.out bb

    · have hv0' := Bool.eq_false_iff.2 hv0
      have hR : Hid (fireSetR n ls d s = ([], false)) := if_neg (by simp [hv0'])
      go_enter Try.func24, Try.ntmps24
      go_wp2_with fail
      refine (chBoth_any n adl capl ls (some a) cap d _ hl hr hl' hr').mono ?_
      rw [hg]
      rintro e w1 ⟨rfl, hb1⟩
      go_wp2_with fail
      refine (l1Ris_any (some a2) cap2 s (n - 1) _ hl2 (hr2.below hb1)).mono ?_
      rw [hv0']
      rintro e w' ⟨rfl, rfl⟩
      go_wp2
      go_ret2
      exact RetLB.no hR.out hb1
  · have hg' := Bool.eq_false_iff.2 hg
    have hR : Hid (fireSetR n ls d s = ([], false)) := if_neg (by simp [hg'])
    go_enter Try.func24, Try.ntmps24
    go_wp2_with fail
    refine (chBoth_any n adl capl ls (some a) cap d _ hl hr hl' hr').mono ?_
    rw [hg']
    rintro e w1 ⟨rfl, hb1⟩
    go_wp2
    go_ret2
    exact RetLB.no hR.out hb1

set_option maxHeartbeats 800000 in
set_option maxRecDepth 100000 in
theorem implFireSet_c (n : Int) (adl : Option Addr) (capl : Nat) (ls : List Lk) (a : Addr) (cap : Nat) (d : List Int) (a2 : Addr) (cap2 : Nat) (s : List Int) (w : World) (hl : ls.length ≤ 1048576) (hr : RdL w adl ls) (hl' : d.length ≤ 1048576) (hr' : RdI w (some a) d) (hl2 : s.length ≤ 1048576) (hr2 : RdI w (some a2) s) :
    Calls Try.prog 25 #[.int .i64 n, .slice adl ls.length capl, .slice (some a) d.length cap, .slice (some a2) s.length cap2] w (RetLB (fireSetR n ls d s) w) := by
  by_cases hgl : goodL n ls = true
  · obtain ⟨hn1, hn2⟩ := good_n hgl
    by_cases hgc : chipsB n d = true
    · have hg : bothB n ls d = true := by simp [bothB, hgl, hgc]
      have hnn1 : Hid (risB s 0 ((n.toNat : Int) - 1) = risB s 0 (n - 1)) := by show _ = _; rw [Int.toNat_of_nonneg (by omega)]
      by_cases hv0 : risB s 0 (n - 1) = true
      · have hR : Hid (fireSetR n ls d s = tellR n (resF n ls d (tab n.toNat (setF s)))) := if_pos ⟨hg, hv0⟩
        obtain ⟨hdl, hdb⟩ := bothB_bounds hg
        have hvb := fun (j : Nat) (hj : j < s.length) => risB_bounds hv0 hj
        have HDL := Lib.hid hdl; clear hdl
        clear hg
        go_enter Try.func25, Try.ntmps25
        go_wp2_with fail
        refine (withDiv_any n adl capl ls (some a) cap d _ hl hr hl' hr' hgl).mono ?_
        rw [hgc]
        rintro e w1 ⟨G, gb, gv, capb, rb, rfl, hG, hGB, hGV, hb1⟩
        have HG := Lib.hid hG; clear hG
        go_wp2_with fail
        refine (isSet_any G gb gv capb rb n.toNat _ _ _ (some a2) cap2 s _ HG.out (by omega) hl2 (hr2.below hb1)).mono ?_
        rw [hnn1.out, hv0]
        rintro e w' ⟨rfl, rfl⟩
        go_wp2_with fail
        refine (scriptOf_any G gb gv capb rb n.toNat _ _ _ a2 cap2 s _ HG.out (by omega) hl2 (hr2.below hb1) (fun j hj => by have := hvb j hj; omega)).mono ?_
        rintro e w2 ⟨g, rfl, hgg, hog, hb2⟩
        have bb2 := ball hb1 hb2
        have HOG := Lib.hid hog; clear hog
        have HG2 := Lib.hid (HG.out.below hb2)
        go_wp2_with fail
        rw [HDL.out]
        refine (fireScript_any G gb gv capb rb n.toNat _ _ _ a cap d ⟨g, 0, none⟩ n.toNat (tab n.toNat (setF s)) _ HG2.out (by omega) (by omega) HDL.out (tab_length _ _) (hr'.below bb2) HOG.out.rd hdb (setList_bounds _ _) (fun v _ => by have := valF_bound hgl hl ls.length v; rwa [List.take_length] at this) (fun v j _ _ => by have := betF_bound hgl ls.length v j; rwa [List.take_length] at this) (fun v _ => betF_diag hgl v)).mono ?_
        rintro e w3 ⟨vv, rfl, hv, hb3⟩
        have hlen : (resF n ls d (tab n.toNat (setF s))).length ≤ 1048576 := by unfold resF; rw [tab_length]; omega
        obtain ⟨ad3, cap3, rfl, hrd⟩ := hv.rd
        have HRES := Lib.hid (hv.mono bb2.size)
        have bb := ball bb2 hb3
        have HG3 := Lib.hid (HG2.out.below hb3)
        change ResI _ _ _ _ (resF n ls d (tab n.toNat (setF s))) at hv
        change RdI _ _ (resF n ls d (tab n.toNat (setF s))) at hrd
        clear hv
        have hnn : chipsB (n.toNat : Int) (resF n ls d (tab n.toNat (setF s))) = chipsB n (resF n ls d (tab n.toNat (setF s))) := by rw [Int.toNat_of_nonneg (by omega)]
        have HNN := Lib.hid hnn; clear hnn
        by_cases hc : chipsB n (resF n ls d (tab n.toNat (setF s))) = true
        · have hR2 : Hid (fireSetR n ls d s = (resF n ls d (tab n.toNat (setF s)), true)) := by show _ = _; rw [hR.out]; exact if_pos hc
          go_wp2_with fail
          refine (told_yes G gb gv capb rb n.toNat _ _ _ ad3 cap3 _ _ HG3.out hlen hrd (by rw [HNN.out]; exact hc)).mono ?_
          rintro e w9 ⟨rfl, hb9⟩
          go_wp2
          go_ret2
          exact RetLB.of hR2.out (HRES.out.below hb9) (ball bb hb9)
        · have hc' := Bool.eq_false_iff.2 hc
          have hR2 : Hid (fireSetR n ls d s = ([], false)) := by show _ = _; rw [hR.out]; exact if_neg hc
          go_wp2_with fail
          refine (told_no G gb gv capb rb n.toNat _ _ _ ad3 cap3 _ _ HG3.out hlen hrd (by rw [HNN.out]; exact hc')).mono ?_
          rintro e w9 ⟨rfl, hb9⟩
          go_wp2
          go_ret2
          exact RetLB.no hR2.out (ball bb hb9)

      · have hv0' := Bool.eq_false_iff.2 hv0
        have hR : Hid (fireSetR n ls d s = ([], false)) := if_neg (by simp [hv0'])
        clear hg
        go_enter Try.func25, Try.ntmps25
        go_wp2_with fail
        refine (withDiv_any n adl capl ls (some a) cap d _ hl hr hl' hr' hgl).mono ?_
        rw [hgc]
        rintro e w1 ⟨G, gb, gv, capb, rb, rfl, hG, hGB, hGV, hb1⟩
        have HG := Lib.hid hG; clear hG
        go_wp2_with fail
        refine (isSet_any G gb gv capb rb n.toNat _ _ _ (some a2) cap2 s _ HG.out (by omega) hl2 (hr2.below hb1)).mono ?_
        rw [hnn1.out, hv0']
        rintro e w' ⟨rfl, rfl⟩
        go_wp2
        go_ret2
        exact RetLB.no hR.out hb1
    · have hgc' := Bool.eq_false_iff.2 hgc
      have hR : Hid (fireSetR n ls d s = ([], false)) := if_neg (by simp [bothB, hgc'])
      go_enter Try.func25, Try.ntmps25
      go_wp2_with fail
      refine (withDiv_any n adl capl ls (some a) cap d _ hl hr hl' hr' hgl).mono ?_
      rw [hgc']
      rintro e w1 ⟨G, gb, gv, capb, rb, rfl, hG, hGB, hGV, hb1⟩
      clear hG
      go_wp2
      go_ret2
      exact RetLB.no hR.out hb1
  · have hgl' := Bool.eq_false_iff.2 hgl
    have hR : Hid (fireSetR n ls d s = ([], false)) := if_neg (by simp [bothB, hgl'])
    go_enter Try.func25, Try.ntmps25
    go_wp2_with fail
    refine (withDiv_no n adl capl ls (some a) cap d _ hl hr hgl').mono ?_
    rintro e w1 ⟨rfl, hb1⟩
    go_wp2
    go_ret2
    exact RetLB.no hR.out hb1

end Go.Proofs.Ytopkohkilmlpaaa
