/-
  FireScript and FireVertex: reference and program.
-/
import Derived.Test.YtcajnfhgpacpcaaFire
namespace Go.Proofs.Ytcajnfhgpacpcaa
open Go.RowKit

def resF (n : Int) (ls : List Lk) (d s : List Int) : List Int := tab n.toNat fun j => d.getD j 0 - accF (fun u => s.getD u 0) (lapF ls) n.toNat j
def tellR (n : Int) (l : List Int) : List Int × Bool := if chipsB n l = true then (l, true) else ([], false)
def scriptOkB (n : Int) (s : List Int) : Bool := decide ((s.length : Int) = n) && allB s (-20) 20
def fireScriptR (n : Int) (ls : List Lk) (d s : List Int) : List Int × Bool := if bothB n ls d = true ∧ scriptOkB n s = true then tellR n (resF n ls d s) else ([], false)
def fireVertexR (n : Int) (ls : List Lk) (d : List Int) (v : Int) : List Int × Bool := if bothB n ls d = true ∧ inB v 0 (n - 1) = true then tellR n (resF n ls d (tab n.toNat (setF [v]))) else ([], false)
theorem tellR_len {n : Int} {l : List Int} (h : n ≤ 1048576) : (tellR n l).1.length ≤ 1048576 := by
  unfold tellR
  split
  · rename_i h2
    have := (chipsB_t h2).1
    simp only
    omega
  · simp
theorem fireScriptR_len (n : Int) (ls : List Lk) (d s : List Int) : (fireScriptR n ls d s).1.length ≤ 1048576 := by
  unfold fireScriptR
  split
  · rename_i h
    have := good_n (bothB_t h.1).1
    exact tellR_len (by omega)
  · simp
theorem fireVertexR_len (n : Int) (ls : List Lk) (d : List Int) (v : Int) : (fireVertexR n ls d v).1.length ≤ 1048576 := by
  unfold fireVertexR
  split
  · rename_i h
    have := good_n (bothB_t h.1).1
    exact tellR_len (by omega)
  · simp

theorem bothB_bounds {n : Int} {ls : List Lk} {d : List Int} (h : bothB n ls d = true) : d.length = n.toNat ∧ ∀ j, j < n.toNat → -1000000000000 ≤ d.getD j 0 ∧ d.getD j 0 ≤ 1000000000000 := by
  obtain ⟨h1, h2⟩ := bothB_t h
  obtain ⟨h3, h4⟩ := chipsB_t h2
  have hl : d.length = n.toNat := by omega
  refine ⟨hl, fun j hj => ?_⟩
  have := h4 j (by omega)
  omega
theorem setList_bounds (N : Nat) (set : List Int) : ∀ u, u < N → -20 ≤ (tab N (setF set)).getD u 0 ∧ (tab N (setF set)).getD u 0 ≤ 20 := fun u hu => by
  rw [tab_getD hu]
  have := setF_bound set u
  omega

set_option maxHeartbeats 400000 in
theorem chIf_yes (n : Int) (ad : Option Addr) (cap : Nat) (xs : List Int) (w : World) (hl : xs.length ≤ 1048576) (hr : RdI w ad xs) (h : chipsB n xs = true) :
    Calls Try.prog 73 #[.int .i64 n, .slice ad xs.length cap] w fun e w' => e = .returned (.tuple #[.slice ad xs.length cap, .bool true]) ∧ w = w' := by
  go_enter Try.func73, Try.ntmps73
  go_wp2_with fail
  refine (chChips_any n ad cap xs _ hl hr).mono ?_
  rw [h]
  rintro e w' ⟨rfl, rfl⟩
  go_wp2
  go_ret2
  exact ⟨rfl, rfl⟩

set_option maxHeartbeats 400000 in
theorem chIf_no (n : Int) (ad : Option Addr) (cap : Nat) (xs : List Int) (w : World) (hl : xs.length ≤ 1048576) (hr : RdI w ad xs) (h : chipsB n xs = false) :
    Calls Try.prog 73 #[.int .i64 n, .slice ad xs.length cap] w fun e w' => e = .returned (.tuple #[.slice none 0 0, .bool false]) ∧ w = w' := by
  go_enter Try.func73, Try.ntmps73
  go_wp2_with fail
  refine (chChips_any n ad cap xs _ hl hr).mono ?_
  rw [h]
  rintro e w' ⟨rfl, rfl⟩
  go_wp2
  go_ret2
  exact ⟨rfl, rfl⟩

set_option maxHeartbeats 400000 in
theorem told_yes (G gb gv capb : Nat) (rb : Nat → Nat) (N : Nat) (bet : Nat → Nat → Int) (val : Nat → Int) (ed : Int) (ad : Option Addr) (cap : Nat) (xs : List Int) (w : World) (hG : GrAt w G gb gv capb rb N bet val ed) (hl : xs.length ≤ 1048576) (hr : RdI w ad xs) (h : chipsB N xs = true) :
    Calls Try.prog 76 #[.pointer (some ⟨G, 0, none⟩), .slice ad xs.length cap] w fun e w' => e = .returned (.tuple #[.slice ad xs.length cap, .bool true]) ∧ Below w.heap.size w w' := by
  go_enter Try.func76, Try.ntmps76
  go_wp2_with fail
  refine (isDivisor_any G gb gv capb rb N bet val ed ad cap xs _ hG hl hr).mono ?_
  rw [h]
  rintro e w1 ⟨rfl, hb⟩
  go_wp2
  go_ret2
  exact ⟨rfl, hb⟩

set_option maxHeartbeats 400000 in
theorem told_no (G gb gv capb : Nat) (rb : Nat → Nat) (N : Nat) (bet : Nat → Nat → Int) (val : Nat → Int) (ed : Int) (ad : Option Addr) (cap : Nat) (xs : List Int) (w : World) (hG : GrAt w G gb gv capb rb N bet val ed) (hl : xs.length ≤ 1048576) (hr : RdI w ad xs) (h : chipsB N xs = false) :
    Calls Try.prog 76 #[.pointer (some ⟨G, 0, none⟩), .slice ad xs.length cap] w fun e w' => e = .returned (.tuple #[.slice none 0 0, .bool false]) ∧ Below w.heap.size w w' := by
  go_enter Try.func76, Try.ntmps76
  go_wp2_with fail
  refine (isDivisor_any G gb gv capb rb N bet val ed ad cap xs _ hG hl hr).mono ?_
  rw [h]
  rintro e w1 ⟨rfl, hb⟩
  go_wp2
  go_ret2
  exact ⟨rfl, hb⟩

set_option maxHeartbeats 400000 in
theorem isVertex_any (G gb gv capb : Nat) (rb : Nat → Nat) (N : Nat) (bet : Nat → Nat → Int) (val : Nat → Int) (ed : Int) (v : Int) (w : World) (hG : GrAt w G gb gv capb rb N bet val ed) (hN : N ≤ 8) :
    Calls Try.prog 80 #[.pointer (some ⟨G, 0, none⟩), .int .i64 v] w fun e w' => e = .returned (.bool (inB v 0 (N - 1))) ∧ w = w' := by
  have c0 := hG.c0
  clear hG
  go_enter Try.func80, Try.ntmps80
  go_wp2_with (go_at_call 81; refine (within_any _ _ _ _).mono ?_; rintro e w' ⟨rfl, rfl⟩)
  go_ret
  exact ⟨rfl, rfl⟩

-- WRAPPERS
set_option maxHeartbeats 800000 in
set_option maxRecDepth 100000 in
theorem specFireScript_c (n : Int) (adl : Option Addr) (capl : Nat) (ls : List Lk) (a : Addr) (cap : Nat) (d : List Int) (a2 : Addr) (cap2 : Nat) (s : List Int) (w : World) (hl : ls.length ≤ 1048576) (hr : RdL w adl ls) (hl' : d.length ≤ 1048576) (hr' : RdI w (some a) d) (hl2 : s.length ≤ 1048576) (hr2 : RdI w (some a2) s) :
    Calls Try.prog 46 #[.int .i64 n, .slice adl ls.length capl, .slice (some a) d.length cap, .slice (some a2) s.length cap2] w (RetLB (fireScriptR n ls d s) w) := by
  by_cases hg : bothB n ls d = true
  · by_cases hsn : (s.length : Int) = n
    · have hsn' : ((s.length : Int) == n) = true := by simpa using hsn
      have hsn2 : ((s.length : Int) != n) = false := by simpa using hsn
      by_cases hsa : allB s (-20) 20 = true
      · have hso : scriptOkB n s = true := by simp [scriptOkB, hsn, hsa]
        have hR : Hid (fireScriptR n ls d s = tellR n (resF n ls d s)) := if_pos ⟨hg, hso⟩
        obtain ⟨hdl, hdb⟩ := bothB_bounds hg
        have hsl : s.length = n.toNat := by omega
        have hsb := allB_t.1 hsa
        rw [hsl] at hsb
        obtain ⟨hgl, _⟩ := bothB_t hg
        have HSN := Lib.hid hsn; clear hsn
        have HDL := Lib.hid hdl; clear hdl
        have HSL := Lib.hid hsl; clear hsl
        clear hso
        go_enter Try.func46, Try.ntmps46
        go_wp2_with fail
        refine (chBoth_any n adl capl ls (some a) cap d _ hl hr hl' hr').mono ?_
        rw [hg]
        rintro e w1 ⟨rfl, hb1⟩
        go_wp2_with fail
        refine (l1All_any (some a2) cap2 s _ _ _ hl2 (hr2.below hb1)).mono ?_
        rw [hsa]
        rintro e w' ⟨rfl, rfl⟩
        go_wp2_with fail
        rw [HDL.out, HSL.out]
        refine (chFire_any n adl capl ls a cap d a2 cap2 s _ hl (hr.below hb1) hgl HDL.out HSL.out (hr'.below hb1) (hr2.below hb1) hdb hsb).mono ?_
        rintro e w2 ⟨v, rfl, hv, hb2⟩
        have hlen : (resF n ls d s).length ≤ 1048576 := by unfold resF; rw [tab_length]; have := good_n hgl; omega
        obtain ⟨ad3, cap3, rfl, hrd⟩ := hv.rd
        have HRES := Lib.hid (hv.mono hb1.size)
        change ResI _ _ _ _ (resF n ls d s) at hv
        change RdI _ _ (resF n ls d s) at hrd
        have bb := ball hb1 hb2
        clear hv
        by_cases hc : chipsB n (resF n ls d s) = true
        · have hR2 : Hid (fireScriptR n ls d s = (resF n ls d s, true)) := by show _ = _; rw [hR.out]; exact if_pos hc
          go_wp2_with fail
          refine (chIf_yes n ad3 cap3 (resF n ls d s) _ hlen hrd hc).mono ?_
          rintro e w9 ⟨rfl, rfl⟩
          go_wp2
          go_ret2
          exact RetLB.of hR2.out HRES.out bb
        · have hc' := Bool.eq_false_iff.2 hc
          have hR2 : Hid (fireScriptR n ls d s = ([], false)) := by show _ = _; rw [hR.out]; exact if_neg hc
          go_wp2_with fail
          refine (chIf_no n ad3 cap3 (resF n ls d s) _ hlen hrd hc').mono ?_
          rintro e w9 ⟨rfl, rfl⟩
          go_wp2
          go_ret2
          exact RetLB.no hR2.out bb

      · have hsa' := Bool.eq_false_iff.2 hsa
        have hR : Hid (fireScriptR n ls d s = ([], false)) := if_neg (by simp [scriptOkB, hsa'])
        have HSN := Lib.hid hsn; clear hsn
        go_enter Try.func46, Try.ntmps46
        go_wp2_with fail
        refine (chBoth_any n adl capl ls (some a) cap d _ hl hr hl' hr').mono ?_
        rw [hg]
        rintro e w1 ⟨rfl, hb1⟩
        go_wp2_with fail
        refine (l1All_any (some a2) cap2 s _ _ _ hl2 (hr2.below hb1)).mono ?_
        rw [hsa']
        rintro e w' ⟨rfl, rfl⟩
        go_wp2
        go_ret2
        exact RetLB.no hR.out hb1
    · have hR : Hid (fireScriptR n ls d s = ([], false)) := if_neg (by simp [scriptOkB, hsn])
      have hsn2 : ((s.length : Int) != n) = true := by simpa using hsn
      have HSN := Lib.hid hsn; clear hsn
      go_enter Try.func46, Try.ntmps46
      go_wp2_with fail
      refine (chBoth_any n adl capl ls (some a) cap d _ hl hr hl' hr').mono ?_
      rw [hg]
      rintro e w1 ⟨rfl, hb1⟩
      go_wp2
      go_ret2
      exact RetLB.no hR.out hb1
  · have hg' := Bool.eq_false_iff.2 hg
    have hR : Hid (fireScriptR n ls d s = ([], false)) := if_neg (by simp [hg'])
    go_enter Try.func46, Try.ntmps46
    go_wp2_with fail
    refine (chBoth_any n adl capl ls (some a) cap d _ hl hr hl' hr').mono ?_
    rw [hg']
    rintro e w1 ⟨rfl, hb1⟩
    go_wp2
    go_ret2
    exact RetLB.no hR.out hb1

set_option maxHeartbeats 800000 in
set_option maxRecDepth 100000 in
theorem implFireScript_c (n : Int) (adl : Option Addr) (capl : Nat) (ls : List Lk) (a : Addr) (cap : Nat) (d : List Int) (a2 : Addr) (cap2 : Nat) (s : List Int) (w : World) (hl : ls.length ≤ 1048576) (hr : RdL w adl ls) (hl' : d.length ≤ 1048576) (hr' : RdI w (some a) d) (hl2 : s.length ≤ 1048576) (hr2 : RdI w (some a2) s) :
    Calls Try.prog 47 #[.int .i64 n, .slice adl ls.length capl, .slice (some a) d.length cap, .slice (some a2) s.length cap2] w (RetLB (fireScriptR n ls d s) w) := by
  by_cases hgl : goodL n ls = true
  · obtain ⟨hn1, hn2⟩ := good_n hgl
    by_cases hgc : chipsB n d = true
    · have hg : bothB n ls d = true := by simp [bothB, hgl, hgc]
      have hso' : Hid ((decide (s.length = n.toNat) && allB s (-20) 20) = scriptOkB n s) := by
        show _ = _
        unfold scriptOkB
        congr 1
        exact decide_eq_decide.2 (by omega)
      by_cases hso : scriptOkB n s = true
      · have hR : Hid (fireScriptR n ls d s = tellR n (resF n ls d s)) := if_pos ⟨hg, hso⟩
        obtain ⟨hdl, hdb⟩ := bothB_bounds hg
        have hso2 := hso
        simp only [scriptOkB, Bool.and_eq_true, decide_eq_true_eq] at hso2
        have hsl : s.length = n.toNat := by omega
        have hsb := allB_t.1 hso2.2
        rw [hsl] at hsb
        have HDL := Lib.hid hdl; clear hdl
        have HSL := Lib.hid hsl; clear hsl
        clear hso2 hg
        go_enter Try.func47, Try.ntmps47
        go_wp2_with fail
        refine (withDiv_any n adl capl ls (some a) cap d _ hl hr hl' hr' hgl).mono ?_
        rw [hgc]
        rintro e w1 ⟨G, gb, gv, capb, rb, rfl, hG, hGB, hGV, hb1⟩
        have HG := Lib.hid hG; clear hG
        go_wp2_with fail
        refine (areChips_any G gb gv capb rb n.toNat _ _ _ (some a2) cap2 s 20 _ HG.out hl2 (hr2.below hb1) (by omega) (by omega)).mono ?_
        rw [hso'.out, hso]
        rintro e w2 ⟨rfl, hb2⟩
        have bb2 := ball hb1 hb2
        go_wp2_with fail
        rw [HDL.out, HSL.out]
        refine (fireScript_any G gb gv capb rb n.toNat _ _ _ a cap d a2 cap2 s _ (HG.out.below hb2) (by omega) (by omega) HDL.out HSL.out (hr'.below bb2) (hr2.below bb2) hdb hsb (fun v _ => by have := valF_bound hgl hl ls.length v; rwa [List.take_length] at this) (fun v j _ _ => by have := betF_bound hgl ls.length v j; rwa [List.take_length] at this) (fun v _ => betF_diag hgl v)).mono ?_
        rintro e w3 ⟨v, rfl, hv, hb3⟩
        have hlen : (resF n ls d s).length ≤ 1048576 := by unfold resF; rw [tab_length]; omega
        obtain ⟨ad3, cap3, rfl, hrd⟩ := hv.rd
        have HRES := Lib.hid (hv.mono bb2.size)
        have bb := ball bb2 hb3
        have HG3 := Lib.hid (HG.out.below (ball hb2 hb3))
        change ResI _ _ _ _ (resF n ls d s) at hv
        change RdI _ _ (resF n ls d s) at hrd
        clear hv
        have hnn : chipsB (n.toNat : Int) (resF n ls d s) = chipsB n (resF n ls d s) := by rw [Int.toNat_of_nonneg (by omega)]
        have HNN := Lib.hid hnn; clear hnn
        by_cases hc : chipsB n (resF n ls d s) = true
        · have hR2 : Hid (fireScriptR n ls d s = (resF n ls d s, true)) := by show _ = _; rw [hR.out]; exact if_pos hc
          go_wp2_with fail
          refine (told_yes G gb gv capb rb n.toNat _ _ _ ad3 cap3 (resF n ls d s) _ HG3.out hlen hrd (by rw [HNN.out]; exact hc)).mono ?_
          rintro e w9 ⟨rfl, hb9⟩
          go_wp2
          go_ret2
          exact RetLB.of hR2.out (HRES.out.below hb9) (ball bb hb9)
        · have hc' := Bool.eq_false_iff.2 hc
          have hR2 : Hid (fireScriptR n ls d s = ([], false)) := by show _ = _; rw [hR.out]; exact if_neg hc
          go_wp2_with fail
          refine (told_no G gb gv capb rb n.toNat _ _ _ ad3 cap3 (resF n ls d s) _ HG3.out hlen hrd (by rw [HNN.out]; exact hc')).mono ?_
          rintro e w9 ⟨rfl, hb9⟩
          go_wp2
          go_ret2
          exact RetLB.no hR2.out (ball bb hb9)

      · have hso3 := Bool.eq_false_iff.2 hso
        have hR : Hid (fireScriptR n ls d s = ([], false)) := if_neg (by simp [hso3])
        clear hg
        go_enter Try.func47, Try.ntmps47
        go_wp2_with fail
        refine (withDiv_any n adl capl ls (some a) cap d _ hl hr hl' hr' hgl).mono ?_
        rw [hgc]
        rintro e w1 ⟨G, gb, gv, capb, rb, rfl, hG, hGB, hGV, hb1⟩
        have HG := Lib.hid hG; clear hG
        go_wp2_with fail
        refine (areChips_any G gb gv capb rb n.toNat _ _ _ (some a2) cap2 s 20 _ HG.out hl2 (hr2.below hb1) (by omega) (by omega)).mono ?_
        rw [hso'.out, hso3]
        rintro e w2 ⟨rfl, hb2⟩
        go_wp2
        go_ret2
        exact RetLB.no hR.out (ball hb1 hb2)
    · have hgc' := Bool.eq_false_iff.2 hgc
      have hR : Hid (fireScriptR n ls d s = ([], false)) := if_neg (by simp [bothB, hgc'])
      go_enter Try.func47, Try.ntmps47
      go_wp2_with fail
      refine (withDiv_any n adl capl ls (some a) cap d _ hl hr hl' hr' hgl).mono ?_
      rw [hgc']
      rintro e w1 ⟨G, gb, gv, capb, rb, rfl, hG, hGB, hGV, hb1⟩
      clear hG
      go_wp2
      go_ret2
      exact RetLB.no hR.out hb1
  · have hgl' := Bool.eq_false_iff.2 hgl
    have hR : Hid (fireScriptR n ls d s = ([], false)) := if_neg (by simp [bothB, hgl'])
    go_enter Try.func47, Try.ntmps47
    go_wp2_with fail
    refine (withDiv_no n adl capl ls (some a) cap d _ hl hr hgl').mono ?_
    rintro e w1 ⟨rfl, hb1⟩
    go_wp2
    go_ret2
    exact RetLB.no hR.out hb1

set_option maxHeartbeats 800000 in
set_option maxRecDepth 100000 in
theorem specFireVertex_c (n : Int) (adl : Option Addr) (capl : Nat) (ls : List Lk) (a : Addr) (cap : Nat) (d : List Int) (v : Int) (w : World) (hl : ls.length ≤ 1048576) (hr : RdL w adl ls) (hl' : d.length ≤ 1048576) (hr' : RdI w (some a) d) :
    Calls Try.prog 48 #[.int .i64 n, .slice adl ls.length capl, .slice (some a) d.length cap, .int .i64 v] w (RetLB (fireVertexR n ls d v) w) := by
  by_cases hg : bothB n ls d = true
  · obtain ⟨hgl, _⟩ := bothB_t hg
    obtain ⟨hn1, hn2⟩ := good_n hgl
    by_cases hv0 : inB v 0 (n - 1) = true
    · have hR : Hid (fireVertexR n ls d v = tellR n (resF n ls d (tab n.toNat (setF [v])))) := if_pos ⟨hg, hv0⟩
      have hvb := inB_t.1 hv0
      obtain ⟨hdl, hdb⟩ := bothB_bounds hg
      have HDL := Lib.hid hdl; clear hdl
      · go_enter Try.func48, Try.ntmps48
        go_wp2_with fail
        refine (chBoth_any n adl capl ls (some a) cap d _ hl hr hl' hr').mono ?_
        rw [hg]
        rintro e w1 ⟨rfl, hb1⟩
        have hb0 : Below w1.heap.size w1 (w1.alloc (.cells #[.int .i64 v] 3)) := (Below.refl _ _).alloc (Nat.le_refl _) _
        have hset : RdI (w1.alloc (.cells #[.int .i64 v] 3)) (some ⟨w1.heap.size, 0, none⟩) [v] := (Own.newA w1 #[.int .i64 v] 3 rfl : Own _ _ _ (ints [v])).rd
        have HSET := Lib.hid hset; clear hset
        have bb0 := ball hb1 hb0
        go_wp2_with fail
        refine (l1In_any _ _ _ _).mono ?_
        rw [hv0]
        rintro e w' ⟨rfl, rfl⟩
        go_wp2_with fail
        obtain ⟨N, rfl⟩ : ∃ N : Nat, n = N := ⟨n.toNat, by omega⟩
        refine (chSet_any N ⟨w1.heap.size, 0, none⟩ 1 [v] _ (by omega) (by simp) HSET.out (fun j hj => by simp at hj; subst hj; simp; omega)).mono ?_
        rintro e w2 ⟨g, rfl, hgg, hog, hb2⟩
        have bb2 := ball bb0 hb2
        have HOG := Lib.hid hog; clear hog
        go_wp2_with fail
        rw [HDL.out]
        refine (chFire_any (N : Int) adl capl ls a cap d ⟨g, 0, none⟩ N (tab N (setF [v])) _ hl (hr.below bb2) hgl HDL.out (by rw [tab_length]; simp) (hr'.below bb2) HOG.out.rd hdb (fun u hu => setList_bounds N [v] u (by simpa using hu))).mono ?_
        rintro e w3 ⟨vv, rfl, hv, hb3⟩
        have hlen : (resF N ls d (tab N (setF [v]))).length ≤ 1048576 := by unfold resF; rw [tab_length]; simp; omega
        obtain ⟨ad3, cap3, rfl, hrd⟩ := hv.rd
        have HRES := Lib.hid (hv.mono bb2.size)
        change ResI _ _ _ _ (resF N ls d (tab N (setF [v]))) at hv
        change RdI _ _ (resF N ls d (tab N (setF [v]))) at hrd
        have bb := ball bb2 hb3
        clear hv
        by_cases hc : chipsB (N : Int) (resF (N : Int) ls d (tab N (setF [v]))) = true
        · have hR2 : Hid (fireVertexR (N : Int) ls d v = (resF (N : Int) ls d (tab N (setF [v])), true)) := by show _ = _; rw [hR.out]; exact if_pos hc
          go_wp2_with fail
          refine (chIf_yes (N : Int) ad3 cap3 _ _ hlen hrd hc).mono ?_
          rintro e w9 ⟨rfl, rfl⟩
          go_wp2
          go_ret2
          exact RetLB.of hR2.out HRES.out bb
        · have hc' := Bool.eq_false_iff.2 hc
          have hR2 : Hid (fireVertexR (N : Int) ls d v = ([], false)) := by show _ = _; rw [hR.out]; exact if_neg hc
          go_wp2_with fail
          refine (chIf_no (N : Int) ad3 cap3 _ _ hlen hrd hc').mono ?_
          rintro e w9 ⟨rfl, rfl⟩
          go_wp2
          go_ret2
          exact RetLB.no hR2.out bb

    · have hv0' := Bool.eq_false_iff.2 hv0
      have hR : Hid (fireVertexR n ls d v = ([], false)) := if_neg (by simp [hv0'])
      go_enter Try.func48, Try.ntmps48
      go_wp2_with fail
      refine (chBoth_any n adl capl ls (some a) cap d _ hl hr hl' hr').mono ?_
      rw [hg]
      rintro e w1 ⟨rfl, hb1⟩
      go_wp2_with fail
      refine (l1In_any _ _ _ _).mono ?_
      rw [hv0']
      rintro e w' ⟨rfl, rfl⟩
      go_wp2
      go_ret2
      exact RetLB.no hR.out hb1
  · have hg' := Bool.eq_false_iff.2 hg
    have hR : Hid (fireVertexR n ls d v = ([], false)) := if_neg (by simp [hg'])
    go_enter Try.func48, Try.ntmps48
    go_wp2_with fail
    refine (chBoth_any n adl capl ls (some a) cap d _ hl hr hl' hr').mono ?_
    rw [hg']
    rintro e w1 ⟨rfl, hb1⟩
    go_wp2
    go_ret2
    exact RetLB.no hR.out hb1

set_option maxHeartbeats 800000 in
set_option maxRecDepth 100000 in
theorem implFireVertex_c (n : Int) (adl : Option Addr) (capl : Nat) (ls : List Lk) (a : Addr) (cap : Nat) (d : List Int) (v : Int) (w : World) (hl : ls.length ≤ 1048576) (hr : RdL w adl ls) (hl' : d.length ≤ 1048576) (hr' : RdI w (some a) d) :
    Calls Try.prog 49 #[.int .i64 n, .slice adl ls.length capl, .slice (some a) d.length cap, .int .i64 v] w (RetLB (fireVertexR n ls d v) w) := by
  by_cases hgl : goodL n ls = true
  · obtain ⟨hn1, hn2⟩ := good_n hgl
    by_cases hgc : chipsB n d = true
    · have hg : bothB n ls d = true := by simp [bothB, hgl, hgc]
      have hnn1 : Hid (inB v 0 ((n.toNat : Int) - 1) = inB v 0 (n - 1)) := by show _ = _; rw [Int.toNat_of_nonneg (by omega)]
      by_cases hv0 : inB v 0 (n - 1) = true
      · have hR : Hid (fireVertexR n ls d v = tellR n (resF n ls d (tab n.toNat (setF [v])))) := if_pos ⟨hg, hv0⟩
        obtain ⟨hdl, hdb⟩ := bothB_bounds hg
        have hvb := inB_t.1 hv0
        have HDL := Lib.hid hdl; clear hdl
        clear hg
        go_enter Try.func49, Try.ntmps49
        go_wp2_with fail
        refine (withDiv_any n adl capl ls (some a) cap d _ hl hr hl' hr' hgl).mono ?_
        rw [hgc]
        rintro e w1 ⟨G, gb, gv, capb, rb, rfl, hG, hGB, hGV, hb1⟩
        have HG := Lib.hid hG; clear hG
        have hb0 : Below w1.heap.size w1 (w1.alloc (.cells #[.int .i64 v] 3)) := (Below.refl _ _).alloc (Nat.le_refl _) _
        have hset : RdI (w1.alloc (.cells #[.int .i64 v] 3)) (some ⟨w1.heap.size, 0, none⟩) [v] := (Own.newA w1 #[.int .i64 v] 3 rfl : Own _ _ _ (ints [v])).rd
        have HSET := Lib.hid hset; clear hset
        have bb0 := ball hb1 hb0
        go_wp2_with fail
        refine (isVertex_any G gb gv capb rb n.toNat _ _ _ v _ HG.out (by omega)).mono ?_
        rw [hnn1.out, hv0]
        rintro e w' ⟨rfl, rfl⟩
        go_wp2_with fail
        refine (scriptOf_any G gb gv capb rb n.toNat _ _ _ ⟨w1.heap.size, 0, none⟩ 1 [v] _ (HG.out.below hb0) (by omega) (by simp) HSET.out (fun j hj => by simp at hj; subst hj; simp; omega)).mono ?_
        rintro e w2 ⟨g, rfl, hgg, hog, hb2⟩
        have bb2 := ball bb0 hb2
        have HOG := Lib.hid hog; clear hog
        have HG2 := Lib.hid (HG.out.below (ball hb0 hb2))
        go_wp2_with fail
        rw [HDL.out]
        refine (fireScript_any G gb gv capb rb n.toNat _ _ _ a cap d ⟨g, 0, none⟩ n.toNat (tab n.toNat (setF [v])) _ HG2.out (by omega) (by omega) HDL.out (tab_length _ _) (hr'.below bb2) HOG.out.rd hdb (setList_bounds _ _) (fun v _ => by have := valF_bound hgl hl ls.length v; rwa [List.take_length] at this) (fun v j _ _ => by have := betF_bound hgl ls.length v j; rwa [List.take_length] at this) (fun v _ => betF_diag hgl v)).mono ?_
        rintro e w3 ⟨vv, rfl, hv, hb3⟩
        have hlen : (resF n ls d (tab n.toNat (setF [v]))).length ≤ 1048576 := by unfold resF; rw [tab_length]; omega
        obtain ⟨ad3, cap3, rfl, hrd⟩ := hv.rd
        have HRES := Lib.hid (hv.mono bb2.size)
        have bb := ball bb2 hb3
        have HG3 := Lib.hid (HG2.out.below hb3)
        change ResI _ _ _ _ (resF n ls d (tab n.toNat (setF [v]))) at hv
        change RdI _ _ (resF n ls d (tab n.toNat (setF [v]))) at hrd
        clear hv
        have hnn : chipsB (n.toNat : Int) (resF n ls d (tab n.toNat (setF [v]))) = chipsB n (resF n ls d (tab n.toNat (setF [v]))) := by rw [Int.toNat_of_nonneg (by omega)]
        have HNN := Lib.hid hnn; clear hnn
        by_cases hc : chipsB n (resF n ls d (tab n.toNat (setF [v]))) = true
        · have hR2 : Hid (fireVertexR n ls d v = (resF n ls d (tab n.toNat (setF [v])), true)) := by show _ = _; rw [hR.out]; exact if_pos hc
          go_wp2_with fail
          refine (told_yes G gb gv capb rb n.toNat _ _ _ ad3 cap3 _ _ HG3.out hlen hrd (by rw [HNN.out]; exact hc)).mono ?_
          rintro e w9 ⟨rfl, hb9⟩
          go_wp2
          go_ret2
          exact RetLB.of hR2.out (HRES.out.below hb9) (ball bb hb9)
        · have hc' := Bool.eq_false_iff.2 hc
          have hR2 : Hid (fireVertexR n ls d v = ([], false)) := by show _ = _; rw [hR.out]; exact if_neg hc
          go_wp2_with fail
          refine (told_no G gb gv capb rb n.toNat _ _ _ ad3 cap3 _ _ HG3.out hlen hrd (by rw [HNN.out]; exact hc')).mono ?_
          rintro e w9 ⟨rfl, hb9⟩
          go_wp2
          go_ret2
          exact RetLB.no hR2.out (ball bb hb9)

      · have hv0' := Bool.eq_false_iff.2 hv0
        have hR : Hid (fireVertexR n ls d v = ([], false)) := if_neg (by simp [hv0'])
        clear hg
        go_enter Try.func49, Try.ntmps49
        go_wp2_with fail
        refine (withDiv_any n adl capl ls (some a) cap d _ hl hr hl' hr' hgl).mono ?_
        rw [hgc]
        rintro e w1 ⟨G, gb, gv, capb, rb, rfl, hG, hGB, hGV, hb1⟩
        have HG := Lib.hid hG; clear hG
        go_wp2_with fail
        refine (isVertex_any G gb gv capb rb n.toNat _ _ _ v _ HG.out (by omega)).mono ?_
        rw [hnn1.out, hv0']
        rintro e w' ⟨rfl, rfl⟩
        go_wp2
        go_ret2
        exact RetLB.no hR.out hb1
    · have hgc' := Bool.eq_false_iff.2 hgc
      have hR : Hid (fireVertexR n ls d v = ([], false)) := if_neg (by simp [bothB, hgc'])
      go_enter Try.func49, Try.ntmps49
      go_wp2_with fail
      refine (withDiv_any n adl capl ls (some a) cap d _ hl hr hl' hr' hgl).mono ?_
      rw [hgc']
      rintro e w1 ⟨G, gb, gv, capb, rb, rfl, hG, hGB, hGV, hb1⟩
      clear hG
      go_wp2
      go_ret2
      exact RetLB.no hR.out hb1
  · have hgl' := Bool.eq_false_iff.2 hgl
    have hR : Hid (fireVertexR n ls d v = ([], false)) := if_neg (by simp [bothB, hgl'])
    go_enter Try.func49, Try.ntmps49
    go_wp2_with fail
    refine (withDiv_no n adl capl ls (some a) cap d _ hl hr hgl').mono ?_
    rintro e w1 ⟨rfl, hb1⟩
    go_wp2
    go_ret2
    exact RetLB.no hR.out hb1

end Go.Proofs.Ytcajnfhgpacpcaa
