/-
  FireScript and FireVertex: reference and program.
-/
import Derived.Test.YtmhmdbmiimpbnaaFire
namespace Go.Proofs.Ytmhmdbmiimpbnaa
open Go.RowKit

def resF (n : Int) (ls : List Lk) (d s : List Int) : List Int := tab n.toNat fun j => d.getD j 0 - accF (fun u => s.getD u 0) (lapF ls) n.toNat j
def tellR (n : Int) (l : List Int) : List Int × Bool := if chipsB n l = true then (l, true) else ([], false)
def scriptOkB (n : Int) (s : List Int) : Bool := decide ((s.length : Int) = n) && allB s (-20) 20
def fireScriptR (n : Int) (ls : List Lk) (d s : List Int) : List Int × Bool := if bothB n ls d = true ∧ scriptOkB n s = true then tellR n (resF n ls d s) else ([], false)
def fireVertexR (n : Int) (ls : List Lk) (d : List Int) (v : Int) : List Int × Bool := if bothB n ls d = true ∧ inB v 0 (n - 1) = true then tellR n (resF n ls d (tab n.toNat (setF [v]))) else ([], false)
theorem tellR_len {n : Int} {l : List Int} (h : n ≤ 1048576) : (tellR n l).1.length ≤ 1048576 := by
  unfold tellR
  split
  · rename_i h2
    have := (chipsB_t h2).1
    simp only
    omega
  · simp
theorem fireScriptR_len (n : Int) (ls : List Lk) (d s : List Int) : (fireScriptR n ls d s).1.length ≤ 1048576 := by
  unfold fireScriptR
  split
  · rename_i h
    have := good_n (bothB_t h.1).1
    exact tellR_len (by omega)
  · simp
theorem fireVertexR_len (n : Int) (ls : List Lk) (d : List Int) (v : Int) : (fireVertexR n ls d v).1.length ≤ 1048576 := by
  unfold fireVertexR
  split
  · rename_i h
    have := good_n (bothB_t h.1).1
    exact tellR_len (by omega)
  · simp

theorem bothB_bounds {n : Int} {ls : List Lk} {d : List Int} (h : bothB n ls d = true) : d.length = n.toNat ∧ ∀ j, j < n.toNat → -1000000000000 ≤ d.getD j 0 ∧ d.getD j 0 ≤ 1000000000000 := by
  obtain ⟨h1, h2⟩ := bothB_t h
  obtain ⟨h3, h4⟩ := chipsB_t h2
  have hl : d.length = n.toNat := by omega
  refine ⟨hl, fun j hj => ?_⟩
  have := h4 j (by omega)
  omega
theorem setList_bounds (N : Nat) (set : List Int) : ∀ u, u < N → -20 ≤ (tab N (setF set)).getD u 0 ∧ (tab N (setF set)).getD u 0 ≤ 20 := fun u hu => by
  rw [tab_getD hu]
  have := setF_bound set u
  omega

set_option maxHeartbeats 400000 in
theorem told_yes (G gb gv capb : Nat) (rb : Nat → Nat) (N : Nat) (bet : Nat → Nat → Int) (val : Nat → Int) (ed : Int) (ad : Option Addr) (cap : Nat) (xs : List Int) (w : World) (hG : GrAt w G gb gv capb rb N bet val ed) (hl : xs.length ≤ 1048576) (hr : RdI w ad xs) (h : chipsB N xs = true) :
    Calls Try.prog 89 #[.pointer (some ⟨G, 0, none⟩), .slice ad xs.length cap] w fun e w' => e = .returned (.tuple #[.slice ad xs.length cap, .bool true]) ∧ Below w.heap.size w w' := by
  go_enter Try.func89, Try.ntmps89
  go_wp2_with fail
  refine (isDivisor_any G gb gv capb rb N bet val ed ad cap xs _ hG hl hr).mono ?_
  rw [h]
  rintro e w1 ⟨rfl, hb⟩
  go_wp2
  go_ret2
  exact ⟨rfl, hb⟩

set_option maxHeartbeats 400000 in
theorem told_no (G gb gv capb : Nat) (rb : Nat → Nat) (N : Nat) (bet : Nat → Nat → Int) (val : Nat → Int) (ed : Int) (ad : Option Addr) (cap : Nat) (xs : List Int) (w : World) (hG : GrAt w G gb gv capb rb N bet val ed) (hl : xs.length ≤ 1048576) (hr : RdI w ad xs) (h : chipsB N xs = false) :
    Calls Try.prog 89 #[.pointer (some ⟨G, 0, none⟩), .slice ad xs.length cap] w fun e w' => e = .returned (.tuple #[.slice none 0 0, .bool false]) ∧ Below w.heap.size w w' := by
  go_enter Try.func89, Try.ntmps89
  go_wp2_with fail
  refine (isDivisor_any G gb gv capb rb N bet val ed ad cap xs _ hG hl hr).mono ?_
  rw [h]
  rintro e w1 ⟨rfl, hb⟩
  go_wp2
  go_ret2
  exact ⟨rfl, hb⟩

set_option maxHeartbeats 400000 in
theorem isVertex_any (G gb gv capb : Nat) (rb : Nat → Nat) (N : Nat) (bet : Nat → Nat → Int) (val : Nat → Int) (ed : Int) (v : Int) (w : World) (hG : GrAt w G gb gv capb rb N bet val ed) (hN : N ≤ 8) :
    Calls Try.prog 115 #[.pointer (some ⟨G, 0, none⟩), .int .i64 v] w fun e w' => e = .returned (.bool (inB v 0 (N - 1))) ∧ w = w' := by
  have c0 := hG.c0
  clear hG
  go_enter Try.func115, Try.ntmps115
  go_wp2_with (go_at_call 107; refine (within_any _ _ _ _).mono ?_; rintro e w' ⟨rfl, rfl⟩)
  go_ret
  exact ⟨rfl, rfl⟩

-- WRAPPERS
set_option maxHeartbeats 800000 in
set_option maxRecDepth 100000 in
theorem implFireScript_c (n : Int) (adl : Option Addr) (capl : Nat) (ls : List Lk) (a : Addr) (cap : Nat) (d : List Int) (a2 : Addr) (cap2 : Nat) (s : List Int) (w : World) (hl : ls.length ≤ 1048576) (hr : RdL w adl ls) (hl' : d.length ≤ 1048576) (hr' : RdI w (some a) d) (hl2 : s.length ≤ 1048576) (hr2 : RdI w (some a2) s) :
    Calls Try.prog 44 #[.int .i64 n, .slice adl ls.length capl, .slice (some a) d.length cap, .slice (some a2) s.length cap2] w (RetLB (fireScriptR n ls d s) w) := by
  by_cases hgl : goodL n ls = true
  · obtain ⟨hn1, hn2⟩ := good_n hgl
    by_cases hgc : chipsB n d = true
    · have hg : bothB n ls d = true := by simp [bothB, hgl, hgc]
      have hso' : Hid ((decide (s.length = n.toNat) && allB s (-20) 20) = scriptOkB n s) := by
        show _ = _
        unfold scriptOkB
        congr 1
        exact decide_eq_decide.2 (by omega)
      by_cases hso : scriptOkB n s = true
      · have hR : Hid (fireScriptR n ls d s = tellR n (resF n ls d s)) := if_pos ⟨hg, hso⟩
        obtain ⟨hdl, hdb⟩ := bothB_bounds hg
        have hso2 := hso
        simp only [scriptOkB, Bool.and_eq_true, decide_eq_true_eq] at hso2
        have hsl : s.length = n.toNat := by omega
        have hsb := allB_t.1 hso2.2
        rw [hsl] at hsb
        have HDL := Lib.hid hdl; clear hdl
        have HSL := Lib.hid hsl; clear hsl
        clear hso2 hg
        go_enter Try.func44, Try.ntmps44
        go_wp2_with fail
        refine (withDiv_any n adl capl ls (some a) cap d _ hl hr hl' hr' hgl).mono ?_
        rw [hgc]
        rintro e w1 ⟨G, gb, gv, capb, rb, rfl, hG, hGB, hGV, hb1⟩
        have HG := Lib.hid hG; clear hG
        go_wp2_with fail
        refine (areChips_any G gb gv capb rb n.toNat _ _ _ (some a2) cap2 s 20 _ HG.out hl2 (hr2.below hb1) (by omega) (by omega)).mono ?_
        rw [hso'.out, hso]
        rintro e w2 ⟨rfl, hb2⟩
        have bb2 := ball hb1 hb2
        go_wp2_with fail
        rw [HDL.out, HSL.out]
        refine (fireScript_any G gb gv capb rb n.toNat _ _ _ a cap d a2 cap2 s _ (HG.out.below hb2) (by omega) (by omega) HDL.out HSL.out (hr'.below bb2) (hr2.below bb2) hdb hsb (fun v _ => by have := valF_bound hgl hl ls.length v; rwa [List.take_length] at this) (fun v j _ _ => by have := betF_bound hgl ls.length v j; rwa [List.take_length] at this) (fun v _ => betF_diag hgl v)).mono ?_
        rintro e w3 ⟨v, rfl, hv, hb3⟩
        have hlen : (resF n ls d s).length ≤ 1048576 := by unfold resF; rw [tab_length]; omega
        obtain ⟨ad3, cap3, rfl, hrd⟩ := hv.rd
        have HRES := Lib.hid (hv.mono bb2.size)
        have bb := ball bb2 hb3
        have HG3 := Lib.hid (HG.out.below (ball hb2 hb3))
        change ResI _ _ _ _ (resF n ls d s) at hv
        change RdI _ _ (resF n ls d s) at hrd
        clear hv
        have hnn : chipsB (n.toNat : Int) (resF n ls d s) = chipsB n (resF n ls d s) := by rw [Int.toNat_of_nonneg (by omega)]
        have HNN := Lib.hid hnn; clear hnn
        by_cases hc : chipsB n (resF n ls d s) = true
        · have hR2 : Hid (fireScriptR n ls d s = (resF n ls d s, true)) := by show _ = _; rw [hR.out]; exact if_pos hc
          go_wp2_with fail
          refine (told_yes G gb gv capb rb n.toNat _ _ _ ad3 cap3 (resF n ls d s) _ HG3.out hlen hrd (by rw [HNN.out]; exact hc)).mono ?_
          rintro e w9 ⟨rfl, hb9⟩
          go_wp2
          go_ret2
          exact RetLB.of hR2.out (HRES.out.below hb9) (ball bb hb9)
        · have hc' := Bool.eq_false_iff.2 hc
          have hR2 : Hid (fireScriptR n ls d s = ([], false)) := by show _ = _; rw [hR.out]; exact if_neg hc
          go_wp2_with fail
          refine (told_no G gb gv capb rb n.toNat _ _ _ ad3 cap3 (resF n ls d s) _ HG3.out hlen hrd (by rw [HNN.out]; exact hc')).mono ?_
          rintro e w9 ⟨rfl, hb9⟩
          go_wp2
          go_ret2
          exact RetLB.no hR2.out (ball bb hb9)

      · have hso3 := Bool.eq_false_iff.2 hso
        have hR : Hid (fireScriptR n ls d s = ([], false)) := if_neg (by simp [hso3])
        clear hg
        go_enter Try.func44, Try.ntmps44
        go_wp2_with fail
        refine (withDiv_any n adl capl ls (some a) cap d _ hl hr hl' hr' hgl).mono ?_
        rw [hgc]
        rintro e w1 ⟨G, gb, gv, capb, rb, rfl, hG, hGB, hGV, hb1⟩
        have HG := Lib.hid hG; clear hG
        go_wp2_with fail
        refine (areChips_any G gb gv capb rb n.toNat _ _ _ (some a2) cap2 s 20 _ HG.out hl2 (hr2.below hb1) (by omega) (by omega)).mono ?_
        rw [hso'.out, hso3]
        rintro e w2 ⟨rfl, hb2⟩
        go_wp2
        go_ret2
        exact RetLB.no hR.out (ball hb1 hb2)
    · have hgc' := Bool.eq_false_iff.2 hgc
      have hR : Hid (fireScriptR n ls d s = ([], false)) := if_neg (by simp [bothB, hgc'])
      go_enter Try.func44, Try.ntmps44
      go_wp2_with fail
      refine (withDiv_any n adl capl ls (some a) cap d _ hl hr hl' hr' hgl).mono ?_
      rw [hgc']
      rintro e w1 ⟨G, gb, gv, capb, rb, rfl, hG, hGB, hGV, hb1⟩
      clear hG
      go_wp2
      go_ret2
      exact RetLB.no hR.out hb1
  · have hgl' := Bool.eq_false_iff.2 hgl
    have hR : Hid (fireScriptR n ls d s = ([], false)) := if_neg (by simp [bothB, hgl'])
    go_enter Try.func44, Try.ntmps44
    go_wp2_with fail
    refine (withDiv_no n adl capl ls (some a) cap d _ hl hr hgl').mono ?_
    rintro e w1 ⟨rfl, hb1⟩
    go_wp2
    go_ret2
    exact RetLB.no hR.out hb1

end Go.Proofs.Ytmhmdbmiimpbnaa
