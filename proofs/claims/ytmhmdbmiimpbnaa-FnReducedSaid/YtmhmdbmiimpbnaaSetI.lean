/-
  The program's isLegalSet.
-/
import Derived.Test.YtmhmdbmiimpbnaaSetL
namespace Go.Proofs.Ytmhmdbmiimpbnaa
open Go.RowKit

set_option maxHeartbeats 800000 in
theorem indexFunc3_any (fid : FuncId) (c1 c2 c3 : Value) (p : Int → Bool) (a : Addr) (cap : Nat) (xs : List Int) (w : World) (hl : xs.length ≤ 1048576) (hr : RdI w (some a) xs)
    (hcf : ∀ (xa : Array Value) (w : World), (callFunc fid xa).run Try.prog w = .ok (.enter fid xa) w)
    (hf : ∀ x w', x ∈ xs → Below w.heap.size w w' → Calls Try.prog fid #[.int .i64 x, c1, c2, c3] w' fun e w'' => e = .returned (.bool (p x)) ∧ Below w'.heap.size w' w'') :
    Calls Try.prog 124 #[.slice (some a) xs.length cap, .func (Fn.func fid) #[] #[c1, c2, c3]] w fun e w' => (∃ r : Int, e = .returned (.int .i64 r) ∧ ((0 ≤ r ∧ xs.any p = true) ∨ (r = -1 ∧ xs.any p = false))) ∧ Below w.heap.size w w' := by
  have HR := Lib.hid hr; clear hr
  have HF := Lib.hid hf; clear hf
  go_enter Try.func124, Try.ntmps124
  go_wp2_with fail
  go_loopw [8] (fun i wr => ∃ k : Nat, k ≤ xs.length ∧ i = .int .i64 k ∧ (∀ j, j < k → p (xs.getD j 0) = false) ∧ Below w.heap.size w wr) (fun i _ => xs.length - (intOf i).toNat)
  case atStart => exact ⟨0, Nat.zero_le _, rfl, fun j hj => by omega, Below.refl _ _⟩
  case round =>
    obtain ⟨k, hk, rfl, hj, hbel⟩ := hrel
    have HJ := Lib.hid hj; clear hj
    by_cases hlt : k < xs.length
    · obtain ⟨b, off, e, hb, cc⟩ := (HR.out.below hbel) k hlt
      obtain rfl : a = ⟨b, off, none⟩ := by simpa using e
      clear e
      have hmem : xs.getD k 0 ∈ xs := by rw [List.getD_eq_getElem?_getD, List.getElem?_eq_getElem hlt]; exact List.getElem_mem hlt
      generalize hx : xs.getD k 0 = x at cc hmem
      have HX := Lib.hid hx; clear hx
      have HMEM := Lib.hid hmem; clear hmem
      by_cases h1 : p x = true
      · go_wp2_with fail
        refine (HF.out x _ HMEM.out hbel).mono ?_
        rw [h1]
        rintro e w1 ⟨rfl, hb1⟩
        go_wp2_with fail
        go_ret
        refine ⟨⟨k, rfl, Or.inl ⟨by omega, ?_⟩⟩, ball hbel hb1⟩
        rw [List.any_eq_true]
        exact ⟨x, HMEM.out, h1⟩
      · have h1' := Bool.eq_false_iff.2 h1
        go_wp2_with fail
        refine (HF.out x _ HMEM.out hbel).mono ?_
        rw [h1']
        rintro e w1 ⟨rfl, hb1⟩
        go_wp2_with fail
        go_roundw
        case rel =>
          refine ⟨k + 1, by omega, by go_num, fun j hj => ?_, ball hbel hb1⟩
          by_cases e : j = k
          · subst e; rw [HX.out]; exact h1'
          · exact HJ.out j (by omega)
        case measure => simp [intOf]; omega
    · have he : k = xs.length := by omega
      subst he
      go_wp2_with fail
      go_ret
      refine ⟨⟨-1, rfl, Or.inr ⟨rfl, ?_⟩⟩, hbel⟩
      rw [List.any_eq_false]
      intro x hx
      obtain ⟨j, hj, rfl⟩ := List.getElem_of_mem hx
      have := HJ.out j hj
      simpa [List.getD, hj] using this

set_option maxHeartbeats 400000 in
theorem containsFunc3_any (fid : FuncId) (c1 c2 c3 : Value) (p : Int → Bool) (a : Addr) (cap : Nat) (xs : List Int) (w : World) (hl : xs.length ≤ 1048576) (hr : RdI w (some a) xs)
    (hcf : ∀ (xa : Array Value) (w : World), (callFunc fid xa).run Try.prog w = .ok (.enter fid xa) w)
    (hf : ∀ x w', x ∈ xs → Below w.heap.size w w' → Calls Try.prog fid #[.int .i64 x, c1, c2, c3] w' fun e w'' => e = .returned (.bool (p x)) ∧ Below w'.heap.size w' w'') :
    Calls Try.prog 119 #[.slice (some a) xs.length cap, .func (Fn.func fid) #[] #[c1, c2, c3]] w fun e w' => e = .returned (.bool (xs.any p)) ∧ Below w.heap.size w w' := by
  go_enter Try.func119, Try.ntmps119
  go_wp2_with fail
  refine (indexFunc3_any fid c1 c2 c3 p a cap xs w hl hr hcf hf).mono ?_
  rintro e w' ⟨⟨r, rfl, hr1⟩, hb⟩
  have HA := Lib.hid hr1; clear hr1
  by_cases h0 : 0 ≤ r
  · go_wp2
    go_ret
    exact ⟨ret_bool (by rcases HA.out with h | h; exact h.2.symm; omega), hb⟩
  · have h0' : r < 0 := by omega
    go_wp2
    go_ret
    exact ⟨ret_bool (by rcases HA.out with h | h; omega; rw [h.2]; simp; omega), hb⟩

set_option maxHeartbeats 1600000 in
set_option maxRecDepth 100000 in
theorem isLegal1_any (b1 b2 b3 G gb gv capb : Nat) (rb : Nat → Nat) (N : Nat) (ls : List Lk) (v : Nat) (ad : Addr) (cap gm : Nat) (d s : List Int) (w : World) (h : GrAt w G gb gv capb rb N (betF ls) (valF ls) (edgeF ls)) (hgr : Gr N (betF ls) (valF ls)) (hN : N ≤ 8) (hv : v < N) (hdl : d.length = N) (hr : RdI w (some ad) d) (hom : Own w gm 3 (ints (tab N (setF s))))
    (k1 : w.cell? ⟨b1, 0, none⟩ = some (.slice (some ad) N cap)) (k2 : w.cell? ⟨b2, 0, none⟩ = some (.pointer (some ⟨G, 0, none⟩))) (k3 : w.cell? ⟨b3, 0, none⟩ = some (.slice (some ⟨gm, 0, none⟩) N N)) (hd0 : 0 ≤ fd d v) :
    Calls Try.prog 123 #[.int .i64 v, .pointer (some ⟨b1, 0, none⟩), .pointer (some ⟨b2, 0, none⟩), .pointer (some ⟨b3, 0, none⟩)] w fun e w' => e = .returned (.bool (!lglP N (betF ls) (fd d) s v)) ∧ Below w.heap.size w w' := by
  obtain ⟨b, off, e, hb, cd⟩ := hr v (by omega)
  obtain rfl : ad = ⟨b, off, none⟩ := by simpa using e
  clear e
  have hout := fun (w2 : World) (hb : Below w.heap.size w w2) => outside_any G gb gv capb rb N (betF ls) (valF ls) (edgeF ls) v (some ⟨gm, 0, none⟩) N (tab N (setF s)) w2 (h.below hb) hN hv (tab_length _ _) (hom.belowAll hb).rd (fun j _ => ⟨hgr.nn v j, hgr.le v j⟩)
  have hlp : Hid (lglP N (betF ls) (fd d) s v = decide (outF (betF ls) (tab N (setF s)) v N ≤ d.getD v 0)) := by
    show _ = _
    unfold lglP fd
    rw [Int.toNat_natCast]
  have hx0 : 0 ≤ d.getD v 0 := hd0
  clear hd0
  have ho := outF_bound (bet := betF ls) (v := v) (m := tab N (setF s)) (N := N) (fun j _ => ⟨hgr.nn v j, hgr.le v j⟩) N (Nat.le_refl _)
  generalize outF (betF ls) (tab N (setF s)) v N = o at hout hlp ho
  generalize d.getD v 0 = x at cd hlp hx0
  have HOUT := Lib.hid hout; clear hout
  clear h hom hr hgr
  have x1 : (0 : Int) ≤ (v : Int) := by omega
  have x2 : (v : Int) < (N : Int) := by omega
  have hd1 : decide (0 ≤ x) = true := by simpa using hx0
  go_enter Try.func123, Try.ntmps123
  go_wp2_with fail
  go_quiet ((go_at_call 70; exact Calls.quiet_of_same ((HOUT.out _ (bdrewN (Below.refl _ _) _)).mono (fun e w' h => ⟨h.1, h.2.symm⟩))))
  go_wp2_with fail
  go_ret
  exact ⟨ret_bool (by rw [hlp.out]; by_cases q : o ≤ x <;> simp [q] <;> omega), bdrewN (Below.refl _ _) _⟩

set_option maxHeartbeats 1600000 in
set_option maxRecDepth 100000 in
theorem isLegal_any (G gb gv capb : Nat) (rb : Nat → Nat) (N : Nat) (ls : List Lk) (ad : Addr) (cap gs cs : Nat) (d s : List Int) (w : World) (h : GrAt w G gb gv capb rb N (betF ls) (valF ls) (edgeF ls)) (hgr : Gr N (betF ls) (valF ls)) (hN : N ≤ 8) (hdl : d.length = N) (hr : RdI w (some ad) d) (hsl : s.length ≤ 8) (hrs : RdI w (some ⟨gs, 0, none⟩) s) (hsb : ∀ j, j < s.length → 0 ≤ s.getD j 0 ∧ s.getD j 0 < N) (hnd : ∀ v, v < N → (v : Int) ∈ s → 0 ≤ fd d v) :
    Calls Try.prog 102 #[.pointer (some ⟨G, 0, none⟩), .slice (some ad) N cap, .slice (some ⟨gs, 0, none⟩) s.length cs] w fun e w' => e = .returned (.bool (lglB N (betF ls) (fd d) s)) ∧ Below w.heap.size w w' := by
  have hmf : ∀ (fn : Fn) (first cap : Array Value) (w : World), (Instr.makeFunc fn first cap).run Try.prog w = .ok (.func fn first cap) w := fun _ _ _ _ => rfl
  have hany : (s.any fun x => !lglP N (betF ls) (fd d) s x) = !lglB N (betF ls) (fd d) s := by simp [lglB, List.any_eq_not_all_not]
  have HA := Lib.hid hany; clear hany
  have hbA : Below w.heap.size w (w.alloc (.cells #[.pointer (some ⟨G, 0, none⟩)] 59)) := (Below.refl _ _).alloc (Nat.le_refl _) _
  have hb0 := hbA.alloc (by simp) (.cells #[.slice (some ad) N cap] 30)
  have o2 := (Own.newA w #[.pointer (some ⟨G, 0, none⟩)] 59 rfl).alloc (.cells #[.slice (some ad) N cap] 30)
  have o1 := Own.newA (w.alloc (.cells #[.pointer (some ⟨G, 0, none⟩)] 59)) #[.slice (some ad) N cap] 30 (cs := [.slice (some ad) N cap]) rfl
  rw [World.size_alloc] at o1
  have hz0 : ((w.alloc (.cells #[.pointer (some ⟨G, 0, none⟩)] 59)).alloc (.cells #[.slice (some ad) N cap] 30)).heap.size = w.heap.size + 2 := by simp
  have k2 := o2.cell? (i := 0) rfl
  have HG := Lib.hid (h.below hb0)
  have HR := Lib.hid (hr.below hb0)
  have HRS := Lib.hid (hrs.below hb0)
  have HSB := Lib.hid hsb; clear hsb
  have HND := Lib.hid hnd; clear hnd
  have HGR := Lib.hid hgr; clear hgr
  have HDL := Lib.hid hdl; clear hdl
  have O1 := Lib.hid o1; clear o1
  have O2 := Lib.hid o2; clear o2
  clear h hr hrs hbA
  go_enter Try.func102, Try.ntmps102
  go_wp2_with fail
  generalize (w.alloc (.cells #[.pointer (some ⟨G, 0, none⟩)] 59)).alloc (.cells #[.slice (some ad) N cap] 30) = W at *
  refine (scriptOf_any G gb gv capb rb N _ _ _ ⟨gs, 0, none⟩ cs s W HG.out hN (by omega) HRS.out HSB.out).mono ?_
  rintro e w2 ⟨gm, rfl, hgm, hom, hb2⟩
  clear k2
  have OM := Lib.hid hom; clear hom
  have hbW := (Below.refl w2.heap.size w2).alloc (Nat.le_refl _) (.cells #[.slice (some ⟨gm, 0, none⟩) N N] 30)
  have hb23 : Below W.heap.size W (w2.alloc (.cells #[.slice (some ⟨gm, 0, none⟩) N N] 30)) := ball hb2 hbW
  have O3 := Lib.hid (Own.newA w2 #[.slice (some ⟨gm, 0, none⟩) N N] 30 (cs := [.slice (some ⟨gm, 0, none⟩) N N]) rfl)
  have hcon := containsFunc3_any 123 (.pointer (some ⟨w.heap.size + 1, 0, none⟩)) (.pointer (some ⟨w.heap.size, 0, none⟩)) (.pointer (some ⟨w2.heap.size, 0, none⟩)) (fun x => !lglP N (betF ls) (fd d) s x) ⟨gs, 0, none⟩ cs s _ (by omega) (HRS.out.below hb23) (callFunc_plain Try.func123 (by kernel_rfl) (by kernel_rfl)) (fun x w' hx hb => by
    obtain ⟨j, hj, e⟩ := List.getElem_of_mem hx
    have hbx := HSB.out j hj
    rw [List.getD_eq_getElem?_getD, List.getElem?_eq_getElem hj, Option.getD_some, e] at hbx
    obtain ⟨v, rfl⟩ : ∃ v : Nat, x = v := ⟨x.toNat, by omega⟩
    have hbw := ball hb23 hb
    exact isLegal1_any (w.heap.size + 1) w.heap.size w2.heap.size G gb gv capb rb N ls v ad cap gm d s w' (HG.out.below hbw) HGR.out hN (by omega) HDL.out (HR.out.below hbw) (OM.out.belowAll (ball hbW hb)) ((O1.out.belowAll hbw).cell? (i := 0) rfl) ((O2.out.belowAll hbw).cell? (i := 0) rfl) ((O3.out.belowAll hb).cell? (i := 0) rfl) (HND.out v (by omega) hx))
  rw [HA.out] at hcon
  have HCON := Lib.hid hcon; clear hcon
  go_wp2_with fail
  refine HCON.out.mono ?_
  rintro e w4 ⟨rfl, hb4⟩
  go_wp2_with fail
  go_ret
  exact ⟨ret_bool (by simp), ball hb0 (ball hb23 hb4)⟩

end Go.Proofs.Ytmhmdbmiimpbnaa
