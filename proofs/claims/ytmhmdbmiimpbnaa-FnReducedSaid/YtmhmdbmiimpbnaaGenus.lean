/-
  The genus: the reference's chGenus and the program's genus.
-/
import Derived.Test.YtmhmdbmiimpbnaaGraph
namespace Go.Proofs.Ytmhmdbmiimpbnaa
open Go.RowKit

def genusR (n : Int) (ls : List Lk) : Int × Bool := if goodL n ls = true then (edgeF ls - n + 1, true) else (0, false)

set_option maxHeartbeats 400000 in
theorem chGenus_any (n : Int) (ad : Option Addr) (cap : Nat) (ls : List Lk) (w : World) (hl : ls.length ≤ 1048576) (hr : RdL w ad ls) (hg : goodL n ls = true) :
    Calls Try.prog 61 #[.int .i64 n, .slice ad ls.length cap] w fun e w' => e = .returned (.int .i64 (edgeF ls - n + 1)) ∧ Below w.heap.size w w' := by
  obtain ⟨hn1, hn2⟩ := good_n hg
  have HR := Lib.hid hr; clear hr
  have HGD := Lib.hid hg; clear hg
  go_enter Try.func61, Try.ntmps61
  go_wp2
  go_loopw [5, 12] (fun s i wr => ∃ k : Nat, k ≤ ls.length ∧ i = .int .i64 k ∧ s = .int .i64 (1 - n + edgeF (ls.take k)) ∧ Below w.heap.size w wr) (fun _ i _ => ls.length - (intOf i).toNat)
  case atStart => exact ⟨0, Nat.zero_le _, rfl, by simp [edgeF_nil], Below.refl _ _⟩
  case round =>
    obtain ⟨k, hk, rfl, rfl, hbel⟩ := hrel
    have v3 := edgeF_bound HGD.out hl k
    by_cases hlt : k < ls.length
    · obtain ⟨b, off, rfl, hb, c0, c1, c2⟩ := HR.out k hlt
      have d0 := bcell hbel hb c0
      have d1 := bcell hbel hb c1
      have d2 := bcell hbel hb c2
      clear c0 c1 c2
      obtain ⟨xl, hx⟩ : ∃ xl, ls.getD k Lk.z = xl := ⟨_, rfl⟩
      obtain ⟨g1, g2, g3, g4, g5⟩ := good_lk HGD.out hlt hx
      have st := edgeF_step hlt hx
      rw [hx] at d0 d1 d2
      obtain ⟨xa, xb, xn⟩ := xl
      simp only at d0 d1 d2 g1 g2 g3 g4 g5 st
      have HX := Lib.hid hx; clear hx
      have HST := Lib.hid st; clear st
      generalize edgeF (ls.take k) = ve at v3 HST ⊢
      go_wp2
      go_roundw
      case rel => exact ⟨k + 1, by omega, by go_num, by rw [HST.out]; congr 1; omega, hbel.alloc hbel.size _⟩
      case measure => simp [intOf]; omega
    · have he : k = ls.length := by omega
      subst he
      rw [List.take_length] at v3 ⊢
      go_wp2
      go_ret
      exact ⟨ret_int (by omega), hbel⟩

set_option maxHeartbeats 400000 in
theorem genus_any (G gb gv capb : Nat) (rb : Nat → Nat) (N : Nat) (bet : Nat → Nat → Int) (val : Nat → Int) (ed : Int) (w : World) (hN : N ≤ 8) (h0 : 0 ≤ ed) (h1 : ed ≤ 5242880) (h : GrAt w G gb gv capb rb N bet val ed) :
    Calls Try.prog 60 #[.pointer (some ⟨G, 0, none⟩)] w fun e w' => e = .returned (.int .i64 (ed - N + 1)) ∧ Below w.heap.size w w' := by
  have c0 := h.c0
  have c3 := h.c3
  have e1 : IntKind.i64.wrap (ed - (N : Int)) = ed - N := i64_small (by omega) (by omega)
  have e2 : IntKind.i64.wrap (ed - (N : Int) + 1) = ed - N + 1 := i64_small (by omega) (by omega)
  clear h
  go_enter Try.func60, Try.ntmps60
  go_wp2
  go_quiet (fail)
  clear e1 e2
  go_wp2
  go_ret
  exact ⟨rfl, bdrewN (Below.refl _ _) _⟩

set_option maxHeartbeats 400000 in
theorem specGenus_c (n : Int) (ad : Option Addr) (cap : Nat) (ls : List Lk) (w : World) (hl : ls.length ≤ 1048576) (hr : RdL w ad ls) :
    Calls Try.prog 13 #[.int .i64 n, .slice ad ls.length cap] w (RetIB (genusR n ls) w) := by
  by_cases hg : goodL n ls = true
  · have hR : Hid (genusR n ls = (edgeF ls - n + 1, true)) := if_pos hg
    go_enter Try.func13, Try.ntmps13
    go_wp2_with fail
    refine (chGood_any n ad cap ls _ hl hr).mono ?_
    rw [hg]
    rintro e w1 ⟨rfl, hb1⟩
    go_wp2_with fail
    refine (chGenus_any n ad cap ls _ hl (hr.below hb1) hg).mono ?_
    rintro e w2 ⟨rfl, hb2⟩
    go_wp2
    go_ret2
    exact RetIB.of hR.out (ball hb1 hb2)
  · have hg' := Bool.eq_false_iff.2 hg
    have hR : Hid (genusR n ls = (0, false)) := if_neg hg
    go_enter Try.func13, Try.ntmps13
    go_wp2_with fail
    refine (chGood_any n ad cap ls _ hl hr).mono ?_
    rw [hg']
    rintro e w1 ⟨rfl, hb1⟩
    go_wp2
    go_ret2
    exact RetIB.of hR.out hb1

set_option maxHeartbeats 400000 in
theorem implGenus_c (n : Int) (ad : Option Addr) (cap : Nat) (ls : List Lk) (w : World) (hl : ls.length ≤ 1048576) (hr : RdL w ad ls) :
    Calls Try.prog 12 #[.int .i64 n, .slice ad ls.length cap] w (RetIB (genusR n ls) w) := by
  by_cases hg : goodL n ls = true
  · have hR : Hid (genusR n ls = (edgeF ls - n + 1, true)) := if_pos hg
    obtain ⟨hn1, hn2⟩ := good_n hg
    go_enter Try.func12, Try.ntmps12
    go_wp2_with fail
    refine (graphOf_any n ad cap ls _ hl hr hg).mono ?_
    rintro e w1 ⟨G, gb, gv, capb, rb, rfl, hG, hGB, hGV, hb1⟩
    have v3 := edgeF_bound hg hl ls.length
    rw [List.take_length] at v3
    have HG := Lib.hid hG; clear hG
    go_wp2_with fail
    refine (genus_any G gb gv capb rb n.toNat _ _ _ _ (by omega) v3.1 v3.2 HG.out).mono ?_
    rintro e w2 ⟨rfl, hb2⟩
    go_wp2
    go_ret2
    exact RetIB.of (by rw [hR.out, show max n 0 = n from by omega]) (ball hb1 hb2)
  · have hg' := Bool.eq_false_iff.2 hg
    have hR : Hid (genusR n ls = (0, false)) := if_neg hg
    go_enter Try.func12, Try.ntmps12
    go_wp2_with fail
    refine (graphOf_no n ad cap ls _ hl hr hg').mono ?_
    rintro e w1 ⟨rfl, hb1⟩
    go_wp2
    go_ret2
    exact RetIB.of hR.out hb1

end Go.Proofs.Ytmhmdbmiimpbnaa
