/-
  Both sides of ToppleAll.
-/
import Derived.Test.YtopkohkilmlpaaaTopI
namespace Go.Proofs.Ytopkohkilmlpaaa
open Go.RowKit

noncomputable def toppleR (n : Int) (ls : List Lk) (z : Int) (d : List Int) : List Int × List Int × Bool := if pgB n ls z = true ∧ pileB n z d = true then ((topR n.toNat (betF ls) (valF ls) z.toNat (fo d)).1, (topR n.toNat (betF ls) (valF ls) z.toNat (fo d)).2, true) else ([], [], false)
theorem RetLLB.of {r : List Int × List Int × Bool} {w w' : World} {v u : Value} {a c : List Int} {b : Bool} (h : r = (a, c, b)) (hv : ResI w' w.heap.size 3 v a) (hu : ResI w' w.heap.size 3 u c) (hs : ∀ q, v.ownBlock = some q → u.ownBlock ≠ some q) (hb : Below w.heap.size w w') : RetLLB r w (.returned (.tuple #[v, u, .bool b])) w' := by subst h; exact ⟨v, u, rfl, hv, hu, hs, hb⟩
theorem RetLLB.no {r : List Int × List Int × Bool} {w w' : World} (h : r = ([], [], false)) (hb : Below w.heap.size w w') : RetLLB r w (.returned (.tuple #[.slice none 0 0, .slice none 0 0, .bool false])) w' := RetLLB.of h (Or.inl ⟨rfl, rfl⟩) (Or.inl ⟨rfl, rfl⟩) (fun q hq => by simp [Value.ownBlock] at hq) hb

/-- What a pile's conditions come to. -/
theorem pile_ok {n : Int} {ls : List Lk} {z : Int} {d : List Int} (h : pgB n ls z = true) (hd : pileB n z d = true) : ∃ N Z : Nat, n = N ∧ z = Z ∧ 1 ≤ N ∧ N ≤ 5 ∧ Z < N ∧ goodL N ls = true ∧ connB N ls = true ∧ d.length = N ∧ (∀ j, j < N → 0 ≤ fo d j ∧ fo d j ≤ 50) ∧ fo d Z = 0 := by
  obtain ⟨hg, h5, he, hc, hz⟩ := pgB_t.1 h
  obtain ⟨hz0, hz1⟩ := inB_t.1 hz
  obtain ⟨hdl, hd0, hdb⟩ := pileB_t hd
  have hn := good_n hg
  obtain ⟨N, rfl⟩ : ∃ N : Nat, n = N := ⟨n.toNat, by omega⟩
  obtain ⟨Z, rfl⟩ : ∃ Z : Nat, z = Z := ⟨z.toNat, by omega⟩
  rw [Int.toNat_natCast] at hd0
  exact ⟨N, Z, rfl, rfl, by omega, by omega, by omega, hg, hc, by omega, fun j hj => hdb j (by omega), hd0⟩
theorem topR_len {N : Nat} {bet : Nat → Nat → Int} {val : Nat → Int} {z : Nat} {d : Nat → Int} (h : ∃ r, TopEnd N bet val z d r) : (topR N bet val z d).1.length = N ∧ (topR N bet val z d).2.length = N := by
  obtain ⟨r, hr⟩ := h
  rw [hr.eq]
  obtain ⟨c, s, rfl, _⟩ := hr
  exact ⟨tab_length _ _, tab_length _ _⟩

set_option maxHeartbeats 800000 in
theorem specTop_c (n : Int) (adl : Option Addr) (capl : Nat) (ls : List Lk) (z : Int) (a : Addr) (cap : Nat) (d : List Int) (w : World) (hl : ls.length ≤ 1048576) (hr : RdL w adl ls) (hl' : d.length ≤ 1048576) (hr' : RdI w (some a) d) :
    Calls Try.prog 28 #[.int .i64 n, .slice adl ls.length capl, .int .i64 z, .slice (some a) d.length cap] w (RetLLB (toppleR n ls z d) w) := by
  by_cases hp : (pgB n ls z && pileB n z d) = true
  case pos =>
    have hpp := hp
    simp only [Bool.and_eq_true] at hpp
    have hR0 : toppleR n ls z d = ((topR n.toNat (betF ls) (valF ls) z.toNat (fo d)).1, (topR n.toNat (betF ls) (valF ls) z.toNat (fo d)).2, true) := if_pos hpp
    obtain ⟨N, Z, rfl, rfl, hN1, hN5, hZ, hg, hc, hdl, hdb, hd0⟩ := pile_ok hpp.1 hpp.2
    rw [Int.toNat_natCast, Int.toNat_natCast] at hR0
    have hR := Lib.hid hR0; clear hR0 hpp
    have HDL := Lib.hid hdl; clear hdl
    have HD0 := Lib.hid hd0; clear hd0
    go_enter Try.func28, Try.ntmps28
    go_wp2_with fail
    refine (piAsked_any _ adl capl ls _ (some a) cap d _ hl hr hl' hr').mono ?_
    rw [hp]
    rintro e w1 ⟨rfl, hb1⟩
    go_wp2_with fail
    rw [HDL.out]
    refine (piTopple_any N adl capl ls Z a cap d _ hl (hr.below hb1) hg hc hZ HDL.out (hr'.below hb1) (fun j hj => by have := hdb j hj; omega) HD0.out).mono ?_
    rintro e w2 ⟨v, u, rfl, hv, hu, hvu, hb2⟩
    have HV := Lib.hid hv; clear hv
    have HU := Lib.hid hu; clear hu
    have HVU := Lib.hid hvu; clear hvu
    go_wp2_with fail
    go_ret3
    exact RetLLB.of hR.out (HV.out.mono hb1.size) (HU.out.mono hb1.size) HVU.out (ball hb1 hb2)
  case neg =>
    have hp' := Bool.eq_false_iff.2 hp
    have hR : Hid (toppleR n ls z d = ([], [], false)) := if_neg (by simpa [Bool.and_eq_true] using hp)
    go_enter Try.func28, Try.ntmps28
    go_wp2_with fail
    refine (piAsked_any n adl capl ls z (some a) cap d _ hl hr hl' hr').mono ?_
    rw [hp']
    rintro e w1 ⟨rfl, hb1⟩
    go_wp2_with fail
    go_ret3
    exact RetLLB.no hR.out hb1

set_option maxHeartbeats 1600000 in
set_option maxRecDepth 100000 in
theorem implTop_c (n : Int) (adl : Option Addr) (capl : Nat) (ls : List Lk) (z : Int) (a : Addr) (cap : Nat) (d : List Int) (w : World) (hl : ls.length ≤ 1048576) (hr : RdL w adl ls) (hl' : d.length ≤ 1048576) (hr' : RdI w (some a) d) :
    Calls Try.prog 29 #[.int .i64 n, .slice adl ls.length capl, .int .i64 z, .slice (some a) d.length cap] w (RetLLB (toppleR n ls z d) w) := by
  have hb0 : Below w.heap.size w (w.alloc (.cells #[.slice (some a) d.length cap] 23)) := (Below.refl _ _).alloc (Nat.le_refl _) _
  have hon := Own.newA w #[.slice (some a) d.length cap] 23 (cs := [.slice (some a) d.length cap]) rfl
  have HON := Lib.hid hon; clear hon
  by_cases hg : goodL n ls = true
  case neg =>
    have hg' := Bool.eq_false_iff.2 hg
    have hR : Hid (toppleR n ls z d = ([], [], false)) := if_neg (by simp [pgB_no hg'])
    go_enter Try.func29, Try.ntmps29
    go_wp2_with fail
    refine (withPiles_no n adl capl ls z _ _ hl (hr.below hb0) hg').mono ?_
    rintro e w1 ⟨rfl, hb1⟩
    have hbw := ball hb0 hb1
    go_wp2_with fail
    go_ret3
    exact RetLLB.no hR.out (hbw.alloc hbw.size _)
  case pos =>
    by_cases hp : (pgB n ls z && pileB n z d) = true
    case neg =>
      have hp' : wpB n ls z [d] = false := by rw [wpB_one]; exact Bool.eq_false_iff.2 hp
      have hR : Hid (toppleR n ls z d = ([], [], false)) := if_neg (by simpa [Bool.and_eq_true] using hp)
      go_enter Try.func29, Try.ntmps29
      go_wp2_with fail
      refine (withPiles_any n adl capl ls z w.heap.size 1 [.slice (some a) d.length cap] [d] _ hl (hr.below hb0) hg (by simp) HON.out (pilesAt_one hl' (hr'.below hb0))).mono ?_
      rw [hp']
      rintro e w1 ⟨G, gb, gv, capb, rb, rfl, hG, hGB, hGV, hb1⟩
      clear hG
      have hbw := ball hb0 hb1
      go_wp2_with fail
      go_ret3
      exact RetLLB.no hR.out (hbw.alloc hbw.size _)
    case pos =>
      have hpp := hp
      simp only [Bool.and_eq_true] at hpp
      have hp' : wpB n ls z [d] = true := by rw [wpB_one]; exact hp
      have hR0 : toppleR n ls z d = ((topR n.toNat (betF ls) (valF ls) z.toNat (fo d)).1, (topR n.toNat (betF ls) (valF ls) z.toNat (fo d)).2, true) := if_pos hpp
      obtain ⟨N, Z, rfl, rfl, hN1, hN5, hZ, _, hc, hdl, hdb, hd0⟩ := pile_ok hpp.1 hpp.2
      rw [Int.toNat_natCast, Int.toNat_natCast] at hR0
      have hR := Lib.hid hR0; clear hR0 hpp hp
      have HDL := Lib.hid hdl; clear hdl
      clear hd0
      go_enter Try.func29, Try.ntmps29
      go_wp2_with fail
      refine (withPiles_any _ adl capl ls _ w.heap.size 1 [.slice (some a) d.length cap] [d] _ hl (hr.below hb0) hg (by simp) HON.out (pilesAt_one hl' (hr'.below hb0))).mono ?_
      rw [hp']
      rintro e w1 ⟨G, gb, gv, capb, rb, rfl, hG, hGB, hGV, hb1⟩
      rw [Int.toNat_natCast] at hG
      have hbw := ball hb0 hb1
      have hba := hbw.alloc hbw.size (.cells #[.pointer (some ⟨G, 0, none⟩), .int .i64 Z] 55)
      have HG := Lib.hid (hG.alloc (.cells #[.pointer (some ⟨G, 0, none⟩), .int .i64 Z] 55)); clear hG
      go_wp2_with fail
      rw [HDL.out]
      refine (topple_any G gb gv capb rb N ls Z a cap d _ HG.out hg hc hZ HDL.out (hr'.below hba) (fun j hj => by have := hdb j hj; omega)).mono ?_
      rintro e w2 ⟨v, u, rfl, hv, hu, hvu, hb2⟩
      have HV := Lib.hid hv; clear hv
      have HU := Lib.hid hu; clear hu
      have HVU := Lib.hid hvu; clear hvu
      go_wp2_with fail
      go_ret3
      exact RetLLB.of hR.out (HV.out.mono hba.size) (HU.out.mono hba.size) HVU.out (ball hba hb2)

theorem ts_end {N : Nat} {bet : Nat → Nat → Int} {val : Nat → Int} {z : Nat} {d f : Nat → Int} (g : Gr N bet val) (p : Pot N bet val z f) : ∀ (k : Nat) (c s : Nat → Int), TS N bet val z d c s → (wt N f c).toNat ≤ k → ∃ c' s', TS N bet val z d c' s' ∧ ∀ j, j < N → j ≠ z → c' j < val j := by
  intro k
  induction k with
  | zero =>
    intro c s h hk
    refine ⟨c, s, h, fun j hj hjz => ?_⟩
    apply Classical.byContradiction
    intro q
    have h1 := wt_down (c := c) p hj hjz
    have h2 := (h.topple g hj hjz (by omega)).wt_nn p
    omega
  | succ k ih =>
    intro c s h hk
    by_cases hs : ∀ j, j < N → j ≠ z → c j < val j
    · exact ⟨c, s, h, hs⟩
    · have : ∃ j, j < N ∧ j ≠ z ∧ val j ≤ c j := by
        apply Classical.byContradiction
        intro hno
        exact hs fun j hj hjz => by
          apply Classical.byContradiction
          intro q
          exact hno ⟨j, hj, hjz, by omega⟩
      obtain ⟨j, hj, hjz, hc⟩ := this
      have h1 := wt_down (c := c) p hj hjz
      have h2 := h.topple g hj hjz hc
      exact ih _ _ h2 (by have := h2.wt_nn p; omega)
theorem topEnd_exists {N z : Nat} {ls : List Lk} {d : Nat → Int} (hg : goodL N ls = true) (hc : connB N ls = true) (hz : z < N) (hd : ∀ j, j < N → 0 ≤ d j) : ∃ r, TopEnd N (betF ls) (valF ls) z d r := by
  obtain ⟨f, hf⟩ := pot_exists rfl hg hc hz
  obtain ⟨c, s, h, hs⟩ := ts_end (gr_of rfl hg) hf _ d _ (TS.start hd) (Nat.le_refl _)
  exact ⟨_, _, s, rfl, h.clear hz, fun j hj hjz => by rw [if_neg hjz]; exact hs j hj hjz, if_pos rfl⟩
theorem toppleR_len {n : Int} {ls : List Lk} {z : Int} {d : List Int} : (toppleR n ls z d).1.length ≤ 1048576 ∧ (toppleR n ls z d).2.1.length ≤ 1048576 := by
  by_cases hp : pgB n ls z = true ∧ pileB n z d = true
  · have hR0 : toppleR n ls z d = ((topR n.toNat (betF ls) (valF ls) z.toNat (fo d)).1, (topR n.toNat (betF ls) (valF ls) z.toNat (fo d)).2, true) := if_pos hp
    obtain ⟨N, Z, rfl, rfl, hN1, hN5, hZ, hg, hc, hdl, hdb, hd0⟩ := pile_ok hp.1 hp.2
    rw [Int.toNat_natCast, Int.toNat_natCast] at hR0
    have := topR_len (topEnd_exists hg hc hZ (d := fo d) (fun j hj => (hdb j hj).1))
    rw [hR0]
    simp only
    omega
  · have hR0 : toppleR n ls z d = ([], [], false) := if_neg hp
    rw [hR0]; simp

end Go.Proofs.Ytopkohkilmlpaaa
