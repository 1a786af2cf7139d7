/-
  The reference's hull and its test of a polygon. By an AI agent.
-/
import Derived.Test.YtcionneopgdebaaGreatHull
import Derived.Test.YtcionneopgdebaaGreatHalf
namespace Go.Proofs.YtcionneopgdebaaGreat
open Go.RowKit

theorem drop_rev (s : List Pt) (j : Nat) (h : j < s.length) : (s.drop j).reverse = (s.drop (j + 1)).reverse ++ [s.getD j default] := by
  rw [List.drop_eq_getElem_cons h, List.reverse_cons, List.getD_eq_getElem?_getD, List.getElem?_eq_getElem h, Option.getD_some]
theorem RowP.readsDrop {w : World} {B n cap : Nat} {b off : Nat} {l : List Pt} (h : RowP w B (.slice (some ⟨b, off, none⟩) n cap) l) (m : Nat) (hm : l.length = m + 1) : ReadsP w (.slice (some ⟨b, off, none⟩) m cap) l.dropLast := by
  have hd := h.drop (by omega)
  have hr := hd.rd
  exact Or.inr ⟨b, off, cap, by rw [List.length_dropLast, show l.length - 1 = m by omega], hr⟩

/-- A hull as a row of one's own. -/
def HullToR (w : World) (l : List Pt) (e : Ending) (w' : World) : Prop := ∃ v, e = .returned v ∧ RowP w' w.heap.size v l ∧ Below w.heap.size w w'
set_option maxHeartbeats 3200000 in
set_option maxRecDepth 100000 in
theorem pyHullR_c (ad : Option Addr) (cap : Nat) (l : List Pt) (w : World) (hr : RdP w ad l) (hl : l.length ≤ 50000) (hs : AllSh l) :
    Calls Tryz.prog 34 #[.slice ad l.length cap] w (HullToR w (hullF (pySortF l))) := by
  have c1 := Lib.hid (pySorted_c ad cap l w hr hl)
  clear hr
  have hsp := pySortF_sh hs
  have hpl := pySortF_len l
  clear hs
  obtain ⟨s, hse⟩ : ∃ s, pySortF l = s := ⟨_, rfl⟩
  rw [hse] at hsp hpl c1 ⊢
  clear hse
  have hsl : s.length ≤ 50000 := by omega
  clear hpl
  obtain ⟨iP, hiP, hzP, hsP, hbP⟩ := info_parts Tryz.infoP
  go_enter Tryz.func34, Tryz.ntmps34
  go_wp2_with fail
  refine c1.out.mono ?_
  rintro e w1 ⟨v, rfl, hrow, hb1⟩
  obtain ⟨adS, capS, rfl, _, _⟩ := hrow.shape
  have HRD1 := Lib.hid hrow.rd; have HROW1 := Lib.hid hrow; clear hrow c1
  by_cases h2 : s.length < 2
  case pos =>
    have e1 : decide ((s.length : Int) < 2) = true := decide_eq_true (by omega)
    have HV := Lib.hid (show hullF s = s by unfold hullF; rw [if_pos h2])
    clear h2
    go_wp2_with fail
    go_ret
    exact ⟨_, rfl, by rw [HV.out]; exact HROW1.out, hb1⟩
  case neg =>
    have e1 : decide ((s.length : Int) < 2) = false := decide_eq_false (by omega)
    have HV := Lib.hid (show hullF s = (halfF s).dropLast ++ (halfF s.reverse).dropLast by unfold hullF; rw [if_neg h2])
    have c4 := Lib.hid (pyHalf_c adS capS s w1 HRD1.out (by omega) hsp)
    go_wp2_with fail
    refine c4.out.mono ?_
    rintro e w2 ⟨v4, rfl, hr4, hb2⟩
    have HR4 := Lib.hid hr4; have HRD2 := Lib.hid (HRD1.out.below hb2); clear hr4 c4
    have hbW := ball hb1 hb2
    have wl : IntKind.i64.wrap ((s.length : Int) - 1) = (s.length : Int) - 1 := i64_small (by omega) (by omega)
    have HS2 := Lib.hid h2; clear h2
    go_wp2_with fail
    go_loopw [5, 6] (fun v i wr => ∃ (k : Nat) (z : Int), k ≤ s.length ∧ z = (k : Int) - 1 ∧ i = .int .i64 z ∧ RowP wr w2.heap.size v (s.drop k).reverse ∧ Below w2.heap.size w2 wr) (fun _ i _ => (intOf i + 1).toNat)
    case atStart => exact ⟨s.length, _, Nat.le_refl _, rfl, rfl, by rw [List.drop_length]; exact RowP.nil _ _, Below.refl _ _⟩
    case round =>
      obtain ⟨wE, rfl⟩ : ∃ x : World, x = wr := ⟨_, rfl⟩
      obtain ⟨k, z, hk, hz, rfl, hrow, hbel⟩ := hrel
      by_cases hk0 : k = 0
      case pos =>
        subst hk0
        obtain rfl : z = -1 := by omega
        rw [List.drop_zero] at hrow
        obtain ⟨adB, capB, rfl, _, _⟩ := hrow.shape
        have c6 := pyHalf_c adB capB s.reverse wE hrow.rd (by simp; omega) (fun p hp => hsp p (by simpa using hp))
        rw [List.length_reverse] at c6
        have C6 := Lib.hid c6
        have HR4E := Lib.hid (HR4.out.below hbel)
        clear hrow c6 HR4
        obtain ⟨z, hz1⟩ : ∃ z : Int, -1 = z := ⟨_, rfl⟩
        rw [hz1]
        have g0 : decide (z ≥ 0) = false := decide_eq_false (by omega)
        have g1 : decide (0 ≤ z) = false := decide_eq_false (by omega)
        have HZ := Lib.hid hz1; clear hz1 hz
        go_wp2_with fail
        refine C6.out.mono ?_
        rintro e w3 ⟨v6, rfl, hr6, hb3⟩
        have hr4 := HR4E.out.below hb3
        have hbX := ball (ball hbW hbel) hb3
        have hq1 := halfF_two s (by have := HS2.out; omega)
        have hq2 := halfF_two s.reverse (by have := HS2.out; simp; omega)
        have hn1 := halfF_len s
        have hn2 := halfF_len s.reverse
        rw [List.length_reverse] at hn2
        obtain ⟨L1, hL1⟩ : ∃ x, halfF s = x := ⟨_, rfl⟩
        obtain ⟨L2, hL2⟩ : ∃ x, halfF s.reverse = x := ⟨_, rfl⟩
        rw [hL1] at hr4 HV hq1 hn1
        rw [hL2] at hr6 HV hq2 hn2
        clear hL1 hL2
        obtain ⟨ad4, cap4, rfl, hc4, _⟩ := hr4.shape
        obtain ⟨ad6, cap6, rfl, hc6, _⟩ := hr6.shape
        obtain ⟨b4, off4, rfl, hl4⟩ := hr4.rd.some (by omega)
        obtain ⟨b6, off6, rfl, hl6⟩ := hr6.rd.some (by omega)
        obtain ⟨m1, hm1⟩ : ∃ m, L1.length = m + 1 := ⟨L1.length - 1, by omega⟩
        obtain ⟨m2, hm2⟩ : ∃ m, L2.length = m + 1 := ⟨L2.length - 1, by omega⟩
        have HX1 := Lib.hid (hr4.readsDrop m1 hm1)
        have HX2 := Lib.hid (hr6.readsDrop m2 hm2)
        have n1 : (L1.length : Int) - 1 = (m1 : Int) := by omega
        have n2 : (L2.length : Int) - 1 = (m2 : Int) := by omega
        have p1 : IntKind.i64.wrap (m1 : Int) = (m1 : Int) := i64_small (by omega) (by omega)
        have p2 : IntKind.i64.wrap (m2 : Int) = (m2 : Int) := i64_small (by omega) (by omega)
        have k1 : m1 ≤ cap4 := by omega
        have k2 : m2 ≤ cap6 := by omega
        have hl1 : L1.dropLast.length ≤ 50000 := by rw [List.length_dropLast]; omega
        have hl2 : L2.dropLast.length ≤ 50000 := by rw [List.length_dropLast]; omega
        have HM1 := Lib.hid hm1; have HM2 := Lib.hid hm2
        clear hr4 hr6 hm1 hm2 hq1 hq2 hn1 hn2 C6
        have hbal : ∀ W' o1, Below w3.heap.size w3 W' → Below w3.heap.size w3 (W'.alloc o1) := fun W' o1 h => h.alloc h.size o1
        have hbdr : ∀ W', Below w3.heap.size w3 W' → Below w3.heap.size w3 W'.drew := fun W' h => h.drew
        have HBA := Lib.hid hbal; have HBD := Lib.hid hbdr; clear hbal hbdr
        go_wp2_with fail
        go_region_held3 (fun _ => True) (exact True.intro)
          (first
            | (refine step_app (by rfl) _ _ (by rfl) w3.heap.size (.slice (some ⟨_, 0, none⟩) 0 0) (.slice (some ⟨b4, off4, none⟩) m1 cap4) [] L1.dropLast (by rfl) (by rfl) (by (with_reducible repeat (first | exact rowP_new _ _ _ (by simp) (by simp) | apply RowP.alloc' | apply RowP.drew'))) (by (with_reducible repeat (first | exact HX1.out.below (by (with_reducible repeat (first | exact Below.refl _ _ | apply HBD.out | apply HBA.out))) | apply ReadsP.alloc' | apply ReadsP.drew'))) (by simp) (by omega) (by (try simp) <;> omega) ?_; intro v1 x1 hown1 hg1b hg1; have hz1 : Below w3.heap.size w3 x1 := Below.trans (by (with_reducible repeat (first | exact Below.refl _ _ | apply HBD.out | apply HBA.out))) hg1b; have HO1 := Lib.hid hown1; have hzz1 := hz1.size; have HZ1 := Lib.hid hz1; clear hown1 hg1b hg1 hz1)
            | (refine step_app (by rfl) _ _ (by rfl) w3.heap.size v1 (.slice (some ⟨b6, off6, none⟩) m2 cap6) _ L2.dropLast (by rfl) (by rfl) (by (with_reducible repeat (first | exact HO1.out | apply RowP.alloc' | apply RowP.drew'))) (by (with_reducible repeat (first | exact HX2.out.below HZ1.out | apply ReadsP.alloc' | apply ReadsP.drew'))) (by rw [List.nil_append]; omega) (by omega) hzz1 ?_; intro v2 x2 hown2 hg2b hg2; have hz2 : Below w3.heap.size w3 x2 := HZ1.out.trans hg2b; have HO2 := Lib.hid hown2; have HZ2 := Lib.hid hz2; clear hown2 hg2b hg2 hz2))
        all_goals
          have hrow := HO2.out
          rw [List.nil_append] at hrow
          obtain ⟨adR, capR, rfl, _, _⟩ := hrow.shape
          have HRR := Lib.hid (RowP.mono hrow hbX.size); clear hrow
          go_wp2_with fail
          go_ret
          exact ⟨_, rfl, by rw [HV.out]; exact HRR.out, ball hbX HZ2.out⟩
      case neg =>
        obtain ⟨j, rfl⟩ : ∃ j, k = j + 1 := ⟨k - 1, by omega⟩
        obtain rfl : z = (j : Int) := by omega
        clear hz hk0
        have hrd := HRD2.out.below hbel
        obtain ⟨b, off, rfl, hb, c0, c1⟩ := hrd j (by omega)
        have hst := Lib.hid (drop_rev s j (by omega))
        have hol := Lib.hid (show (s.drop (j + 1)).reverse.length ≤ 50000 by simp; omega)
        obtain ⟨p, hp⟩ : ∃ p, s.getD j default = p := ⟨_, rfl⟩
        rw [hp] at c0 c1 hst
        obtain ⟨px, py⟩ := p
        simp only at c0 c1
        obtain ⟨o, ho⟩ : ∃ o, (s.drop (j + 1)).reverse = o := ⟨_, rfl⟩
        rw [ho] at hrow hst hol
        obtain ⟨adv, capv, rfl, _, _⟩ := hrow.shape
        have HO := Lib.hid hrow
        clear hp ho hrow hrd
        have wj : IntKind.i64.wrap (j : Int) = (j : Int) := i64_small (by omega) (by omega)
        have wj1 : IntKind.i64.wrap ((j : Int) - 1) = (j : Int) - 1 := i64_small (by omega) (by omega)
        have y1 : (0 : Int) ≤ (j : Int) := by omega
        have y2 : (j : Int) < (s.length : Int) := by omega
        have hzE := hbel.size
        go_wp2_with (at_builtin; refine wpList_append_lies _ rfl _ _ 32 rfl w2.heap.size 66 iP _ 2 16 Tryz.underlyingP hiP hzP hsP hbP rfl (by omega) (.slice adv o.length capv) o.length (ptsV o) rfl (HO.out.alloc' (o := (.cells #[.int .i64 px, .int .i64 py] 66))) ⟨wE.heap.size, 0, none⟩ 1 1 [.int .i64 px, .int .i64 py] rfl rfl (World.news_of_block (cs := #[.int .i64 px, .int .i64 py]) (t := 66) (fr := (0, 0)) (heap_alloc_new _ _)) (by simp [Value.oneCell']) (by omega) (by have := hol.out; unfold maxLen; omega) (by have := hol.out; omega) (by simp; omega) (wE.heap.size + 1) (by simp) ?_; intro g5 cap5 wm hown hgrow hat hlt5; clear hat)
        have hbm := appP_below hbel hzE HO.out hgrow
        go_roundw
        case rel => exact ⟨j, (j : Int) - 1, by omega, rfl, rfl, by rw [hst.out]; exact rowP_congr hown (by simp) (ptsV_snoc o ⟨px, py⟩).symm, hbm⟩
        case measure => simp [intOf] <;> omega

theorem pyHull_c (ad : Option Addr) (cap : Nat) (l : List Pt) (w : World) (hr : RdP w ad l) (hl : l.length ≤ 50000) (hs : AllSh l) :
    Calls Tryz.prog 34 #[.slice ad l.length cap] w (HullTo w (hullF (pySortF l))) := by
  refine (pyHullR_c ad cap l w hr hl hs).mono ?_
  rintro e w' ⟨v, rfl, hrow, hb⟩
  obtain ⟨ad2, cap2, rfl, _, _⟩ := hrow.shape
  exact ⟨ad2, cap2, rfl, hrow.rd, hb⟩
end Go.Proofs.YtcionneopgdebaaGreat
