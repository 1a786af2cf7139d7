/-
  Plane polynomials: sums, products, exchange of the reference. By an AI agent.
-/
import Derived.Test.YtbafgmicpopnoaaGreatDoorPlI
import Derived.Test.YtbafgmicpopnoaaGreatDoorPlE
namespace Go.Proofs.YtbafgmicpopnoaaGreatDoor
open Go.RowKit

/-! ### Plain -/
theorem gth_append (a b : List Tm) : gth (a ++ b) = b.foldl putT (gth a) := by unfold gth; rw [List.foldl_append]
theorem gth_snoc (a : List Tm) (t : Tm) : gth (a ++ [t]) = putT (gth a) t := by rw [gth_append]; rfl
theorem befT_p {p q : Tm} (h : befT p q = true) : befP p q := by rw [befT_dec] at h; exact of_decide_eq_true h
theorem plnK_bef {L : List Tm} {k j : Nat} (h : plnK L k = true) (hj : j + 1 < k) : befP (tmAt L j) (tmAt L (j + 1)) := by
  have h := plnK_le h (show j + 1 + 1 ≤ k by omega)
  unfold plnK at h
  simp only [Bool.and_eq_true, Bool.or_eq_true, decide_eq_true_eq] at h
  rcases h.2.2 with h2 | h2
  · omega
  · exact befT_p h2
theorem plane_lt {L : List Tm} (h : planeB L = true) : ∀ {i j : Nat}, i < j → j < L.length → befP (tmAt L i) (tmAt L j) := by
  unfold planeB at h
  rw [Bool.and_eq_true] at h
  intro i j hij hj
  induction j with
  | zero => omega
  | succ j ih =>
    have h1 := plnK_bef h.2 (j := j) hj
    by_cases e : i = j
    · subst e; exact h1
    · exact befP_trans (ih (by omega) (by omega)) h1
theorem plane_strict {L : List Tm} (h : planeB L = true) : StrictT L := by
  unfold StrictT
  rw [List.pairwise_iff_getElem]
  intro i j hi hj hij
  have := plane_lt h hij hj
  unfold tmAt at this
  rwa [List.getD_eq_getElem?_getD, List.getD_eq_getElem?_getD, List.getElem?_eq_getElem hi, List.getElem?_eq_getElem hj] at this
theorem gth_self {l : List Tm} (h : StrictT l) : gth l = l :=
  strictT_ext (gth_strict l) h fun t => by
    rw [gth_mem, lst_uniq]
    exact fun a ha b hb e => strictT_one h ha hb e
def sumOk (a b : List Tm) : Bool := planeB a && (planeB b && planeB (gth (a ++ b)))
def prdOk (a b : List Tm) : Bool := planeB a && (planeB b && planeB (gth (prdL a b)))
theorem prdL_snoc (a b : List Tm) (s : Tm) : prdL (a ++ [s]) b = prdL a b ++ b.map (addT s) := by unfold prdL; simp
theorem prdL_len (a b : List Tm) : (prdL a b).length = a.length * b.length := by
  unfold prdL
  induction a with
  | nil => simp
  | cons s a ih => rw [List.flatMap_cons, List.length_append, ih, List.length_map, List.length_cons, Nat.succ_mul]; omega
theorem mul_le12 {m n : Nat} (h : m ≤ 12) (k : n ≤ 12) : m * n ≤ 144 := Nat.mul_le_mul h k
theorem RowT.full {w : World} {B : Nat} {v : Value} {l : List Tm} (h : RowT w B v l) : ∃ ad cap, v = .slice ad l.length cap ∧ ST ad l.length cap ∧ RdT w ad l := by
  obtain ⟨ad, cap, rfl, h1, h2⟩ := h.shape
  refine ⟨ad, cap, rfl, ?_, RowT.rd h⟩
  rcases h.2 with ⟨e, e2⟩ | ⟨g, cap', cur, e, _, _, _⟩
  · injection e with e1 _ e3
    exact Or.inl ⟨e1, e2, e3⟩
  · injection e with e1 _ _
    exact Or.inr ⟨⟨g, 0, e1⟩, h1, h2⟩

/-! ### The reference -/
set_option maxHeartbeats 800000 in
theorem plIf_c (ad : Option Addr) (cap : Nat) (L : List Tm) (w : World) (hr : RdT w ad L) (hl : L.length ≤ 1048576) :
    Calls Tryz.prog 29 #[.slice ad L.length cap] w (PlnR w (if planeB L = true then L else []) (planeB L)) := by
  have c := plGood_c ad cap L w hr hl
  have HR := Lib.hid hr; clear hr
  obtain ⟨u, hu⟩ : ∃ u, planeB L = u := ⟨_, rfl⟩
  rw [hu] at c ⊢
  clear hu
  have C := Lib.hid c; clear c
  cases u
  case false =>
    go_enter Tryz.func29, Tryz.ntmps29
    go_wp2_with fail
    refine C.out.mono ?_
    rintro e w1 ⟨rfl, hw1⟩
    go_wp2_with fail
    go_ret2
    exact ⟨none, 0, rfl, RdT.nil _ _, hw1⟩
  case true =>
    rw [if_pos rfl]
    go_enter Tryz.func29, Tryz.ntmps29
    go_wp2_with fail
    refine C.out.mono ?_
    rintro e w1 ⟨rfl, hw1⟩
    go_wp2_with fail
    go_ret2
    exact ⟨ad, cap, rfl, HR.out.below hw1, hw1⟩

theorem pln_no {w : World} {w1 : World} (h : Below w.heap.size w w1) : PlnR w [] false (.returned (.tuple #[.slice none 0 0, .bool false])) w1 := ⟨none, 0, rfl, RdT.nil _ _, h⟩
theorem PlnR.then {w w1 : World} {L : List Tm} {b : Bool} {e : Ending} {w2 : World} (h : PlnR w1 L b e w2) (h1 : Below w.heap.size w w1) : PlnR w L b e w2 := by
  obtain ⟨ad, cap, e, hr, hb⟩ := h
  exact ⟨ad, cap, e, hr, ball h1 hb⟩

set_option maxHeartbeats 1600000 in
set_option maxRecDepth 100000 in
theorem sPlaneSum_c (ad ad2 : Option Addr) (cap cap2 : Nat) (a b : List Tm) (w : World) (hr : RdT w ad a) (hr2 : RdT w ad2 b) (hla : a.length ≤ 1048576) (hlb : b.length ≤ 1048576) :
    Calls Tryz.prog 9 #[.slice ad a.length cap, .slice ad2 b.length cap2] w (PlnR w (if sumOk a b = true then gth (a ++ b) else []) (sumOk a b)) := by
  have c1 := plGood_c ad cap a w hr hla
  have c2 := fun (u : World) (h : Below w.heap.size w u) => plGood_c ad2 cap2 b u (hr2.below h) hlb
  have HR := Lib.hid hr; have HR2 := Lib.hid hr2; clear hr hr2
  obtain ⟨u, hu⟩ : ∃ u, planeB a = u := ⟨_, rfl⟩
  obtain ⟨v, hv⟩ : ∃ v, planeB b = v := ⟨_, rfl⟩
  unfold sumOk
  rw [hu] at c1
  rw [hv] at c2
  rw [hu, hv]
  have C1 := Lib.hid c1; have C2 := Lib.hid c2; clear c1 c2
  cases u
  case false =>
    simp only [Bool.false_and, Bool.false_eq_true, if_false]
    clear hu hv
    go_enter Tryz.func9, Tryz.ntmps9
    go_wp2_with fail
    refine C1.out.mono ?_
    rintro e w1 ⟨rfl, hw1⟩
    go_wp2_with fail
    go_ret2
    exact pln_no hw1
  case true =>
    cases v
    case false =>
      simp only [Bool.false_and, Bool.and_false, Bool.false_eq_true, if_false]
      clear hu hv
      go_enter Tryz.func9, Tryz.ntmps9
      go_wp2_with fail
      refine C1.out.mono ?_
      rintro e w1 ⟨rfl, hw1⟩
      have HB1 := Lib.hid hw1
      go_wp2_with fail
      refine (C2.out _ HB1.out).mono ?_
      rintro e w2 ⟨rfl, hw2⟩
      go_wp2_with fail
      go_ret2
      exact pln_no (ball hw1 hw2)
    case true =>
      simp only [Bool.true_and]
      have ha := (plane_len hu)
      have hb := (plane_len hv)
      have hga : gth (a ++ b) = b.foldl putT a := by rw [gth_append, gth_self (plane_strict hu)]
      have hgl : ∀ k, (b.take k).foldl putT a = gth (a ++ b.take k) := fun k => by rw [gth_append, gth_self (plane_strict hu)]
      have HGL := Lib.hid hgl; clear hgl hga
      have HGA := Lib.hid (show gth a = a from gth_self (plane_strict hu))
      clear hu hv
      obtain ⟨pg, hpg⟩ : ∃ x, planeB (gth (a ++ b)) = x := ⟨_, rfl⟩
      obtain ⟨Z, hZ⟩ : ∃ x, (if pg = true then gth (a ++ b) else []) = x := ⟨_, rfl⟩
      rw [hpg, hZ]
      have HPG := Lib.hid hpg; have HZ := Lib.hid hZ; clear hpg hZ
      go_enter Tryz.func9, Tryz.ntmps9
      go_wp2_with fail
      refine C1.out.mono ?_
      rintro e w1 ⟨rfl, hw1⟩
      have HB1 := Lib.hid hw1; clear hw1
      go_wp2_with fail
      refine (C2.out _ HB1.out).mono ?_
      rintro e w2 ⟨rfl, hw2⟩
      have hb2 := ball HB1.out hw2
      have hsz := hb2.size
      have HX := Lib.hid (reads_of (c := cap) (HR.out.below hb2) (by omega))
      have HO := Lib.hid (rowY_new w2 w.heap.size w2.heap.size hsz rfl)
      have HB2 := Lib.hid hb2
      clear hw2 hb2 C1 C2
      go_wp2_with (at_builtin; refine wpList_appT rfl _ _ rfl w.heap.size _ _ [] a rfl rfl HO.out HX.out.alloc' (by simp) (by omega) (by simp; omega) ?_; intro ad5 cap5 N5 wm hN5 hown hbm hgr)
      rw [List.nil_append] at hown
      have hN6 : N5 = a.length := by simpa using hN5
      rw [hN6] at hown
      clear hN5 hN6 N5
      have hbw := (bal_alloc HB2.out).trans hbm
      have HOW := Lib.hid hown
      have HBW := Lib.hid hbw
      clear hown hbw hbm hgr HX HO
      go_loopw [6, 22] (fun v i wr => ∃ k : Nat, k ≤ b.length ∧ i = .int .i64 k ∧ RowT wr w.heap.size v (gth (a ++ b.take k)) ∧ Below w.heap.size w wr) (fun _ i _ => b.length - (intOf i).toNat)
      case atStart => exact ⟨0, Nat.zero_le _, rfl, by rw [List.take_zero, List.append_nil, HGA.out]; exact HOW.out, HBW.out⟩
      case round =>
        obtain ⟨wE, rfl⟩ : ∃ x : World, x = wr := ⟨_, rfl⟩
        obtain ⟨k, hk, rfl, hrow, hbel⟩ := hrel
        obtain ⟨adv, cv, rfl, hst, hrd⟩ := hrow.full
        have hle := gth_len (a ++ b.take k)
        rw [List.length_append, List.length_take] at hle
        by_cases hlt : k < b.length
        case neg =>
          obtain rfl : k = b.length := by omega
          rw [List.take_length] at hst hrd hle ⊢
          have cI := plIf_c adv cv (gth (a ++ b)) wE hrd (by omega)
          rw [HPG.out, HZ.out] at cI
          have cI := Lib.hid cI
          clear hrow hst hrd
          go_wp2_with fail
          refine cI.out.mono ?_
          rintro e w3 ⟨az, cz, rfl, hrz, hbz⟩
          have HRZ := Lib.hid hrz; clear hrz
          go_wp2_with fail
          go_ret2
          exact ⟨az, cz, rfl, HRZ.out, ball hbel hbz⟩
        case pos =>
          have hstep : gth (a ++ b.take (k + 1)) = putT (gth (a ++ b.take k)) (b.getD k default) := by rw [take_snocT b k hlt, ← List.append_assoc, gth_snoc]
          obtain ⟨c, off, rfl, hc, c0, c1, c2⟩ := HR2.out k hlt
          have d0 := bcell hbel hc c0
          have d1 := bcell hbel hc c1
          have d2 := bcell hbel hc c2
          have hcE : c < wE.heap.size := Nat.lt_of_lt_of_le hc hbel.size
          generalize b.getD k default = T at d0 d1 d2 hstep
          obtain ⟨ti, tj, tc⟩ := T
          have HS := Lib.hid hstep; clear hstep c0 c1 c2 hrow
          generalize gth (a ++ b.take k) = G at hst hrd HS hle ⊢
          have C := fun (w' : World) (h : Below wE.heap.size wE w') => plPut_c adv cv G ⟨ti, tj, tc⟩ w' (hrd.below h) hst (by omega)
          unfold tmV at C
          have C := Lib.hid C
          have x1 : (0 : Int) ≤ (k : Int) := by omega
          have x2 : (k : Int) < (b.length : Int) := by omega
          clear hst hrd
          go_wp2_with fail
          refine (C.out _ ((Below.refl _ _).alloc (Nat.le_refl _) _)).mono ?_
          rintro e w3 ⟨v3, rfl, hrow3, hb3⟩
          have hba := bal_alloc (o := .cells #[.int .i64 ti, .int .i64 tj, .int .i64 tc] 43) hbel
          have HRW := Lib.hid (hrow3.mono hba.size)
          have hb4 := ball hba hb3
          clear hrow3
          go_wp2_with fail
          go_roundw
          case rel => exact ⟨k + 1, by omega, by go_num, by rw [HS.out]; exact HRW.out, hb4⟩
          case measure => simp [intOf]; omega

set_option maxHeartbeats 1600000 in
set_option maxRecDepth 100000 in
theorem sSwapPlane_c (ad : Option Addr) (cap : Nat) (l : List Tm) (w : World) (hr : RdT w ad l) (hl : l.length ≤ 1048576) :
    Calls Tryz.prog 18 #[.slice ad l.length cap] w (PlnR w (if planeB l = true then swpT l else []) (planeB l)) := by
  have c1 := plGood_c ad cap l w hr hl
  have HR := Lib.hid hr; clear hr
  obtain ⟨u, hu⟩ : ∃ u, planeB l = u := ⟨_, rfl⟩
  rw [hu] at c1 ⊢
  have C1 := Lib.hid c1; clear c1
  cases u
  case false =>
    clear hu
    go_enter Tryz.func18, Tryz.ntmps18
    go_wp2_with fail
    refine C1.out.mono ?_
    rintro e w1 ⟨rfl, hw1⟩
    go_wp2_with fail
    go_ret2
    exact pln_no hw1
  case true =>
    rw [if_pos rfl]
    have ha := (plane_len hu)
    clear hu
    unfold swpT
    go_enter Tryz.func18, Tryz.ntmps18
    go_wp2_with fail
    refine C1.out.mono ?_
    rintro e w1 ⟨rfl, hw1⟩
    have HB1 := Lib.hid hw1; clear hw1 C1
    go_wp2_with fail
    go_loopw [4, 12] (fun v i wr => ∃ k : Nat, k ≤ l.length ∧ i = .int .i64 k ∧ RowT wr w.heap.size v (gth ((l.take k).map swT)) ∧ Below w.heap.size w wr) (fun _ i _ => l.length - (intOf i).toNat)
    case atStart => exact ⟨0, Nat.zero_le _, rfl, RowT.nil _ _, HB1.out⟩
    case round =>
      obtain ⟨wE, rfl⟩ : ∃ x : World, x = wr := ⟨_, rfl⟩
      obtain ⟨k, hk, rfl, hrow, hbel⟩ := hrel
      obtain ⟨adv, cv, rfl, hst, hrd⟩ := hrow.full
      have hle := gth_len ((l.take k).map swT)
      rw [List.length_map, List.length_take] at hle
      by_cases hlt : k < l.length
      case neg =>
        obtain rfl : k = l.length := by omega
        rw [List.take_length] at hrd ⊢
        clear hrow hst
        have HRD := Lib.hid hrd; clear hrd
        go_wp2_with fail
        go_ret2
        exact ⟨adv, cv, rfl, HRD.out, hbel⟩
      case pos =>
        have hstep : gth ((l.take (k + 1)).map swT) = putT (gth ((l.take k).map swT)) (swT (l.getD k default)) := by rw [take_snocT l k hlt, List.map_append, List.map_cons, List.map_nil, gth_snoc]
        obtain ⟨c, off, rfl, hc, c0, c1, c2⟩ := HR.out k hlt
        have d0 := bcell hbel hc c0
        have d1 := bcell hbel hc c1
        have d2 := bcell hbel hc c2
        have hcE : c < wE.heap.size := Nat.lt_of_lt_of_le hc hbel.size
        generalize l.getD k default = T at d0 d1 d2 hstep
        obtain ⟨ti, tj, tc⟩ := T
        have HS := Lib.hid (show gth ((l.take (k + 1)).map swT) = putT (gth ((l.take k).map swT)) ⟨tj, ti, tc⟩ from hstep); clear hstep c0 c1 c2 hrow
        generalize gth ((l.take k).map swT) = G at hst hrd HS hle ⊢
        have C := fun (w' : World) (h : Below wE.heap.size wE w') => plPut_c adv cv G ⟨tj, ti, tc⟩ w' (hrd.below h) hst (by omega)
        unfold tmV at C
        have C := Lib.hid C
        have x1 : (0 : Int) ≤ (k : Int) := by omega
        have x2 : (k : Int) < (l.length : Int) := by omega
        clear hst hrd
        go_wp2_with fail
        refine (C.out _ ((Below.refl _ _).alloc (Nat.le_refl _) _)).mono ?_
        rintro e w3 ⟨v3, rfl, hrow3, hb3⟩
        have hba := bal_alloc (o := .cells #[.int .i64 ti, .int .i64 tj, .int .i64 tc] 43) hbel
        have HRW := Lib.hid (hrow3.mono hba.size)
        have hb4 := ball hba hb3
        clear hrow3
        go_wp2_with fail
        go_roundw
        case rel => exact ⟨k + 1, by omega, by go_num, by rw [HS.out]; exact HRW.out, hb4⟩
        case measure => simp [intOf]; omega
end Go.Proofs.YtbafgmicpopnoaaGreatDoor
