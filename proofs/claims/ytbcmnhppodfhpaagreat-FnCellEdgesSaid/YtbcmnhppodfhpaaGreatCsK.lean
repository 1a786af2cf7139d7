/-
  Some texts of this proof in one: CsK CsM. Each part tells what it proves. By an AI agent.
-/
import Derived.Test.YtbcmnhppodfhpaaGreatCsE
import Derived.Test.YtbcmnhppodfhpaaGreatPlN
import Derived.Test.YtbcmnhppodfhpaaGreatPlC
import Derived.Test.YtbcmnhppodfhpaaGreatPlM

/-
  MovePlane: the program's (the first part turned from PlN). By an AI agent.
-/
namespace Go.Proofs.YtbcmnhppodfhpaaGreat
open Go.RowKit

set_option maxHeartbeats 1600000 in
set_option maxRecDepth 100000 in
theorem planeValuesR_c (ad : Option Addr) (cap : Nat) (l : List Tm) (x y : Int) (w : World) (hr : RdT w ad l) (hl : l.length ≤ 1000) (hp : ∀ t ∈ l, termB t = true) (hx : finB x = true) (hy : finB y = true) :
    Calls Tryz.prog 44 #[.slice ad l.length cap, .int .i64 x, .int .i64 y] w fun e w' => ∃ ad' cap', e = .returned (.slice ad' l.length cap') ∧ RowI w' w.heap.size (.slice ad' l.length cap') (valsT x y l) ∧ Below w.heap.size w w' := by
  obtain ⟨i0, hi0, hz0, hz1, hz2⟩ := info_parts Tryz.infoI
  have HR := Lib.hid hr; clear hr
  have HBD := Lib.hid (fun k (h : k < l.length) => vl_bd (hp _ (getD_memT h)) hx hy)
  have HTB := Lib.hid (fun k (h : k < l.length) => termB_t (hp _ (getD_memT h)))
  have hxb := fin_b hx
  have hyb := fin_b hy
  clear hp hx hy
  go_enter Tryz.func44, Tryz.ntmps44
  go_wp2_with fail
  go_loopw [7, 13] (fun v i wr => ∃ k : Nat, k ≤ l.length ∧ i = .int .i64 k ∧ wr.ownsRow w.heap.size 3 1 v k (ints (valsT x y (l.take k))) ∧ Below w.heap.size w wr) (fun _ i _ => l.length - (intOf i).toNat)
  case atStart => exact ⟨0, Nat.zero_le _, rfl, row_empty w 3, (Below.refl _ _).alloc (Nat.le_refl _) _⟩
  case round =>
    obtain ⟨wE, rfl⟩ : ∃ x : World, x = wr := ⟨_, rfl⟩
    obtain ⟨k, hk, rfl, hown, hbel⟩ := hrel
    have HO := Lib.hid hown; clear hown
    by_cases hlt : k < l.length
    case neg =>
      obtain rfl : k = l.length := by omega
      have hrow : RowI wE w.heap.size _ (valsT x y l) := row_congr HO.out (vals_len x y l).symm (by rw [List.take_length])
      obtain ⟨ad', cap', rfl, hrd⟩ := hrow.shape
      rw [vals_len] at *
      have HRD := Lib.hid hrow; clear hrd hrow HO
      go_wp2_with fail
      go_ret
      exact ⟨ad', cap', rfl, HRD.out, hbel⟩
    case pos =>
      have hbd := HBD.out k hlt
      have htb := HTB.out k hlt
      have hstep := vals_take x y l hlt
      obtain ⟨b, off, rfl, hb, c0, c1, c2⟩ := HR.out k hlt
      have d0 := bcell hbel hb c0
      have d1 := bcell hbel hb c1
      have d2 := bcell hbel hb c2
      have hbE : b < wE.heap.size := Nat.lt_of_lt_of_le hb hbel.size
      generalize l.getD k default = T at d0 d1 d2 hbd htb hstep
      obtain ⟨ti, tj, tc⟩ := T
      unfold vlT at hbd hstep
      simp only at hbd htb hstep
      have m1 := mul6 (k := ti) (m := x) (by omega) hxb
      have m2 := mul6 (k := tj) (m := y) (by omega) hyb
      obtain ⟨X, hX⟩ : ∃ X, ti * x = X := ⟨_, rfl⟩
      obtain ⟨Y, hY⟩ : ∃ Y, tj * y = Y := ⟨_, rfl⟩
      rw [hX] at m1 hbd hstep
      rw [hY] at m2 hbd hstep
      have e1 : IntKind.i64.wrap (ti * x) = X := by rw [hX]; exact i64_small (by omega) (by omega)
      have e2 : IntKind.i64.wrap (tj * y) = Y := by rw [hY]; exact i64_small (by omega) (by omega)
      have e3 : IntKind.i64.wrap (tc + X) = tc + X := i64_small (by omega) (by omega)
      have e4 : IntKind.i64.wrap (tc + X + Y) = tc + X + Y := i64_small (by omega) (by omega)
      have HS := Lib.hid hstep
      have y1 : (0 : Int) ≤ (k : Int) := by omega
      have y2 : (k : Int) < (l.length : Int) := by omega
      have hsz := hbel.size
      clear hstep hX hY m1 m2 hbd c0 c1 c2
      go_wp2_with (at_builtin; refine wpList_append_lies _ rfl _ _ _ rfl w.heap.size 3 i0 _ 1 8 Tryz.underlying32 hi0 hz0 hz1 hz2 rfl (by omega) _ k _ rfl ((HO.out.alloc _).alloc _) ⟨wE.heap.size + 1, 0, none⟩ 1 1 [.int .i64 (tc + X + Y)] rfl rfl (World.news_of_block (cs := #[.int .i64 (tc + X + Y)]) (t := 3) (fr := (0, 0)) (heap_alloc_at _ _ (by simp))) (by simp [Value.oneCell']) (by omega) (by unfold maxLen; omega) (by omega) (by simp; omega) (wE.heap.size + 2) (by simp) ?_; intro gg gcap w2 hown1 hgrow hat hlt2)
      clear e1 e2 e3 e4
      go_roundw
      case rel =>
        refine ⟨k + 1, by omega, by go_num, row_congr hown1 rfl ?_, app_below (bal_alloc hbel) (by simp; omega) (HO.out.alloc _) hgrow⟩
        rw [HS.out]
        simp [ints]
      case measure => simp [intOf]; omega


/-- The first k terms are moved. -/
def mvU (x y : Int) (l : List Tm) (k : Nat) : List Tm := (mvP x y l).take k ++ l.drop k
theorem mvU_len (x y : Int) (l : List Tm) (k : Nat) : (mvU x y l k).length = l.length := by
  unfold mvU
  rw [List.length_append, List.length_take, List.length_drop, mvP_len]
  omega
theorem mvU_zero (x y : Int) (l : List Tm) : mvU x y l 0 = l := by unfold mvU; simp
theorem mvU_all (x y : Int) (l : List Tm) : mvU x y l l.length = mvP x y l := by
  unfold mvU
  rw [List.drop_length, List.append_nil, ← mvP_len x y l, List.take_length]
theorem mvU_step (x y : Int) {l : List Tm} {k : Nat} (h : k < l.length) : (mvU x y l k).set k ⟨((mvU x y l k).getD k default).i, ((mvU x y l k).getD k default).j, (valsT x y l).getD k 0⟩ = mvU x y l (k + 1) := by
  have hm : k < (mvP x y l).length := by rw [mvP_len]; exact h
  have e1 : (mvU x y l k).getD k default = l[k] := by
    unfold mvU
    rw [List.getD_eq_getElem?_getD, List.getElem?_append_right (by rw [List.length_take]; omega), List.length_take, show k - min k (mvP x y l).length = 0 by omega, List.getElem?_drop, Nat.add_zero, List.getElem?_eq_getElem h]
    rfl
  have e2 : (valsT x y l).getD k 0 = vlT x y l[k] := by
    rw [vals_get x y h, List.getD_eq_getElem?_getD, List.getElem?_eq_getElem h]
    rfl
  rw [e1, e2]
  have e3 : (mvP x y l)[k] = mvT x y l[k] := by simp [mvP]
  have e4 : (⟨l[k].i, l[k].j, vlT x y l[k]⟩ : Tm) = mvT x y l[k] := by unfold mvT vlT; rw [Int.add_assoc]
  rw [e4]
  unfold mvU
  rw [List.set_append_right _ _ (by rw [List.length_take]; omega), List.length_take, show k - min k (mvP x y l).length = 0 by omega, List.drop_eq_getElem_cons h, List.set_cons_zero, List.take_succ_eq_append_getElem hm, e3, List.append_assoc]
  rfl
def mvB (x y : Int) (l : List Tm) : Bool := planeB l && (finB x && finB y) && planeB (mvP x y l)

set_option maxHeartbeats 3200000 in
set_option maxRecDepth 100000 in
theorem iMovePlane_c (ad : Option Addr) (cap : Nat) (l : List Tm) (x y : Int) (w : World) (hr : RdT w ad l) (hl : l.length ≤ 1048576) :
    Calls Tryz.prog 17 #[.slice ad l.length cap, .int .i64 x, .int .i64 y] w (PlnR w (if mvB x y l = true then mvP x y l else []) (mvB x y l)) := by
  have c1 := isPlane_c ad cap l w hr hl
  have HR := Lib.hid hr; clear hr
  obtain ⟨u, hu⟩ : ∃ u, planeB l = u := ⟨_, rfl⟩
  have HNO := Lib.hid (fun w1 (h : Below w.heap.size w w1) => show PlnR w [] false (.returned (.tuple #[.slice none 0 0, .bool false])) w1 from ⟨none, 0, rfl, (fun k hk => by simp at hk), h⟩)
  unfold mvB
  rw [hu] at c1 ⊢
  have C1 := Lib.hid c1; clear c1
  cases u
  case false =>
    simp only [Bool.false_and, Bool.false_eq_true, if_false]
    generalize PlnR w [] false = Q at HNO ⊢
    clear hu
    go_enter Tryz.func17, Tryz.ntmps17
    go_wp2_with fail
    refine C1.out.mono ?_
    rintro e w1 ⟨rfl, hw1⟩
    go_wp2_with fail
    exact HNO.out _ hw1
  case true =>
    have CF := Lib.hid (fun (w1 : World) => areFinite_c (some ⟨w1.heap.size, 0, none⟩) 2 [x, y] (w1.alloc (.cells #[.int .i64 x, .int .i64 y] 3)) (rdI_two w1 x y) (by simp))
    obtain ⟨v, hv⟩ : ∃ v, [x, y].all finB = v := ⟨_, rfl⟩
    rw [hv] at CF
    simp only [List.length_cons, List.length_nil, Nat.zero_add, Nat.reduceAdd] at CF
    have hv2 : (finB x && finB y) = v := by rw [← hv]; simp
    rw [Bool.true_and, hv2]
    clear hv
    cases v
    case false =>
      simp only [Bool.false_and, Bool.false_eq_true, if_false]
      generalize PlnR w [] false = Q at HNO ⊢
      clear hu hv2
      go_enter Tryz.func17, Tryz.ntmps17
      go_wp2_with fail
      refine C1.out.mono ?_
      rintro e w1 ⟨rfl, hw1⟩
      go_wp2_with fail
      refine (CF.out _).mono ?_
      rintro e w2 ⟨rfl, rfl⟩
      have HB := Lib.hid (bal_alloc (o := .cells #[.int .i64 x, .int .i64 y] 3) hw1)
      go_wp2_with fail
      exact HNO.out _ HB.out
    case true =>
      rw [Bool.and_eq_true] at hv2
      obtain ⟨hx, hy⟩ := hv2
      have hln := plane_len hu
      rw [Bool.true_and]
      have CL := Lib.hid (fun (u : World) (h : Below w.heap.size w u) => cloneT_c ad cap l u (HR.out.below h) (by omega) (by omega))
      have CV := Lib.hid (fun (u : World) (h : Below w.heap.size w u) => planeValuesR_c ad cap l x y u (HR.out.below h) (by omega) (plane_term hu) hx hy)
      have CT := Lib.hid (fun (a : Option Addr) (c : Nat) (u : World) (h : RdT u a (mvP x y l)) => show Calls Tryz.prog 45 #[.slice a l.length c] u (PlnR u (if planeB (mvP x y l) = true then mvP x y l else []) (planeB (mvP x y l))) from by
        have := toldPlane_c a c (mvP x y l) u h (by rw [mvP_len]; omega)
        rw [mvP_len] at this
        exact this)
      have HQ := Lib.hid (fun (u : World) (h : Below w.heap.size w u) e w2 (hq : PlnR u (if planeB (mvP x y l) = true then mvP x y l else []) (planeB (mvP x y l)) e w2) => show PlnR w (if planeB (mvP x y l) = true then mvP x y l else []) (planeB (mvP x y l)) e w2 from by
        obtain ⟨a, c, e1, h1, h2⟩ := hq
        exact ⟨a, c, e1, h1, ball h h2⟩)
      have HST := Lib.hid (fun k (h : k < l.length) => mvU_step x y h)
      have HML := Lib.hid (mvU_len x y l)
      have HM0 := Lib.hid (mvU_zero x y l)
      have HMA := Lib.hid (mvU_all x y l)
      have HVL := Lib.hid (vals_len x y l)
      generalize PlnR w (if planeB (mvP x y l) = true then mvP x y l else []) (planeB (mvP x y l)) = Q at HQ ⊢
      generalize (if planeB (mvP x y l) = true then mvP x y l else []) = X at CT HQ
      generalize planeB (mvP x y l) = pb at CT HQ
      generalize mvP x y l = M at CT HMA
      generalize mvU x y l = U at HST HML HM0 HMA
      generalize valsT x y l = V at CV HST HVL
      clear hu hx hy
      go_enter Tryz.func17, Tryz.ntmps17
      go_wp2_with fail
      refine C1.out.mono ?_
      rintro e w1 ⟨rfl, hw1⟩
      go_wp2_with fail
      refine (CF.out _).mono ?_
      rintro e w2 ⟨rfl, rfl⟩
      have HB := Lib.hid (bal_alloc (o := .cells #[.int .i64 x, .int .i64 y] 3) hw1)
      go_wp2_with fail
      refine (CL.out _ HB.out).mono ?_
      rintro e w3 ⟨g, cg, rfl, hrow, hcg, hb3⟩
      have HB3 := Lib.hid (ball HB.out hb3)
      have hw0 : w.heap.size ≤ (w1.alloc (.cells #[.int .i64 x, .int .i64 y] 3)).heap.size := HB.out.size
      have HRW := Lib.hid (show RowT w3 w.heap.size (.slice (some ⟨g, 0, none⟩) l.length cg) l from row_mono hrow hw0)
      clear hrow hb3
      go_wp2_with fail
      refine (CV.out _ HB3.out).mono ?_
      rintro e w4 ⟨av, cv, rfl, hrv, hb4⟩
      have HRV := Lib.hid hrv
      have HRW4 := Lib.hid (RowT.below HRW.out hb4)
      have HB4 := Lib.hid (ball HB3.out hb4)
      clear hrv hb4
      have hgb : g < w3.heap.size := by
        obtain ⟨g', c', e', _, h'⟩ := RowT.own HRW.out (by omega)
        have q : g = g' := by injection e' with q _ _; injection q with q; injection q
        omega
      have hBg : w.heap.size ≤ g := by
        obtain ⟨g', c', e', h', _⟩ := RowT.own HRW.out (by omega)
        have q : g = g' := by injection e' with q _ _; injection q with q; injection q
        omega
      go_wp2_with fail
      go_loopw [28] (fun i wr => ∃ k : Nat, k ≤ l.length ∧ i = .int .i64 k ∧ RowT wr w.heap.size (.slice (some ⟨g, 0, none⟩) l.length cg) (U k) ∧ RowI wr w3.heap.size (.slice av l.length cv) V ∧ Below w.heap.size w wr) (fun i _ => l.length - (intOf i).toNat)
      case atStart => exact ⟨0, Nat.zero_le _, rfl, by rw [HM0.out]; exact HRW4.out, HRV.out, HB4.out⟩
      case round =>
        obtain ⟨wE, rfl⟩ : ∃ x : World, x = wr := ⟨_, rfl⟩
        obtain ⟨k, hk, rfl, hro, hrv, hbel⟩ := hrel
        have HRO := Lib.hid hro; clear hro
        by_cases hlt : k < l.length
        case neg =>
          obtain rfl : k = l.length := by omega
          have hrd := RowT.rd HRO.out
          rw [HMA.out] at hrd
          have CT2 := Lib.hid (CT.out (some ⟨g, 0, none⟩) cg wE hrd)
          clear hrd hrv
          go_wp2_with fail
          refine CT2.out.mono ?_
          intro e w5 hq
          have HF := Lib.hid (HQ.out wE hbel e w5 hq)
          obtain ⟨a5, c5, rfl, _⟩ := hq
          go_wp2_with fail
          exact HF.out
        case pos =>
          obtain ⟨a2, c2, e2, hrd⟩ := RowI.shape hrv
          obtain rfl : av = a2 := by injection e2
          obtain ⟨b, off, rfl, hb, cc⟩ := hrd k (by rw [HVL.out]; exact hlt)
          have HRV2 := Lib.hid hrv
          have hst := HST.out k hlt
          have hrw : RowT wE w.heap.size (.slice (some ⟨g, 0, none⟩) (U k).length cg) (U k) := by rw [HML.out k]; exact HRO.out
          have hset := RowT.set2 hrw (j := k) (by rw [HML.out k]; exact hlt) (V.getD k 0)
          rw [hst, HML.out k] at hset
          have fz := World.ownsRow.frozenAt hrw (k * 3 + 2)
          have cz := World.ownsRow.cellAt hrw (k * 3 + 2) (by rw [HML.out k]; omega)
          rw [(tmsV_get (show k < (U k).length by rw [HML.out k]; exact hlt)).2.2] at cz
          clear hrv hrd hst e2 hrw
          generalize V.getD k 0 = x at cc hset
          have HSET := Lib.hid hset
          have HRV3 := Lib.hid (show RowI (wE.setCell ⟨g, k * 3 + 2, none⟩ (.int .i64 x)) w3.heap.size (.slice (some ⟨b, off, none⟩) l.length cv) V from row_chg HRV2.out (Chg.set g (k * 3 + 2) wE _) hgb)
          have HBS := Lib.hid (hbel.setCell (p := ⟨g, k * 3 + 2, none⟩) hBg (.int .i64 x))
          have y1 : (0 : Int) ≤ (k : Int) := by omega
          have y2 : (k : Int) < (l.length : Int) := by omega
          clear hset
          go_wp2_with fail
          go_roundw
          case rel => exact ⟨k + 1, by omega, by go_num, HSET.out, HRV3.out, HBS.out⟩
          case measure => simp [intOf]; omega
end Go.Proofs.YtbcmnhppodfhpaaGreat

/-
  MovePlane: that of the reference. By an AI agent.
-/
namespace Go.Proofs.YtbcmnhppodfhpaaGreat
open Go.RowKit

theorem mvP_take (x y : Int) (l : List Tm) {k : Nat} (h : k < l.length) : mvP x y (l.take (k + 1)) = mvP x y (l.take k) ++ [mvT x y (l.getD k default)] := by
  unfold mvP
  rw [take_snocT l k h, List.map_append]
  rfl
set_option maxHeartbeats 3200000 in
set_option maxRecDepth 100000 in
theorem sMovePlane_c (ad : Option Addr) (cap : Nat) (l : List Tm) (x y : Int) (w : World) (hr : RdT w ad l) (hl : l.length ≤ 1048576) :
    Calls Tryz.prog 18 #[.slice ad l.length cap, .int .i64 x, .int .i64 y] w (PlnR w (if mvB x y l = true then mvP x y l else []) (mvB x y l)) := by
  have c1 := plGood_c ad cap l w hr hl
  have HR := Lib.hid hr; clear hr
  obtain ⟨u, hu⟩ : ∃ u, planeB l = u := ⟨_, rfl⟩
  have HNO := Lib.hid (fun w1 (h : Below w.heap.size w w1) => show PlnR w [] false (.returned (.tuple #[.slice none 0 0, .bool false])) w1 from ⟨none, 0, rfl, (fun k hk => by simp at hk), h⟩)
  unfold mvB
  rw [hu] at c1 ⊢
  have C1 := Lib.hid c1; clear c1
  have cx : ∀ w, Calls Tryz.prog 46 #[.int .i64 x] w fun e w' => e = .returned (.bool (finB x)) ∧ w = w' := fun w => finS_c x w
  have cy : ∀ w, Calls Tryz.prog 46 #[.int .i64 y] w fun e w' => e = .returned (.bool (finB y)) ∧ w = w' := fun w => finS_c y w
  have CX := Lib.hid cx
  have CY := Lib.hid cy
  clear cx cy
  cases u
  case false =>
    simp only [Bool.false_and, Bool.false_eq_true, if_false]
    generalize PlnR w [] false = Q at HNO ⊢
    clear hu
    go_enter Tryz.func18, Tryz.ntmps18
    go_wp2_with fail
    refine C1.out.mono ?_
    rintro e w1 ⟨rfl, hw1⟩
    go_wp2_with fail
    exact HNO.out _ hw1
  case true =>
    rw [Bool.true_and]
    have hln := plane_len hu
    have HBD := Lib.hid (fun (hx : finB x = true) (hy : finB y = true) k (h : k < l.length) => vl_bd (plane_term hu _ (getD_memT h)) hx hy)
    have HTB := Lib.hid (fun k (h : k < l.length) => termB_t (plane_term hu _ (getD_memT h)))
    cases hx : finB x
    case false =>
      rw [hx] at CX
      simp only [Bool.false_and, Bool.false_eq_true, if_false]
      generalize PlnR w [] false = Q at HNO ⊢
      clear hu
      go_enter Tryz.func18, Tryz.ntmps18
      go_wp2_with fail
      refine C1.out.mono ?_
      rintro e w1 ⟨rfl, hw1⟩
      go_wp2_with fail
      refine (CX.out _).mono ?_
      rintro e w2 ⟨rfl, rfl⟩
      go_wp2_with fail
      exact HNO.out _ hw1
    case true =>
      rw [hx] at CX
      cases hy : finB y
      case false =>
        rw [hy] at CY
        simp only [Bool.and_false, Bool.false_and, Bool.false_eq_true, if_false]
        generalize PlnR w [] false = Q at HNO ⊢
        clear hu
        go_enter Tryz.func18, Tryz.ntmps18
        go_wp2_with fail
        refine C1.out.mono ?_
        rintro e w1 ⟨rfl, hw1⟩
        go_wp2_with fail
        refine (CX.out _).mono ?_
        rintro e w2 ⟨rfl, rfl⟩
        go_wp2_with fail
        refine (CY.out _).mono ?_
        rintro e w2 ⟨rfl, rfl⟩
        go_wp2_with fail
        exact HNO.out _ hw1
      case true =>
        rw [hy] at CY
        rw [Bool.true_and, Bool.true_and]
        have HQ := Lib.hid (fun (u : World) (h : Below w.heap.size w u) e w2 (hq : PlnR u (if planeB (mvP x y l) = true then mvP x y l else []) (planeB (mvP x y l)) e w2) => show PlnR w (if planeB (mvP x y l) = true then mvP x y l else []) (planeB (mvP x y l)) e w2 from PlnR.then hq h)
        have CT := Lib.hid (fun (a : Option Addr) (c : Nat) (u : World) (h : RdT u a (mvP x y l)) => show Calls Tryz.prog 47 #[.slice a l.length c] u (PlnR u (if planeB (mvP x y l) = true then mvP x y l else []) (planeB (mvP x y l))) from by
          have := plIf_c a c (mvP x y l) u h (by rw [mvP_len]; omega)
          rw [mvP_len] at this
          exact this)
        have hxb := fin_b hx
        have hyb := fin_b hy
        have HBD := Lib.hid (HBD.out hx hy)
        generalize PlnR w (if planeB (mvP x y l) = true then mvP x y l else []) (planeB (mvP x y l)) = Q at HQ ⊢
        generalize (if planeB (mvP x y l) = true then mvP x y l else []) = X at CT HQ
        generalize planeB (mvP x y l) = pb at CT HQ
        clear hu hx hy HNO
        go_enter Tryz.func18, Tryz.ntmps18
        go_wp2_with fail
        refine C1.out.mono ?_
        rintro e w1 ⟨rfl, hw1⟩
        go_wp2_with fail
        refine (CX.out _).mono ?_
        rintro e w2 ⟨rfl, rfl⟩
        go_wp2_with fail
        refine (CY.out _).mono ?_
        rintro e w2 ⟨rfl, rfl⟩
        go_wp2_with fail
        go_loopw [8, 26] (fun v i wr => ∃ k : Nat, k ≤ l.length ∧ i = .int .i64 k ∧ RowT wr w.heap.size v (mvP x y (l.take k)) ∧ Below w.heap.size w wr) (fun _ i _ => l.length - (intOf i).toNat)
        case atStart => exact ⟨0, Nat.zero_le _, rfl, RowT.nil _ _, hw1⟩
        case round =>
          obtain ⟨wE, rfl⟩ : ∃ x : World, x = wr := ⟨_, rfl⟩
          obtain ⟨k, hk, rfl, hrow, hbel⟩ := hrel
          by_cases hlt : k < l.length
          case neg =>
            obtain rfl : k = l.length := by omega
            rw [List.take_length] at hrow
            obtain ⟨adv, cv, rfl, hst, hrd⟩ := hrow.full
            rw [mvP_len]
            have CT2 := Lib.hid (CT.out adv cv wE hrd)
            clear hrow hst hrd hxb hyb
            go_wp2_with fail
            refine CT2.out.mono ?_
            intro e w5 hq
            have HF := Lib.hid (HQ.out wE hbel e w5 hq)
            obtain ⟨a5, c5, rfl, _⟩ := hq
            go_wp2_with fail
            exact HF.out
          case pos =>
            have hbd := HBD.out k hlt
            have htb := HTB.out k hlt
            have hstep := mvP_take x y l hlt
            obtain ⟨b, off, rfl, hb, c0, c1, c2⟩ := HR.out k hlt
            have d0 := bcell hbel hb c0
            have d1 := bcell hbel hb c1
            have d2 := bcell hbel hb c2
            have hbE : b < wE.heap.size := Nat.lt_of_lt_of_le hb hbel.size
            have hlk : (mvP x y (l.take k)).length ≤ 12 := by rw [mvP_len, List.length_take]; omega
            have hlk2 : (mvP x y (l.take k)).length = k := by rw [mvP_len, List.length_take]; omega
            generalize l.getD k default = T at d0 d1 d2 hbd htb hstep
            obtain ⟨ti, tj, tc⟩ := T
            unfold vlT at hbd
            unfold mvT at hstep
            simp only at hbd htb hstep
            have m1 := mul6 (k := ti) (m := x) (by omega) hxb
            have m2 := mul6 (k := tj) (m := y) (by omega) hyb
            obtain ⟨X1, hX⟩ : ∃ X, ti * x = X := ⟨_, rfl⟩
            obtain ⟨Y1, hY⟩ : ∃ Y, tj * y = Y := ⟨_, rfl⟩
            rw [hX] at m1 hbd hstep
            rw [hY] at m2 hbd hstep
            have e1 : IntKind.i64.wrap (ti * x) = X1 := by rw [hX]; exact i64_small (by omega) (by omega)
            have e2 : IntKind.i64.wrap (tj * y) = Y1 := by rw [hY]; exact i64_small (by omega) (by omega)
            obtain ⟨Z1, hZ⟩ : ∃ Z, X1 + Y1 = Z := ⟨_, rfl⟩
            rw [hZ] at hstep
            have e3 : IntKind.i64.wrap (X1 + Y1) = Z1 := by rw [hZ]; exact i64_small (by omega) (by omega)
            have e4 : IntKind.i64.wrap (tc + Z1) = tc + Z1 := i64_small (by omega) (by omega)
            have HS := Lib.hid hstep
            generalize mvP x y (l.take k) = M at hrow hlk hlk2 HS
            have HO := Lib.hid hrow
            have y1 : (0 : Int) ≤ (k : Int) := by omega
            have y2 : (k : Int) < (l.length : Int) := by omega
            have hsz := hbel.size
            clear hstep hX hY hZ m1 m2 hbd c0 c1 c2 htb hxb hyb hrow
            go_wp2_with (at_builtin; refine wpList_appT rfl _ _ rfl w.heap.size _ _ M [⟨ti, tj, tc + Z1⟩] rfl rfl HO.out.alloc'.alloc' (readsY_one _ _ _ _ _ (by simp)) (by omega) (by simp) (by simp; omega) ?_; intro ad5 cap5 N5 wm hN5 hown hbm hgr)
            have hbw := (bal_alloc (bal_alloc hbel)).trans hbm
            have hN6 : N5 = k + 1 := by rw [hN5, hlk2]; rfl
            rw [hN6] at hown
            have HOW := Lib.hid hown
            clear hown hbm hgr hN5 hN6
            go_wp2_with fail
            go_roundw
            case rel => exact ⟨k + 1, by omega, by go_num, by rw [HS.out]; exact HOW.out, hbw⟩
            case measure => simp [intOf]; omega
end Go.Proofs.YtbcmnhppodfhpaaGreat
