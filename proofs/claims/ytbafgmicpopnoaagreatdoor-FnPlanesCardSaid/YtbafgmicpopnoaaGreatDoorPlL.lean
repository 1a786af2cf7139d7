/-
  Plane polynomials: sums, products, exchange of the program. By an AI agent.
-/
import Derived.Test.YtbafgmicpopnoaaGreatDoorPlK
namespace Go.Proofs.YtbafgmicpopnoaaGreatDoor
open Go.RowKit

theorem term_bd {t : Tm} (h : termB t = true) : TmsSort.Bd t := by
  have := termB_t h
  unfold TmsSort.Bd
  omega
theorem sum_bd {a b : List Tm} (ha : planeB a = true) (hb : planeB b = true) : ∀ p ∈ a ++ b, TmsSort.Bd p := fun p hp => by
  rcases List.mem_append.1 hp with h | h
  · exact term_bd (plane_term ha p h)
  · exact term_bd (plane_term hb p h)
theorem prd_bd {a b : List Tm} (ha : planeB a = true) (hb : planeB b = true) : ∀ p ∈ prdL a b, TmsSort.Bd p := fun p hp => by
  obtain ⟨s, hs, t, ht, rfl⟩ := prd_mem.1 hp
  have h1 := termB_t (plane_term ha s hs)
  have h2 := termB_t (plane_term hb t ht)
  unfold TmsSort.Bd addT
  simp only
  omega
theorem swp_bd {a : List Tm} (ha : planeB a = true) : ∀ p ∈ a.map swT, TmsSort.Bd p := fun p hp => by
  obtain ⟨s, hs, rfl⟩ := List.mem_map.1 hp
  have h1 := termB_t (plane_term ha s hs)
  unfold TmsSort.Bd swT
  simp only
  omega

theorem RowT.blk {w : World} {B : Nat} {v : Value} {l : List Tm} (h : RowT w B v l) : ∀ q, v.ownBlock = some q → q < w.heap.size := fun q e => (World.ownsRow.lt h q e).2
theorem rdT_one (u : World) (H : Nat) (x y z : Int) (hH : u.heap.size = H) : RdT (u.alloc (.cells #[.int .i64 x, .int .i64 y, .int .i64 z] 43)) (some ⟨H, 0, none⟩) [⟨x, y, z⟩] := by
  rcases readsY_one u H x y z hH with ⟨h, _⟩ | ⟨b, off, c, h, h2⟩
  · cases h
  · injection h with h _ _
    injection h with h
    injection h with h1 h2' _
    subst h1; subst h2'
    exact h2
/-- append of terms, with all that is known of what is behind. -/
theorem wpList_appTO {w : World} {ops : Array Oper} {rest : List Oper} {o : Oper} {a : Act} {Q : Exit → Act → World → Prop} (hgd : o.guard = none) (s x : Operand)
    (ho : o.op = .call { callee := .builtin .append, args := #[s, x], argTypes := #[24, 24] })
    (B b off c : Nat) (v : Value) (l m : List Tm) (hs : a.eval s = v) (hx : a.eval x = .slice (some ⟨b, off, none⟩) m.length c) (hown : RowT w B v l) (hrd : RdT w (some ⟨b, off, none⟩) m) (hl : l.length ≤ 100000) (hm : m.length ≤ 100000) (hB : B ≤ w.heap.size)
    (h : ∀ v' w', RowT w' B v' (l ++ m) → Below B w w' → w.grownBy w' v.ownBlock → (v'.ownBlock = v.ownBlock ∨ v'.ownBlock = some w.heap.size) → wpList Tryz.prog ops Q rest (a.put o.dst v') w') : wpList Tryz.prog ops Q (o :: rest) a w := by
  refine wpList_plain hgd fun _ hK => ?_
  obtain ⟨iP, hiP, hzP, hsP, hbP⟩ := info_parts Tryz.infoT
  obtain ⟨v', w', hr, h2, h3, _, h5⟩ := run_append_own_at (P := Tryz.prog) w B 24 o.type 43 iP _ 3 24 Tryz.underlyingT hiP hzP hsP hbP rfl (by omega) v l.length (tmsV l) hown ⟨b, off, none⟩ m.length c (tmsV m) (tmsV_length m) hrd.news (tmsV_one m) (by unfold maxLen; omega) (by omega) hB
  unfold Oper.wp execOp
  simp only [ho, resolve, invoke, builtin, Sem.run_bind, Sem.run_pure, Result.andThen_ok, List.map_toArray, List.map_cons, List.map_nil, hs, hx, hr]
  exact hK _ _ (h v' w' (rowT_congr h2 (by simp) (tmsV_append l m).symm) ((Below.refl _ _).grown h3 hB (fun q e => (hown.lt q e).1)) h3 h5)

set_option maxHeartbeats 800000 in
theorem toldPlane_c (ad : Option Addr) (cap : Nat) (L : List Tm) (w : World) (hr : RdT w ad L) (hl : L.length ≤ 1048576) :
    Calls Tryz.prog 26 #[.slice ad L.length cap] w (PlnR w (if planeB L = true then L else []) (planeB L)) := by
  have c := isPlane_c ad cap L w hr hl
  have HR := Lib.hid hr; clear hr
  obtain ⟨u, hu⟩ : ∃ u, planeB L = u := ⟨_, rfl⟩
  rw [hu] at c ⊢
  clear hu
  have C := Lib.hid c; clear c
  cases u
  case false =>
    go_enter Tryz.func26, Tryz.ntmps26
    go_wp2_with fail
    refine C.out.mono ?_
    rintro e w1 ⟨rfl, hw1⟩
    go_wp2_with fail
    go_ret2
    exact ⟨none, 0, rfl, RdT.nil _ _, hw1⟩
  case true =>
    rw [if_pos rfl]
    go_enter Tryz.func26, Tryz.ntmps26
    go_wp2_with fail
    refine C.out.mono ?_
    rintro e w1 ⟨rfl, hw1⟩
    go_wp2_with fail
    go_ret2
    exact ⟨ad, cap, rfl, HR.out.below hw1, hw1⟩

set_option maxHeartbeats 1600000 in
set_option maxRecDepth 100000 in
theorem iPlaneSum_c (ad ad2 : Option Addr) (cap cap2 : Nat) (a b : List Tm) (w : World) (hr : RdT w ad a) (hr2 : RdT w ad2 b) (hla : a.length ≤ 1048576) (hlb : b.length ≤ 1048576) :
    Calls Tryz.prog 8 #[.slice ad a.length cap, .slice ad2 b.length cap2] w (PlnR w (if sumOk a b = true then gth (a ++ b) else []) (sumOk a b)) := by
  have c1 := isPlane_c ad cap a w hr hla
  have c2 := fun (u : World) (h : Below w.heap.size w u) => isPlane_c ad2 cap2 b u (hr2.below h) hlb
  have HR := Lib.hid hr; have HR2 := Lib.hid hr2; clear hr hr2
  obtain ⟨u, hu⟩ : ∃ u, planeB a = u := ⟨_, rfl⟩
  obtain ⟨v, hv⟩ : ∃ v, planeB b = v := ⟨_, rfl⟩
  unfold sumOk
  rw [hu] at c1
  rw [hv] at c2
  rw [hu, hv]
  have C1 := Lib.hid c1; have C2 := Lib.hid c2; clear c1 c2
  cases u
  case false =>
    simp only [Bool.false_and, Bool.false_eq_true, if_false]
    clear hu hv
    go_enter Tryz.func8, Tryz.ntmps8
    go_wp2_with fail
    refine C1.out.mono ?_
    rintro e w1 ⟨rfl, hw1⟩
    go_wp2_with fail
    go_ret2
    exact pln_no hw1
  case true =>
    cases v
    case false =>
      simp only [Bool.false_and, Bool.and_false, Bool.false_eq_true, if_false]
      clear hu hv
      go_enter Tryz.func8, Tryz.ntmps8
      go_wp2_with fail
      refine C1.out.mono ?_
      rintro e w1 ⟨rfl, hw1⟩
      have HB1 := Lib.hid hw1
      go_wp2_with fail
      refine (C2.out _ HB1.out).mono ?_
      rintro e w2 ⟨rfl, hw2⟩
      go_wp2_with fail
      go_ret2
      exact pln_no (ball hw1 hw2)
    case true =>
      simp only [Bool.true_and]
      have ha := (plane_len hu)
      have hb := (plane_len hv)
      have hlen : (a ++ b).length = a.length + b.length := List.length_append
      have hgl := gth_len (a ++ b)
      have HBD := sum_bd hu hv
      clear hu hv
      obtain ⟨ab, hab⟩ : ∃ x, a ++ b = x := ⟨_, rfl⟩
      rw [hab] at hlen hgl HBD ⊢
      have HBD := Lib.hid HBD; have HLEN := Lib.hid hlen; have HGL := Lib.hid hgl
      have HAB := Lib.hid hab; clear hlen hgl hab
      obtain ⟨pg, hpg⟩ : ∃ x, planeB (gth ab) = x := ⟨_, rfl⟩
      obtain ⟨Z, hZ⟩ : ∃ x, (if pg = true then gth ab else []) = x := ⟨_, rfl⟩
      rw [hpg, hZ]
      have HPG := Lib.hid hpg; have HZ := Lib.hid hZ; clear hpg hZ
      go_enter Tryz.func8, Tryz.ntmps8
      go_wp2_with fail
      refine C1.out.mono ?_
      rintro e w1 ⟨rfl, hw1⟩
      have HB1 := Lib.hid hw1; clear hw1
      go_wp2_with fail
      refine (C2.out _ HB1.out).mono ?_
      rintro e w2 ⟨rfl, hw2⟩
      have hb2 := ball HB1.out hw2
      have HB2 := Lib.hid (bal_alloc (o := .cells #[.slice ad a.length cap, .slice ad2 b.length cap2] 24) hb2)
      clear hw2 hb2 C1 C2
      have CC := (concatT_c w2.heap.size 2 ad ad2 cap cap2 a b (w2.alloc (.cells #[.slice ad a.length cap, .slice ad2 b.length cap2] 24)) (Own.newA w2 _ _ rfl) (HR.out.below HB2.out) (by omega) (HR2.out.below HB2.out) (by omega) (by omega))
      rw [HAB.out] at CC
      have CC := Lib.hid CC
      go_wp2_with fail
      refine CC.out.mono ?_
      rintro e w3 ⟨ar, cr, rfl, hrd3, hb3⟩
      have hb3 := ball HB2.out hb3
      clear CC
      have CG := Lib.hid (gathered_c ar cr ab w3 hrd3 (by have := HLEN.out; omega) (by have := HLEN.out; omega) HBD.out)
      clear hrd3 HB2
      go_wp2_with fail
      refine CG.out.mono ?_
      rintro e w4 ⟨ag, cg, rfl, hrd4, hb4⟩
      have hb4 := ball hb3 hb4
      have cI := toldPlane_c ag cg (gth ab) w4 hrd4 (by have := HLEN.out; have := HGL.out; omega)
      rw [HPG.out, HZ.out] at cI
      have cI := Lib.hid cI
      clear CG hrd4
      go_wp2_with fail
      refine cI.out.mono ?_
      rintro e w5 ⟨az, cz, rfl, hrz, hbz⟩
      have HRZ := Lib.hid hrz; clear hrz
      go_wp2_with fail
      go_ret2
      exact ⟨az, cz, rfl, HRZ.out, ball hb4 hbz⟩

set_option maxHeartbeats 1600000 in
set_option maxRecDepth 100000 in
theorem iSwapPlane_c (ad : Option Addr) (cap : Nat) (l : List Tm) (w : World) (hr : RdT w ad l) (hl : l.length ≤ 1048576) :
    Calls Tryz.prog 17 #[.slice ad l.length cap] w (PlnR w (if planeB l = true then swpT l else []) (planeB l)) := by
  have c1 := isPlane_c ad cap l w hr hl
  have HR := Lib.hid hr; clear hr
  obtain ⟨u, hu⟩ : ∃ u, planeB l = u := ⟨_, rfl⟩
  rw [hu] at c1 ⊢
  have C1 := Lib.hid c1; clear c1
  cases u
  case false =>
    clear hu
    go_enter Tryz.func17, Tryz.ntmps17
    go_wp2_with fail
    refine C1.out.mono ?_
    rintro e w1 ⟨rfl, hw1⟩
    go_wp2_with fail
    go_ret2
    exact pln_no hw1
  case true =>
    rw [if_pos rfl]
    have ha := (plane_len hu)
    have HBD := Lib.hid (swp_bd hu)
    clear hu
    unfold swpT
    go_enter Tryz.func17, Tryz.ntmps17
    go_wp2_with fail
    refine C1.out.mono ?_
    rintro e w1 ⟨rfl, hw1⟩
    have HB1 := Lib.hid hw1; clear hw1 C1
    have HO := Lib.hid (rowY_new w1 w.heap.size w1.heap.size HB1.out.size rfl)
    go_wp2_with fail
    go_loopw [4, 13] (fun v i wr => ∃ k : Nat, k ≤ l.length ∧ i = .int .i64 k ∧ RowT wr w.heap.size v ((l.take k).map swT) ∧ Below w.heap.size w wr) (fun _ i _ => l.length - (intOf i).toNat)
    case atStart => exact ⟨0, Nat.zero_le _, rfl, HO.out, bal_alloc HB1.out⟩
    case round =>
      obtain ⟨wE, rfl⟩ : ∃ x : World, x = wr := ⟨_, rfl⟩
      obtain ⟨k, hk, rfl, hrow, hbel⟩ := hrel
      by_cases hlt : k < l.length
      case neg =>
        obtain rfl : k = l.length := by omega
        rw [List.take_length] at hrow
        obtain ⟨adv, cv, rfl, hst, hrd⟩ := hrow.full
        have CG := gathered_c adv cv (l.map swT) wE hrd (by rw [List.length_map]; omega) (by rw [List.length_map]; omega) HBD.out
        have hln : (l.map swT).length = l.length := List.length_map ..
        rw [hln] at CG ⊢
        have CG := Lib.hid CG
        clear hrow hst hrd hln
        go_wp2_with fail
        refine CG.out.mono ?_
        rintro e w4 ⟨ag, cg, rfl, hrd4, hb4⟩
        have HRD := Lib.hid hrd4; clear hrd4
        go_wp2_with fail
        go_ret2
        exact ⟨ag, cg, rfl, HRD.out, ball hbel hb4⟩
      case pos =>
        have hstep : (l.take (k + 1)).map swT = (l.take k).map swT ++ [swT (l.getD k default)] := by rw [take_snocT l k hlt, List.map_append, List.map_cons, List.map_nil]
        obtain ⟨c, off, rfl, hc, c0, c1, c2⟩ := HR.out k hlt
        have d0 := bcell hbel hc c0
        have d1 := bcell hbel hc c1
        have d2 := bcell hbel hc c2
        have hcE : c < wE.heap.size := Nat.lt_of_lt_of_le hc hbel.size
        have hsz := hbel.size
        generalize l.getD k default = T at d0 d1 d2 hstep
        obtain ⟨ti, tj, tc⟩ := T
        have HS := Lib.hid (show (l.take (k + 1)).map swT = (l.take k).map swT ++ [⟨tj, ti, tc⟩] from hstep)
        have hle : ((l.take k).map swT).length ≤ 12 := by rw [List.length_map, List.length_take]; omega
        have HO := Lib.hid hrow
        have x1 : (0 : Int) ≤ (k : Int) := by omega
        have x2 : (k : Int) < (l.length : Int) := by omega
        clear hstep c0 c1 c2 hrow
        go_wp2_with (at_builtin; refine wpList_appT rfl _ _ rfl w.heap.size _ _ ((l.take k).map swT) [⟨tj, ti, tc⟩] rfl rfl HO.out.alloc'.alloc' (readsY_one _ _ _ _ _ (by simp)) (by omega) (by simp) (by simp; omega) ?_; intro ad5 cap5 N5 wm hN5 hown hbm hgr)
        have hbw := (bal_alloc (bal_alloc hbel)).trans hbm
        have hN6 : N5 = k + 1 := by rw [hN5, List.length_map, List.length_take, Nat.min_eq_left hk]; rfl
        rw [hN6] at hown
        have HOW := Lib.hid hown
        clear hown hbm hgr hN5 hN6
        go_roundw
        case rel => exact ⟨k + 1, by omega, by go_num, by rw [HS.out]; exact HOW.out, hbw⟩
        case measure => simp [intOf]; omega

set_option maxHeartbeats 3200000 in
set_option maxRecDepth 100000 in
theorem iPlaneProduct_c (ad ad2 : Option Addr) (cap cap2 : Nat) (a b : List Tm) (w : World) (hr : RdT w ad a) (hr2 : RdT w ad2 b) (hla : a.length ≤ 1048576) (hlb : b.length ≤ 1048576) :
    Calls Tryz.prog 6 #[.slice ad a.length cap, .slice ad2 b.length cap2] w (PlnR w (if prdOk a b = true then gth (prdL a b) else []) (prdOk a b)) := by
  have c1 := isPlane_c ad cap a w hr hla
  have c2 := fun (u : World) (h : Below w.heap.size w u) => isPlane_c ad2 cap2 b u (hr2.below h) hlb
  have HR := Lib.hid hr; have HR2 := Lib.hid hr2; clear hr hr2
  obtain ⟨u, hu⟩ : ∃ u, planeB a = u := ⟨_, rfl⟩
  obtain ⟨v, hv⟩ : ∃ v, planeB b = v := ⟨_, rfl⟩
  unfold prdOk
  rw [hu] at c1
  rw [hv] at c2
  rw [hu, hv]
  have C1 := Lib.hid c1; have C2 := Lib.hid c2; clear c1 c2
  cases u
  case false =>
    simp only [Bool.false_and, Bool.false_eq_true, if_false]
    clear hu hv
    go_enter Tryz.func6, Tryz.ntmps6
    go_wp2_with fail
    refine C1.out.mono ?_
    rintro e w1 ⟨rfl, hw1⟩
    go_wp2_with fail
    go_ret2
    exact pln_no hw1
  case true =>
    cases v
    case false =>
      simp only [Bool.false_and, Bool.and_false, Bool.false_eq_true, if_false]
      clear hu hv
      go_enter Tryz.func6, Tryz.ntmps6
      go_wp2_with fail
      refine C1.out.mono ?_
      rintro e w1 ⟨rfl, hw1⟩
      have HB1 := Lib.hid hw1
      go_wp2_with fail
      refine (C2.out _ HB1.out).mono ?_
      rintro e w2 ⟨rfl, hw2⟩
      go_wp2_with fail
      go_ret2
      exact pln_no (ball hw1 hw2)
    case true =>
      simp only [Bool.true_and]
      have ha := plane_len hu
      have hb := plane_len hv
      have hlen := prdL_len a b
      have hmul := mul_le12 ha.2 hb.2
      have hpos : 0 < a.length * b.length := Nat.mul_pos (by omega) (by omega)
      have hgl := gth_len (prdL a b)
      have HBD := Lib.hid (prd_bd hu hv)
      have HTA := Lib.hid (fun k (h : k < a.length) => term_getD (plane_term hu) h)
      have HTB := Lib.hid (fun k (h : k < b.length) => term_getD (plane_term hv) h)
      have HSZ := Lib.hid (fun k m t => prd_size (a := a) (b := b) ha.2 hb.2 k m t)
      clear hu hv
      obtain ⟨pg, hpg⟩ : ∃ x, planeB (gth (prdL a b)) = x := ⟨_, rfl⟩
      obtain ⟨Z, hZ⟩ : ∃ x, (if pg = true then gth (prdL a b) else []) = x := ⟨_, rfl⟩
      rw [hpg, hZ]
      have HPG := Lib.hid hpg; have HZ := Lib.hid hZ; clear hpg hZ
      have HLEN := Lib.hid hlen; have HMUL := Lib.hid hmul; have HPOS := Lib.hid hpos; have HGL := Lib.hid hgl; clear hlen hmul hpos hgl
      go_enter Tryz.func6, Tryz.ntmps6
      go_wp2_with fail
      refine C1.out.mono ?_
      rintro e w1 ⟨rfl, hw1⟩
      have HB1 := Lib.hid hw1; clear hw1
      go_wp2_with fail
      refine (C2.out _ HB1.out).mono ?_
      rintro e w2 ⟨rfl, hw2⟩
      have hb2 := ball HB1.out hw2
      have HO := Lib.hid (rowY_new w2 w.heap.size w2.heap.size hb2.size rfl)
      have HB2 := Lib.hid hb2
      clear hw2 hb2 C1 C2
      go_wp2_with fail
      go_loopw [6, 22] (fun v i wr => ∃ k : Nat, k ≤ a.length ∧ i = .int .i64 k ∧ RowT wr w.heap.size v (prdL (a.take k) b) ∧ Below w.heap.size w wr) (fun _ i _ => a.length - (intOf i).toNat)
      case atStart => exact ⟨0, Nat.zero_le _, rfl, HO.out, bal_alloc HB2.out⟩
      case round =>
        obtain ⟨wE, rfl⟩ : ∃ x : World, x = wr := ⟨_, rfl⟩
        obtain ⟨k, hk, rfl, hrow, hbel⟩ := hrel
        by_cases hlt : k < a.length
        case neg =>
          obtain rfl : k = a.length := by omega
          rw [List.take_length] at hrow
          obtain ⟨adv, cv, rfl, hst, hrd⟩ := hrow.full
          have CG := Lib.hid (gathered_c adv cv (prdL a b) wE hrd (by have := HLEN.out; have := HPOS.out; omega) (by have := HLEN.out; have := HMUL.out; omega) HBD.out)
          clear hrow hst hrd
          go_wp2_with fail
          refine CG.out.mono ?_
          rintro e w4 ⟨ag, cg, rfl, hrd4, hb4⟩
          have hb4 := ball hbel hb4
          have cI := toldPlane_c ag cg (gth (prdL a b)) w4 hrd4 (by have := HLEN.out; have := HMUL.out; have := HGL.out; omega)
          rw [HPG.out, HZ.out] at cI
          have cI := Lib.hid cI
          clear CG hrd4
          go_wp2_with fail
          refine cI.out.mono ?_
          rintro e w5 ⟨az, cz, rfl, hrz, hbz⟩
          have HRZ := Lib.hid hrz; clear hrz
          go_wp2_with fail
          go_ret2
          exact ⟨az, cz, rfl, HRZ.out, ball hb4 hbz⟩
        case pos =>
          have hpe := prd_end (b := b) hlt
          have hps := fun m (h : m < b.length) => prd_take (a := a) (k := k) h
          have hta := HTA.out k hlt
          obtain ⟨c, off, rfl, hc, c0, c1, c2⟩ := HR.out k hlt
          have d0 := bcell hbel hc c0
          have d1 := bcell hbel hc c1
          have d2 := bcell hbel hc c2
          have hcE : c < wE.heap.size := Nat.lt_of_lt_of_le hc hbel.size
          generalize a.getD k default = S at d0 d1 d2 hpe hps hta
          obtain ⟨si, sj, sc⟩ := S
          have HPE := Lib.hid hpe; have HPS := Lib.hid hps
          clear hpe hps c0 c1 c2
          have hba := bal_alloc (o := .cells #[.int .i64 si, .int .i64 sj, .int .i64 sc] 43) hbel
          have oB := TmO.new wE si sj sc rfl
          have HRW := Lib.hid (RowT.alloc' (o := .cells #[.int .i64 si, .int .i64 sj, .int .i64 sc] 43) hrow)
          have hbk := hrow.blk
          have y1 : (0 : Int) ≤ (k : Int) := by omega
          have y2 : (k : Int) < (a.length : Int) := by omega
          clear hrow
          go_upto_region 7 with fail
          obtain ⟨gB, hgB⟩ : ∃ g, wE.heap.size = g := ⟨_, rfl⟩
          generalize hW : wE.alloc (.cells #[.int .i64 si, .int .i64 sj, .int .i64 sc] 43) = wB at HRW hba oB ⊢
          rw [hgB] at oB hbk
          try rw [hgB]
          have HBK := Lib.hid (fun q (h : _ = some q) => Nat.ne_of_lt (hbk q h))
          clear hW hgB hbk d0 d1 d2
          go_wp2_with fail
          go_loopw [6, 28] (fun v i wr => ∃ m : Nat, m ≤ b.length ∧ i = .int .i64 m ∧ RowT wr w.heap.size v (prdL (a.take k) b ++ (b.take m).map (addT ⟨si, sj, sc⟩)) ∧ TmO wr gB ⟨si, sj, sc⟩ ∧ (∀ q, v.ownBlock = some q → q ≠ gB) ∧ Below w.heap.size w wr) (fun _ i _ => b.length - (intOf i).toNat)
          case atStart => exact ⟨0, Nat.zero_le _, rfl, by rw [List.take_zero, List.map_nil, List.append_nil]; exact HRW.out, oB, HBK.out, hba⟩
          case round =>
            obtain ⟨wF, rfl⟩ : ∃ x : World, x = wr := ⟨_, rfl⟩
            obtain ⟨m, hm, rfl, hrow, hoF, hqF, hbwF⟩ := hrel
            by_cases hlm : m < b.length
            case neg =>
              obtain rfl : m = b.length := by omega
              rw [List.take_length, ← HPE.out] at hrow
              have HRW := Lib.hid hrow; clear hrow
              go_wp2_with fail
              go_roundw
              case rel => exact ⟨k + 1, by omega, by go_num, HRW.out, hbwF⟩
              case measure => simp [intOf]; omega
            case pos =>
              have hle := (HSZ.out k m ⟨si, sj, sc⟩)
              have hstep := HPS.out m hlm
              have htb := HTB.out m hlm
              obtain ⟨c', off', rfl, hc', c0, c1, c2⟩ := HR2.out m hlm
              have d0 := bcell hbwF hc' c0
              have d1 := bcell hbwF hc' c1
              have d2 := bcell hbwF hc' c2
              have hcF : c' < wF.heap.size := Nat.lt_of_lt_of_le hc' hbwF.size
              obtain ⟨e0, e1, e2⟩ := hoF.at
              have lF : gB < wF.heap.size := Own.lt hoF
              have hszF := hbwF.size
              generalize b.getD m default = T at d0 d1 d2 hstep htb
              obtain ⟨ti, tj, tc⟩ := T
              simp only at hta htb
              have HS := Lib.hid (show (prdL (a.take k) b ++ (b.take (m + 1)).map (addT ⟨si, sj, sc⟩)) = (prdL (a.take k) b ++ (b.take m).map (addT ⟨si, sj, sc⟩)) ++ [⟨si + ti, sj + tj, sc + tc⟩] by rw [hstep]; rfl)
              clear hstep c0 c1 c2
              obtain ⟨adx, cpx, rfl, _, _⟩ := hrow.shape
              have HO := Lib.hid hrow
              have HOF := Lib.hid hoF; have HQF := Lib.hid hqF
              clear hrow hoF hqF
              generalize (prdL (a.take k) b ++ (b.take m).map (addT ⟨si, sj, sc⟩)) = G at HO HS HQF hle ⊢
              have x1 : (0 : Int) ≤ (m : Int) := by omega
              have x2 : (m : Int) < (b.length : Int) := by omega
              have w1 : IntKind.i64.wrap (si + ti) = si + ti := i64_small (by omega) (by omega)
              have w2 : IntKind.i64.wrap (sj + tj) = sj + tj := i64_small (by omega) (by omega)
              have w3 : IntKind.i64.wrap (sc + tc) = sc + tc := i64_small (by omega) (by omega)
              go_wp2_with (at_builtin; go_loud (refine wpList_appTO rfl _ _ rfl w.heap.size _ 0 1 _ G [⟨si + ti, sj + tj, sc + tc⟩] rfl rfl HO.out.alloc'.alloc' (rdT_one _ _ _ _ _ (by simp)) (by omega) (by simp) (by simp; omega) ?_; intro v9 wm hown hbm hgr hob))
              clear w1 w2 w3
              have hbw := (bal_alloc (bal_alloc hbwF)).trans hbm
              have hp9 := Own.grown (Own.alloc (Own.alloc HOF.out _) _) hgr (fun e => HQF.out gB e rfl)
              have hq9 : ∀ q, v9.ownBlock = some q → q ≠ gB := by
                intro q hq
                rcases hob with e | e
                · exact HQF.out q (e.symm.trans hq)
                · rw [hq] at e
                  injection e with e
                  simp at e
                  omega
              have HOW := Lib.hid hown
              clear hown hbm hgr hob
              go_roundw
              case rel => exact ⟨m + 1, by omega, by go_num, by rw [HS.out]; exact HOW.out, hp9, hq9, hbw⟩
              case measure => simp [intOf]; omega
end Go.Proofs.YtbafgmicpopnoaaGreatDoor
