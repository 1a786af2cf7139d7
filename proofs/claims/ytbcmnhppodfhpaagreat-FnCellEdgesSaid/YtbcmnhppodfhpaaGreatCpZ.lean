/-
  CellAreas and IsSmooth: the reference's. By an AI agent.
-/
import Derived.Test.YtbcmnhppodfhpaaGreatCpY
import Derived.Test.YtbcmnhppodfhpaaGreatCpC
import Derived.Test.YtbcmnhppodfhpaaGreatPyHull
namespace Go.Proofs.YtbcmnhppodfhpaaGreat
open Go.RowKit

set_option maxHeartbeats 1600000 in
set_option maxRecDepth 100000 in
theorem cePolygon_c (bl ol cap : Nat) (L : List Tm) (adx : Option Addr) (capx : Nat) (xs : List Int) (w : World) (hr : RdT w (some ⟨bl, ol, none⟩) L) (hp : ∀ k, k < L.length → termB (tmAt L k) = true) (hx : RdI w adx xs) (hxl : xs.length ≤ 12) (hin : ∀ x ∈ xs, ∃ t : Nat, x = t ∧ t < L.length) :
    Calls Tryz.prog 37 #[.slice (some ⟨bl, ol, none⟩) L.length cap, .slice adx xs.length capx] w (HullTo w (hulX L xs)) := by
  have HIN := Lib.hid (fun k (hk : k < xs.length) => show ∃ t : Nat, xs.getD k 0 = t ∧ t < L.length from hin _ (by rw [List.getD_eq_getElem?_getD, List.getElem?_eq_getElem hk, Option.getD_some]; exact List.getElem_mem hk))
  have HR := Lib.hid hr; have HX := Lib.hid hx
  have hash : AllSh (ptsX L xs) := fun q hq => by
    obtain ⟨x, hx1, rfl⟩ := List.mem_map.1 hq
    obtain ⟨t, rfl, ht⟩ := hin x hx1
    have := termB_t (hp t ht)
    exact ⟨by show _ ≤ (tmAt L t).i; omega, by show (tmAt L t).i ≤ _; omega, by show _ ≤ (tmAt L t).j; omega, by show (tmAt L t).j ≤ _; omega⟩
  have hlen : (ptsX L xs).length = xs.length := List.length_map _
  have CH := Lib.hid (fun ad cap w (h : RdP w ad (ptsX L xs)) => pyHull_c ad cap (ptsX L xs) w h (by omega) hash)
  have HPT := Lib.hid (fun (t : Tm) w => cePoint_c t w)
  rw [show hulX L xs = hullF (pySortF (ptsX L xs)) from rfl]
  obtain ⟨PX, hPX⟩ : ∃ X, ptsX L xs = X := ⟨_, rfl⟩
  rw [hPX] at CH hlen ⊢
  have HPX := Lib.hid hPX
  generalize hullF (pySortF PX) = HF at CH ⊢
  obtain ⟨m, hm⟩ : ∃ m, xs.length = m := ⟨_, rfl⟩
  rw [hm] at hlen hxl ⊢
  rw [hlen] at CH
  obtain ⟨n, hn⟩ : ∃ n, L.length = n := ⟨_, rfl⟩
  rw [hn] at HIN ⊢
  have HM := Lib.hid hm; have HN := Lib.hid hn
  clear hPX hm hn hp hx hin hash hlen hr
  go_enter Tryz.func37, Tryz.ntmps37
  go_wp2_with fail
  go_loopw [5, 10] (fun s i wr => ∃ (k : Nat) (ys : List Pt), k ≤ m ∧ i = .int .i64 k ∧ ptsX L (xs.take k) = ys ∧ ys.length = k ∧ RowP wr w.heap.size s ys ∧ Below w.heap.size w wr) (fun _ i _ => m - (intOf i).toNat)
  case atStart => exact ⟨0, [], Nat.zero_le _, rfl, rfl, rfl, RowP.nil _ _, Below.refl _ _⟩
  case round =>
    obtain ⟨wE, rfl⟩ : ∃ x : World, x = wr := ⟨_, rfl⟩
    obtain ⟨k, ys, hk, rfl, hys, hyl, hrow, hbel⟩ := hrel
    obtain ⟨ady, cpy, rfl, _, _⟩ := hrow.shape
    rw [hyl] at hrow ⊢
    have HYS := Lib.hid hys; have HRW := Lib.hid hrow; have HYL := Lib.hid hyl
    have hsz := hbel.size
    clear hys hrow hyl
    by_cases hlt : k < m
    case neg =>
      obtain rfl : m = k := by omega
      have hE : PX = ys := by rw [← HPX.out, ← HYS.out, List.take_of_length_le (by rw [HM.out]; exact Nat.le_refl _)]
      have CC := Lib.hid (CH.out ady cpy wE (by rw [hE]; exact HRW.out.rd))
      clear hE
      go_wp2_with fail
      refine CC.out.mono ?_
      rintro e w3 ⟨a3, c3, rfl, hr3, hb3⟩
      have HR3 := Lib.hid hr3; have HB3 := Lib.hid (ball hbel hb3)
      clear hr3 hb3
      go_wp2_with fail
      go_ret
      exact ⟨a3, c3, rfl, HR3.out, HB3.out⟩
    case pos =>
      obtain ⟨b1, o1, rfl, hb1, q1⟩ := HX.out k (by rw [HM.out]; exact hlt)
      obtain ⟨t, ht, htn⟩ := HIN.out k (by rw [HM.out]; exact hlt)
      rw [ht] at q1
      have q1 := bcell hbel hb1 q1
      have hpp := RdT.at (HR.out.below hbel) (show t < L.length by rw [HN.out]; exact htn)
      have HS := Lib.hid (show ptsX L (xs.take (k + 1)) = ys ++ [⟨(tmAt L t).i, (tmAt L t).j⟩] from by rw [ptsX_snoc L xs (by rw [HM.out]; exact hlt), HYS.out, ht]; rfl)
      clear ht
      have p0 : wE.cell? ⟨bl, ol + t * 3, none⟩ = some (.int .i64 (tmAt L t).i) := hpp.1
      have p1 : wE.cell? ⟨bl, ol + t * 3 + 1, none⟩ = some (.int .i64 (tmAt L t).j) := hpp.2.1
      have p2 : wE.cell? ⟨bl, ol + t * 3 + 2, none⟩ = some (.int .i64 (tmAt L t).c) := hpp.2.2
      clear hpp
      generalize tmAt L t = T at p0 p1 p2 HS
      have CP := Lib.hid (fun w => HPT.out T w)
      have x1 : (0 : Int) ≤ (k : Int) := by omega
      have x2 : (k : Int) < (m : Int) := by omega
      have x3 : (0 : Int) ≤ (t : Int) := by omega
      have x4 : (t : Int) < (n : Int) := by omega
      go_wp2_with fail
      refine (CP.out _).mono ?_
      rintro e w3 ⟨rfl, hb3⟩
      have hbX := ball hbel hb3
      have hbX2 := hbX.size
      have HRC := Lib.hid (HRW.out.below hb3)
      clear p0 p1 p2 q1 hb3 CP
      go_wp2_with (at_builtin; refine wpList_appP rfl _ _ rfl w.heap.size _ 0 1 _ ys [⟨T.i, T.j⟩] (by first | rfl | rw [HYL.out]) rfl (HRC.out.below ((Below.refl _ _).alloc (Nat.le_refl _) _)) (rdP_one _ _ _ _ (by first | rfl | simp)) (by rw [HYL.out]; omega) (by simp) (by simp; omega) ?_; intro v5 wm hown hbm)
      have hb3 := (bal_alloc (o := .cells #[.int .i64 T.i, .int .i64 T.j] 73) hbX).trans hbm
      have HO5 := Lib.hid hown; clear hown hbm
      go_wp2_with fail
      go_roundw
      case rel => exact ⟨k + 1, _, by omega, by go_num, HS.out, by rw [List.length_append, HYL.out]; rfl, HO5.out, hb3⟩
      case measure => simp [intOf]; omega

theorem any_take {C : List (List Int)} {f : List Int → Int} {k : Nat} (h : k < C.length) (_h1 : ∀ j, j < k → f (C.getD j []) = 1) (h2 : f (C.getD k []) ≠ 1) : ((C.map f).any fun a => decide (a ≠ 1)) = true := by
  rw [List.any_eq_true]
  exact ⟨f (C.getD k []), List.mem_map.2 ⟨_, by rw [List.getD_eq_getElem?_getD, List.getElem?_eq_getElem h, Option.getD_some]; exact List.getElem_mem h, rfl⟩, decide_eq_true h2⟩
theorem any_all {C : List (List Int)} {f : List Int → Int} (h1 : ∀ j, j < C.length → f (C.getD j []) = 1) : ((C.map f).any fun a => decide (a ≠ 1)) = false := by
  rw [List.any_eq_false]
  intro a ha
  obtain ⟨x, hx, rfl⟩ := List.mem_map.1 ha
  obtain ⟨i, hi, rfl⟩ := List.getElem_of_mem hx
  have := h1 i hi
  rw [List.getD_eq_getElem?_getD, List.getElem?_eq_getElem hi, Option.getD_some] at this
  simp [this]
set_option maxHeartbeats 1600000 in
set_option maxRecDepth 100000 in
theorem sIsSmooth_c (ad : Option Addr) (cap : Nat) (L : List Tm) (w : World) (hr : RdT w ad L) (hl : L.length ≤ 1048576) :
    Calls Tryz.prog 13 #[.slice ad L.length cap] w fun e w' => e = .returned (.tuple #[.bool (planeB L && smoB L), .bool (planeB L)]) ∧ Below w.heap.size w w' := by
  have CI := Lib.hid (plGood_c ad cap L w hr hl)
  cases hB : planeB L
  case false =>
    rw [hB] at CI
    rw [Bool.false_and]
    generalize L.length = n at CI ⊢
    clear hr hB hl
    go_enter Tryz.func13, Tryz.ntmps13
    go_wp2_with fail
    refine CI.out.mono ?_
    rintro e w1 ⟨rfl, hb1⟩
    go_wp2_with fail
    exact bodyPost_ret (v := .tuple #[.bool false, .bool false]) (by simp [results, Tryz.results13, go_sem]) rfl ⟨rfl, hb1⟩
  case true =>
    rw [hB] at CI
    rw [Bool.true_and]
    obtain ⟨h0, h12, hp⟩ := planeB_t hB
    obtain ⟨bl, ol, rfl, _⟩ := hr 0 h0
    have CO := Lib.hid (fun w' (h : Below w.heap.size w w') => ceOf_c bl ol cap L w' (hr.below h) hp h12 h0)
    have HSH := Lib.hid (fun k (hk : k < (celA L).length) => show AllSh (hulX L ((celA L).getD k [])) ∧ (hulX L ((celA L).getD k [])).length ≤ 24 from by
      obtain ⟨_, h2, h3⟩ := celA_in (L := L) (x := (celA L).getD k []) (by rw [List.getD_eq_getElem?_getD, List.getElem?_eq_getElem hk, Option.getD_some]; exact List.getElem_mem hk)
      have := hulX_len L ((celA L).getD k [])
      exact ⟨hulX_sh hp h3, by omega⟩)
    have HPO := Lib.hid (fun w' (hb : Below w.heap.size w w') ad2 cap2 k (hk : k < (celA L).length) (hx : RdI w' ad2 ((celA L).getD k [])) => by
      obtain ⟨_, h2, h3⟩ := celA_in (L := L) (x := (celA L).getD k []) (by rw [List.getD_eq_getElem?_getD, List.getElem?_eq_getElem hk, Option.getD_some]; exact List.getElem_mem hk)
      exact cePolygon_c bl ol cap L ad2 cap2 ((celA L).getD k []) w' (hr.below hb) hp hx (by omega) h3)
    have HAY := Lib.hid (fun k (h : k < (celA L).length) h1 h2 => any_take (C := celA L) (f := fun xs => areaP (hulX L xs)) (k := k) h h1 h2)
    have HAL := Lib.hid (fun h1 => any_all (C := celA L) (f := fun xs => areaP (hulX L xs)) h1)
    have HSB := Lib.hid (show smoB L = (decide (0 < (celA L).length) && !(((celA L).map fun xs => areaP (hulX L xs)).any fun a => decide (a ≠ 1))) from rfl)
    generalize smoB L = RES at HSB ⊢
    have hcl := celA_len L h12
    generalize celA L = C at CO HSH HPO HAY HAL HSB hcl
    generalize ((C.map fun xs => areaP (hulX L xs)).any fun a => decide (a ≠ 1)) = AN at HAY HAL HSB
    obtain ⟨nC, hnC⟩ : ∃ z, C.length = z := ⟨_, rfl⟩
    rw [hnC] at HSH HPO HAY HAL HSB hcl
    have HNC := Lib.hid hnC
    obtain ⟨n, hn⟩ : ∃ n, L.length = n := ⟨_, rfl⟩
    rw [hn] at CI CO HPO ⊢
    unfold PutR at CO
    rw [hnC] at CO
    clear hr hB hl hn h0 h12 hp hnC
    go_enter Tryz.func13, Tryz.ntmps13
    go_wp2_with fail
    refine CI.out.mono ?_
    rintro e w1 ⟨rfl, hb1⟩
    go_wp2_with fail
    refine (CO.out _ hb1).mono ?_
    rintro e w2 ⟨adC, capC, vs, rfl, hm, hb2⟩
    have HRD := Lib.hid hm.rd
    have hb12 := ball hb1 hb2
    have HB12 := Lib.hid hb12
    clear hm CO CI hb1 hb2
    go_wp2_with fail
    go_loopw [14] (fun i wr => ∃ k : Nat, k ≤ nC ∧ i = .int .i64 k ∧ (∀ j, j < k → areaP (hulX L (C.getD j [])) = 1) ∧ Below w2.heap.size w2 wr) (fun i _ => nC - (intOf i).toNat)
    case atStart => exact ⟨0, Nat.zero_le _, rfl, fun j hj => by omega, Below.refl _ _⟩
    case round =>
      obtain ⟨wE, rfl⟩ : ∃ x : World, x = wr := ⟨_, rfl⟩
      obtain ⟨k, hk, rfl, hone, hbel⟩ := hrel
      have HON := Lib.hid hone; clear hone
      by_cases hlt : k < nC
      case neg =>
        obtain rfl : nC = k := by omega
        have hR : RES = decide (0 < nC) := by rw [HSB.out, HAL.out HON.out]; simp
        have HF := Lib.hid (ball HB12.out hbel)
        obtain ⟨zb, hzb⟩ : ∃ z, decide (0 < nC) = z := ⟨_, rfl⟩
        have z2 : decide ((0 : Int) < (nC : Int)) = zb := by rw [← hzb]; exact decide_eq_decide.2 (by omega)
        rw [hzb] at hR
        have HR := Lib.hid hR
        clear hR HAL HAY HSB
        go_wp2_with fail
        exact bodyPost_ret (v := .tuple #[.bool zb, .bool true]) (by simp [results, Tryz.results13, go_sem]) rfl ⟨by rw [HR.out], HF.out⟩
      case pos =>
        obtain ⟨b, o, a, c, hade, hb, kc, hrx⟩ := (HRD.out.below hbel) k (by rw [HNC.out]; exact hlt)
        have CPO := HPO.out wE (ball HB12.out hbel) a c k hlt hrx
        have HSK := HSH.out k hlt
        have HS1 := Lib.hid (fun (h : areaP (hulX L (C.getD k [])) = 1) => show ∀ j, j < k + 1 → areaP (hulX L (C.getD j [])) = 1 from fun j hj => by
          by_cases e : j = k
          · subst e; exact h
          · exact HON.out j (by omega))
        have HS2 := Lib.hid (fun (h : areaP (hulX L (C.getD k [])) ≠ 1) => show RES = false from by rw [HSB.out, HAY.out k hlt HON.out h]; simp)
        rw [hade]
        generalize hxs : C.getD k [] = xs at kc hrx CPO HSK HS1 HS2
        have CDA := Lib.hid (fun ad cap w (hr : RdP w ad (hulX L xs)) => pyArea_c ad cap (hulX L xs) w hr (by omega) HSK.1)
        generalize hulX L xs = H at CPO CDA HS1 HS2
        generalize areaP H = AH at CDA HS1 HS2
        have CPO := Lib.hid CPO
        have x1 : (0 : Int) ≤ (k : Int) := by omega
        have x2 : (k : Int) < (nC : Int) := by omega
        clear hrx HSK hade hxs HSB HAL HAY
        go_wp2_with fail
        refine CPO.out.mono ?_
        rintro e w3 ⟨adh, caph, rfl, hrh, hb3⟩
        have CD := Lib.hid (CDA.out adh caph w3 hrh)
        clear CPO hrh CDA kc
        go_wp2_with fail
        refine CD.out.mono ?_
        rintro e w4 ⟨rfl, hb4⟩
        have hbX := ball (ball hbel hb3) hb4
        have HF := Lib.hid (ball HB12.out hbX)
        clear hb3 hb4 CD
        by_cases hA : AH = 1
        case pos =>
          have HS3 := Lib.hid (HS1.out hA)
          have d1 : (AH != 1) = false := by rw [hA]; rfl
          have d2 : (AH == 1) = true := by rw [hA]; rfl
          clear hA
          go_wp2_with fail
          go_roundw
          case rel => exact ⟨k + 1, by omega, by go_num, HS3.out, hbX⟩
          case measure => simp [intOf]; omega
        case neg =>
          have HR := Lib.hid (HS2.out hA)
          have d1 : (AH != 1) = true := bne_iff_ne.2 hA
          have d2 : (AH == 1) = false := beq_eq_false_iff_ne.2 hA
          go_wp2_with fail
          exact bodyPost_ret (v := .tuple #[.bool false, .bool true]) (by simp [results, Tryz.results13, go_sem]) rfl ⟨by rw [HR.out], HF.out⟩
end Go.Proofs.YtbcmnhppodfhpaaGreat
