/-
  CellAreas and IsSmooth: the reference's. By an AI agent.
-/
import Derived.Test.YtcionneopgdebaaGreatCpY
import Derived.Test.YtcionneopgdebaaGreatCpQ
import Derived.Test.YtcionneopgdebaaGreatPyHull
namespace Go.Proofs.YtcionneopgdebaaGreat
open Go.RowKit

set_option maxHeartbeats 1600000 in
set_option maxRecDepth 100000 in
theorem cePolygon_c (bl ol cap : Nat) (L : List Tm) (adx : Option Addr) (capx : Nat) (xs : List Int) (w : World) (hr : RdT w (some ⟨bl, ol, none⟩) L) (hp : ∀ k, k < L.length → termB (tmAt L k) = true) (hx : RdI w adx xs) (hxl : xs.length ≤ 12) (hin : ∀ x ∈ xs, ∃ t : Nat, x = t ∧ t < L.length) :
    Calls Tryz.prog 30 #[.slice (some ⟨bl, ol, none⟩) L.length cap, .slice adx xs.length capx] w (HullTo w (hulX L xs)) := by
  have HIN := Lib.hid (fun k (hk : k < xs.length) => show ∃ t : Nat, xs.getD k 0 = t ∧ t < L.length from hin _ (by rw [List.getD_eq_getElem?_getD, List.getElem?_eq_getElem hk, Option.getD_some]; exact List.getElem_mem hk))
  have HR := Lib.hid hr; have HX := Lib.hid hx
  have hash : AllSh (ptsX L xs) := fun q hq => by
    obtain ⟨x, hx1, rfl⟩ := List.mem_map.1 hq
    obtain ⟨t, rfl, ht⟩ := hin x hx1
    have := termB_t (hp t ht)
    exact ⟨by show _ ≤ (tmAt L t).i; omega, by show (tmAt L t).i ≤ _; omega, by show _ ≤ (tmAt L t).j; omega, by show (tmAt L t).j ≤ _; omega⟩
  have hlen : (ptsX L xs).length = xs.length := List.length_map _
  have CH := Lib.hid (fun ad cap w (h : RdP w ad (ptsX L xs)) => pyHull_c ad cap (ptsX L xs) w h (by omega) hash)
  have HPT := Lib.hid (fun (t : Tm) w => cePoint_c t w)
  rw [show hulX L xs = hullF (pySortF (ptsX L xs)) from rfl]
  obtain ⟨PX, hPX⟩ : ∃ X, ptsX L xs = X := ⟨_, rfl⟩
  rw [hPX] at CH hlen ⊢
  have HPX := Lib.hid hPX
  generalize hullF (pySortF PX) = HF at CH ⊢
  obtain ⟨m, hm⟩ : ∃ m, xs.length = m := ⟨_, rfl⟩
  rw [hm] at hlen hxl ⊢
  rw [hlen] at CH
  obtain ⟨n, hn⟩ : ∃ n, L.length = n := ⟨_, rfl⟩
  rw [hn] at HIN ⊢
  have HM := Lib.hid hm; have HN := Lib.hid hn
  clear hPX hm hn hp hx hin hash hlen hr
  go_enter Tryz.func30, Tryz.ntmps30
  go_wp2_with fail
  go_loopw [5, 10] (fun s i wr => ∃ (k : Nat) (ys : List Pt), k ≤ m ∧ i = .int .i64 k ∧ ptsX L (xs.take k) = ys ∧ ys.length = k ∧ RowP wr w.heap.size s ys ∧ Below w.heap.size w wr) (fun _ i _ => m - (intOf i).toNat)
  case atStart => exact ⟨0, [], Nat.zero_le _, rfl, rfl, rfl, RowP.nil _ _, Below.refl _ _⟩
  case round =>
    obtain ⟨wE, rfl⟩ : ∃ x : World, x = wr := ⟨_, rfl⟩
    obtain ⟨k, ys, hk, rfl, hys, hyl, hrow, hbel⟩ := hrel
    obtain ⟨ady, cpy, rfl, _, _⟩ := hrow.shape
    rw [hyl] at hrow ⊢
    have HYS := Lib.hid hys; have HRW := Lib.hid hrow; have HYL := Lib.hid hyl
    have hsz := hbel.size
    clear hys hrow hyl
    by_cases hlt : k < m
    case neg =>
      obtain rfl : m = k := by omega
      have hE : PX = ys := by rw [← HPX.out, ← HYS.out, List.take_of_length_le (by rw [HM.out]; exact Nat.le_refl _)]
      have CC := Lib.hid (CH.out ady cpy wE (by rw [hE]; exact HRW.out.rd))
      clear hE
      go_wp2_with fail
      refine CC.out.mono ?_
      rintro e w3 ⟨a3, c3, rfl, hr3, hb3⟩
      have HR3 := Lib.hid hr3; have HB3 := Lib.hid (ball hbel hb3)
      clear hr3 hb3
      go_wp2_with fail
      go_ret
      exact ⟨a3, c3, rfl, HR3.out, HB3.out⟩
    case pos =>
      obtain ⟨b1, o1, rfl, hb1, q1⟩ := HX.out k (by rw [HM.out]; exact hlt)
      obtain ⟨t, ht, htn⟩ := HIN.out k (by rw [HM.out]; exact hlt)
      rw [ht] at q1
      have q1 := bcell hbel hb1 q1
      have hpp := RdT.at (HR.out.below hbel) (show t < L.length by rw [HN.out]; exact htn)
      have HS := Lib.hid (show ptsX L (xs.take (k + 1)) = ys ++ [⟨(tmAt L t).i, (tmAt L t).j⟩] from by rw [ptsX_snoc L xs (by rw [HM.out]; exact hlt), HYS.out, ht]; rfl)
      clear ht
      have p0 : wE.cell? ⟨bl, ol + t * 3, none⟩ = some (.int .i64 (tmAt L t).i) := hpp.1
      have p1 : wE.cell? ⟨bl, ol + t * 3 + 1, none⟩ = some (.int .i64 (tmAt L t).j) := hpp.2.1
      have p2 : wE.cell? ⟨bl, ol + t * 3 + 2, none⟩ = some (.int .i64 (tmAt L t).c) := hpp.2.2
      clear hpp
      generalize tmAt L t = T at p0 p1 p2 HS
      have CP := Lib.hid (fun w => HPT.out T w)
      have x1 : (0 : Int) ≤ (k : Int) := by omega
      have x2 : (k : Int) < (m : Int) := by omega
      have x3 : (0 : Int) ≤ (t : Int) := by omega
      have x4 : (t : Int) < (n : Int) := by omega
      go_wp2_with fail
      refine (CP.out _).mono ?_
      rintro e w3 ⟨rfl, hb3⟩
      have hbX := ball hbel hb3
      have hbX2 := hbX.size
      have HRC := Lib.hid (HRW.out.below hb3)
      clear p0 p1 p2 q1 hb3 CP
      go_wp2_with (at_builtin; refine wpList_appP rfl _ _ rfl w.heap.size _ 0 1 _ ys [⟨T.i, T.j⟩] (by first | rfl | rw [HYL.out]) rfl (HRC.out.below ((Below.refl _ _).alloc (Nat.le_refl _) _)) (rdP_one _ _ _ _ (by first | rfl | simp)) (by rw [HYL.out]; omega) (by simp) (by simp; omega) ?_; intro v5 wm hown hbm)
      have hb3 := (bal_alloc (o := .cells #[.int .i64 T.i, .int .i64 T.j] 66) hbX).trans hbm
      have HO5 := Lib.hid hown; clear hown hbm
      go_wp2_with fail
      go_roundw
      case rel => exact ⟨k + 1, _, by omega, by go_num, HS.out, by rw [List.length_append, HYL.out]; rfl, HO5.out, hb3⟩
      case measure => simp [intOf]; omega

set_option maxHeartbeats 1600000 in
set_option maxRecDepth 100000 in
theorem sCellAreas_c (ad : Option Addr) (cap : Nat) (L : List Tm) (w : World) (hr : RdT w ad L) (hl : L.length ≤ 1048576) :
    Calls Tryz.prog 9 #[.slice ad L.length cap] w (CelR (planeB L) (areL L) w) := by
  have CI := Lib.hid (plGood_c ad cap L w hr hl)
  cases hB : planeB L
  case false =>
    rw [hB] at CI
    have HQ := Lib.hid (fun w' (h : Below w.heap.size w w') => CelR.no (areL L) h)
    generalize CelR false (areL L) w = Q at HQ ⊢
    generalize L.length = n at CI ⊢
    clear hr hB hl
    go_enter Tryz.func9, Tryz.ntmps9
    go_wp2_with fail
    refine CI.out.mono ?_
    rintro e w1 ⟨rfl, hb1⟩
    go_wp2_with fail
    exact HQ.out _ hb1
  case true =>
    rw [hB] at CI
    obtain ⟨h0, h12, hp⟩ := planeB_t hB
    obtain ⟨bl, ol, rfl, _⟩ := hr 0 h0
    have CO := Lib.hid (fun w' (h : Below w.heap.size w w') => ceOf_c bl ol cap L w' (hr.below h) hp h12 h0)
    have HSH := Lib.hid (fun k (hk : k < (celA L).length) => show AllSh (hulX L ((celA L).getD k [])) ∧ (hulX L ((celA L).getD k [])).length ≤ 24 from by
      obtain ⟨_, h2, h3⟩ := celA_in (L := L) (x := (celA L).getD k []) (by rw [List.getD_eq_getElem?_getD, List.getElem?_eq_getElem hk, Option.getD_some]; exact List.getElem_mem hk)
      have := hulX_len L ((celA L).getD k [])
      exact ⟨hulX_sh hp h3, by omega⟩)
    have HPO := Lib.hid (fun w' (hb : Below w.heap.size w w') ad2 cap2 k (hk : k < (celA L).length) (hx : RdI w' ad2 ((celA L).getD k [])) => by
      obtain ⟨_, h2, h3⟩ := celA_in (L := L) (x := (celA L).getD k []) (by rw [List.getD_eq_getElem?_getD, List.getElem?_eq_getElem hk, Option.getD_some]; exact List.getElem_mem hk)
      exact cePolygon_c bl ol cap L ad2 cap2 ((celA L).getD k []) w' (hr.below hb) hp hx (by omega) h3)
    have HTK := Lib.hid (fun k (hk : k < (celA L).length) => takeI_snoc (celA L) k (fun xs => areaP (hulX L xs)) [] hk)
    have HAR := Lib.hid (show areL L = (celA L).map fun xs => areaP (hulX L xs) from rfl)
    have hcl := celA_len L h12
    have HQ := Lib.hid (fun w' v (h2 : RowI w' w.heap.size v (areL L)) (h : Below w.heap.size w w') => CelR.yes h2 h)
    generalize CelR true (areL L) w = Q at HQ ⊢
    generalize areL L = AR at HQ HAR
    generalize celA L = C at CO HSH HPO HTK HAR hcl
    obtain ⟨nC, hnC⟩ : ∃ z, C.length = z := ⟨_, rfl⟩
    rw [hnC] at HSH HPO HTK hcl
    have HNC := Lib.hid hnC
    obtain ⟨n, hn⟩ : ∃ n, L.length = n := ⟨_, rfl⟩
    rw [hn] at CI CO HPO ⊢
    unfold PutR at CO
    rw [hnC] at CO
    clear hr hB hl hn h0 h12 hp hnC
    go_enter Tryz.func9, Tryz.ntmps9
    go_wp2_with fail
    refine CI.out.mono ?_
    rintro e w1 ⟨rfl, hb1⟩
    go_wp2_with fail
    refine (CO.out _ hb1).mono ?_
    rintro e w2 ⟨adC, capC, vs, rfl, hm, hb2⟩
    have HRD := Lib.hid hm.rd
    have hb12 := ball hb1 hb2
    have HB12 := Lib.hid hb12
    have hs12 := hb12.size
    clear hm CO CI hb1 hb2
    go_wp2_with fail
    go_loopw [4, 13] (fun s i wr => ∃ (k : Nat) (ys : List Int), k ≤ nC ∧ i = .int .i64 k ∧ ((C.take k).map fun xs => areaP (hulX L xs)) = ys ∧ ys.length = k ∧ RowI wr w.heap.size s ys ∧ Below w2.heap.size w2 wr ∧ (∀ q, s.ownBlock = some q → w2.heap.size ≤ q)) (fun _ i _ => nC - (intOf i).toNat)
    case atStart => exact ⟨0, [], Nat.zero_le _, rfl, rfl, rfl, RowI.nil _ _, Below.refl _ _, fun q hq => by cases hq⟩
    case round =>
      obtain ⟨wE, rfl⟩ : ∃ x : World, x = wr := ⟨_, rfl⟩
      obtain ⟨k, ys, hk, rfl, hys, hyl, hrow, hbel, hown1⟩ := hrel
      obtain ⟨ady, cpy, rfl, _⟩ := hrow.shape
      rw [hyl] at hrow hown1 ⊢
      have HYS := Lib.hid hys; have HRW := Lib.hid hrow; have HYL := Lib.hid hyl; have HOW := Lib.hid hown1
      have hsz := hbel.size
      clear hys hrow hyl hown1
      by_cases hlt : k < nC
      case neg =>
        obtain rfl : nC = k := by omega
        have HE := Lib.hid (show AR = ys by rw [HAR.out, ← HYS.out, List.take_of_length_le (by rw [HNC.out]; exact Nat.le_refl _)])
        have HF := Lib.hid (HQ.out wE _ (by rw [HE.out]; exact HRW.out) (ball HB12.out hbel))
        go_wp2_with fail
        exact HF.out
      case pos =>
        obtain ⟨b, o, a, c, hade, hb, kc, hrx⟩ := (HRD.out.below hbel) k (by rw [HNC.out]; exact hlt)
        have CPO := HPO.out wE (ball HB12.out hbel) a c k hlt hrx
        have HSK := HSH.out k hlt
        have HS := HTK.out k hlt
        rw [HYS.out] at HS
        rw [hade]
        generalize C.getD k [] = xs at kc hrx CPO HSK HS
        have CDA := Lib.hid (fun ad cap w (hr : RdP w ad (hulX L xs)) => pyArea_c ad cap (hulX L xs) w hr (by omega) HSK.1)
        generalize hulX L xs = H at CPO CDA HS
        generalize areaP H = AH at CDA HS
        have CPO := Lib.hid CPO; have HS := Lib.hid HS
        have x1 : (0 : Int) ≤ (k : Int) := by omega
        have x2 : (k : Int) < (nC : Int) := by omega
        clear hrx HSK hade
        go_wp2_with fail
        refine CPO.out.mono ?_
        rintro e w3 ⟨adh, caph, rfl, hrh, hb3⟩
        have CD := Lib.hid (CDA.out adh caph w3 hrh)
        clear CPO hrh CDA kc
        go_wp2_with fail
        refine CD.out.mono ?_
        rintro e w4 ⟨rfl, hb4⟩
        have hbX := ball (ball hbel hb3) hb4
        have hbX2 := hbX.size
        have HRC := Lib.hid ((HRW.out.below hb3).below hb4)
        have hbY := bal_alloc (o := .cells #[.int .i64 AH] 3) hbX
        have hbYs := hbY.size
        clear hb3 hb4 CD
        go_wp2_with (at_builtin; refine wpList_appB rfl _ _ rfl w.heap.size _ 0 1 _ ys [AH] (k + 1) (by rw [HYL.out]; rfl) rfl rfl (HRC.out.below ((Below.refl _ _).alloc (Nat.le_refl _) _)) (rdI_one _ _ _ rfl) (by rw [HYL.out]; omega) (by simp) (by simp; omega) ?_; intro v5 wm hown hsh hbm hgr hloc)
        have hb5 : Below w2.heap.size w2 wm := hbY.grown hgr hbYs (fun q e => HOW.out q e)
        have HLO := Lib.hid (show ∀ q, v5.ownBlock = some q → w2.heap.size ≤ q from fun q hq => by
          rcases hloc with h | h
          · exact HOW.out q (h.symm.trans hq)
          · rw [h] at hq; injection hq with hq; omega)
        have HO5 := Lib.hid hown; clear hown hsh hbm hgr hloc hbY
        go_wp2_with fail
        go_roundw
        case rel => exact ⟨k + 1, ys ++ [AH], by omega, by go_num, HS.out, by rw [List.length_append, HYL.out]; rfl, HO5.out, hb5, HLO.out⟩
        case measure => simp [intOf]; omega

end Go.Proofs.YtcionneopgdebaaGreat
