/-
  Some texts of this proof in one: CsT CsL. Each part tells what it proves. By an AI agent.
-/
import Derived.Test.YtbcmnhppodfhpaaGreatCsE
import Derived.Test.YtbcmnhppodfhpaaGreatCpW
import Derived.Test.YtbcmnhppodfhpaaGreatCpZ

/-
  HaveSameCells: the reference's. By an AI agent.
-/
namespace Go.Proofs.YtbcmnhppodfhpaaGreat
open Go.RowKit

set_option maxHeartbeats 1600000 in
set_option maxRecDepth 100000 in
theorem plPoints_c (ad : Option Addr) (cap : Nat) (L : List Tm) (w : World) (hr : RdT w ad L) (hl : L.length ≤ 12) :
    Calls Tryz.prog 56 #[.slice ad L.length cap] w fun e w' => ∃ v, e = .returned v ∧ RowP w' w.heap.size v (ptsL L L.length) ∧ Below w.heap.size w w' := by
  have HR := Lib.hid hr; clear hr
  obtain ⟨n, hn⟩ : ∃ n, L.length = n := ⟨_, rfl⟩
  have HN := Lib.hid hn
  rw [hn] at hl ⊢
  clear hn
  obtain ⟨RES, hRES⟩ : ∃ X, ptsL L n = X := ⟨_, rfl⟩
  rw [hRES]
  have HRES := Lib.hid hRES; clear hRES
  go_enter Tryz.func56, Tryz.ntmps56
  go_wp2_with fail
  go_loopw [3, 8] (fun s i wr => ∃ (k : Nat) (xs : List Pt), k ≤ n ∧ i = .int .i64 k ∧ ptsL L k = xs ∧ RowP wr w.heap.size s xs ∧ Below w.heap.size w wr) (fun _ i _ => n - (intOf i).toNat)
  case atStart => exact ⟨0, [], Nat.zero_le _, rfl, rfl, RowP.nil _ _, Below.refl _ _⟩
  case round =>
    obtain ⟨wE, rfl⟩ : ∃ x : World, x = wr := ⟨_, rfl⟩
    obtain ⟨k, xs, hk, rfl, hxs, hrow, hbel⟩ := hrel
    obtain ⟨adx, cpx, rfl, _, _⟩ := hrow.shape
    have hxl : xs.length = k := by rw [← hxs]; exact ptsL_len L k
    rw [hxl] at hrow ⊢
    have HXS := Lib.hid hxs; have HRW := Lib.hid hrow; have HXL := Lib.hid hxl
    have hsz := hbel.size
    clear hxs hrow hxl
    by_cases hlt : k < n
    case neg =>
      obtain rfl : k = n := by omega
      have HE := Lib.hid (HRES.out.symm.trans HXS.out)
      go_wp2_with fail
      go_ret
      exact ⟨_, rfl, by rw [HE.out]; exact HRW.out, hbel⟩
    case pos =>
      obtain ⟨bp, op, rfl, hbp, c0, c1, c2⟩ := HR.out k (by rw [HN.out]; exact hlt)
      have c0 := bcell hbel hbp c0
      have c1 := bcell hbel hbp c1
      have c2 := bcell hbel hbp c2
      have x1 : (0 : Int) ≤ (k : Int) := by omega
      have x2 : (k : Int) < (n : Int) := by omega
      obtain ⟨T, hT⟩ : ∃ T, tmAt L k = T := ⟨_, rfl⟩
      have hT2 : L.getD k default = T := hT
      rw [hT2] at c0 c1 c2
      have HS := Lib.hid (show ptsL L (k + 1) = xs ++ [⟨T.i, T.j⟩] from by show ptsL L k ++ [pnt (tmAt L k)] = _; rw [HXS.out, hT]; rfl)
      clear hT hT2
      have hbA := bal_alloc (o := .cells #[.int .i64 T.i, .int .i64 T.j, .int .i64 T.c] 68) hbel
      have HRA := Lib.hid (HRW.out.below ((Below.refl wE.heap.size wE).alloc (Nat.le_refl _) (.cells #[.int .i64 T.i, .int .i64 T.j, .int .i64 T.c] 68)))
      go_wp2_with (at_builtin; refine wpList_appP rfl _ _ rfl w.heap.size _ 0 1 _ xs [⟨T.i, T.j⟩] rfl rfl (HRA.out.below ((Below.refl _ _).alloc (Nat.le_refl _) _)) (rdP_one _ _ _ _ (by simp)) (by rw [HXL.out]; omega) (by simp) (by simp; omega) ?_; intro v5 wm hown hbm)
      have hb3 := (bal_alloc (o := .cells #[.int .i64 T.i, .int .i64 T.j] 73) hbA).trans hbm
      have HO5 := Lib.hid hown; clear hown hbm
      go_wp2_with fail
      go_roundw
      case rel => exact ⟨k + 1, _, by omega, by go_num, HS.out, HO5.out, hb3⟩
      case measure => simp [intOf]; omega

set_option maxHeartbeats 3200000 in
set_option maxRecDepth 100000 in
theorem sHaveSameCells_c (ad ad2 : Option Addr) (cap cap2 : Nat) (a b : List Tm) (w : World) (hr : RdT w ad a) (hr2 : RdT w ad2 b) (hla : a.length ≤ 1048576) (hlb : b.length ≤ 1048576) :
    Calls Tryz.prog 22 #[.slice ad a.length cap, .slice ad2 b.length cap2] w fun e w' => e = .returned (.tuple #[.bool (planeB a && (planeB b && smcB a b)), .bool (planeB a && planeB b)]) ∧ Below w.heap.size w w' := by
  have CA := Lib.hid (plGood_c ad cap a w hr hla)
  have CB := Lib.hid (fun (u : World) (h : Below w.heap.size w u) => plGood_c ad2 cap2 b u (hr2.below h) hlb)
  cases hA : planeB a
  case false =>
    rw [hA] at CA
    simp only [Bool.false_and]
    generalize hna : a.length = na at *
    generalize hnb : b.length = nb at *
    clear hr hr2 hla hlb hA hna hnb CB
    go_enter Tryz.func22, Tryz.ntmps22
    go_wp2_with fail
    refine CA.out.mono ?_
    rintro e w1 ⟨rfl, hb1⟩
    go_wp2_with fail
    exact bodyPost_ret (v := .tuple #[.bool false, .bool false]) (by simp [results, Tryz.results22, go_sem]) rfl ⟨by simp, hb1⟩
  case true =>
    rw [hA] at CA
    cases hB : planeB b
    case false =>
      rw [hB] at CB
      simp only [Bool.true_and, Bool.false_and]
      generalize hna : a.length = na at *
      generalize hnb : b.length = nb at *
      clear hr hr2 hla hlb hA hB hna hnb
      go_enter Tryz.func22, Tryz.ntmps22
      go_wp2_with fail
      refine CA.out.mono ?_
      rintro e w1 ⟨rfl, hb1⟩
      have CB1 := Lib.hid (CB.out w1 hb1)
      go_wp2_with fail
      refine CB1.out.mono ?_
      rintro e w2 ⟨rfl, hb2⟩
      go_wp2_with fail
      exact bodyPost_ret (v := .tuple #[.bool false, .bool false]) (by simp [results, Tryz.results22, go_sem]) rfl ⟨by simp, ball hb1 hb2⟩
    case true =>
      rw [hB] at CB
      simp only [Bool.true_and]
      obtain ⟨ha0, ha12, hpa⟩ := planeB_t hA
      obtain ⟨hb0, hb12, hpb⟩ := planeB_t hB
      obtain ⟨bl, ol, rfl, _⟩ := hr 0 ha0
      obtain ⟨bm, om, rfl, _⟩ := hr2 0 hb0
      have hca := celA_len a ha12
      have hcb := celA_len b hb12
      have CO1 := Lib.hid (fun u (h : Below w.heap.size w u) => ceOf_c bl ol cap a u (hr.below h) hpa ha12 ha0)
      have CO2 := Lib.hid (fun u (h : Below w.heap.size w u) => ceOf_c bm om cap2 b u (hr2.below h) hpb hb12 hb0)
      have CP1 := Lib.hid (fun u (h : Below w.heap.size w u) => plPoints_c (some ⟨bl, ol, none⟩) cap a u (hr.below h) ha12)
      have CP2 := Lib.hid (fun u (h : Below w.heap.size w u) => plPoints_c (some ⟨bm, om, none⟩) cap2 b u (hr2.below h) hb12)
      have HLA := Lib.hid (fun k (hk : k < (celA a).length) => show ((celA a).getD k []).length ≤ 12 from Nat.le_trans (cell_len (by rw [List.getD_eq_getElem?_getD, List.getElem?_eq_getElem hk]; exact List.getElem_mem _)) ha12)
      have HEQ := Lib.hid (fun u a1 c1 a2 c2 (h1 : RdP u a1 (ptsL a a.length)) (h2 : RdP u a2 (ptsL b b.length)) => show Calls Tryz.prog 55 #[.slice a1 (ptsL a a.length).length c1, .slice a2 (ptsL b b.length).length c2] u fun e w' => e = .returned (.bool (decide (ptsL a a.length = ptsL b b.length))) ∧ Below u.heap.size u w' from pySame_c a1 a2 c1 c2 _ _ u h1 h2 (by rw [ptsL_len]; omega) (by rw [ptsL_len]; omega))
      unfold smcB
      generalize decide (ptsL a a.length = ptsL b b.length) = P at HEQ ⊢
      generalize ptsL a a.length = PA at CP1 HEQ
      generalize ptsL b b.length = PB at CP2 HEQ
      obtain ⟨X, hX⟩ : ∃ z, celA a = z := ⟨_, rfl⟩
      obtain ⟨Y, hY⟩ : ∃ z, celA b = z := ⟨_, rfl⟩
      rw [hX] at CO1 HLA hca ⊢
      rw [hY] at CO2 hcb ⊢
      obtain ⟨nx, hnx⟩ : ∃ z, X.length = z := ⟨_, rfl⟩
      obtain ⟨ny, hny⟩ : ∃ z, Y.length = z := ⟨_, rfl⟩
      have HNX := Lib.hid hnx; have HNY := Lib.hid hny
      have HNE := Lib.hid (fun (h : nx ≠ ny) => show decide (X = Y) = false from decide_eq_false (fun e => h (by rw [← hnx, ← hny, e])))
      have HALL := Lib.hid (fun (hlm : nx = ny) (h : ∀ j, j < nx → X.getD j [] = Y.getD j []) => show decide (X = Y) = true from decide_eq_true (list_eq_at (by rw [hnx, hny]; exact hlm) (fun j hj => h j (by omega))))
      have HONE := Lib.hid (fun j (_ : j < nx) (h : X.getD j [] ≠ Y.getD j []) => show decide (X = Y) = false from decide_eq_false (fun e => h (by rw [e])))
      generalize decide (X = Y) = RES at HALL HONE HNE ⊢
      unfold PutR at CO1 CO2
      rw [hnx] at CO1 HLA hca
      rw [hny] at CO2 hcb
      generalize hna : a.length = na at *
      generalize hnb : b.length = nb at *
      clear hr hr2 hla hlb hA hB hna hnb ha0 hb0 hpa hpb hX hY hnx hny
      go_enter Tryz.func22, Tryz.ntmps22
      go_wp2_with fail
      refine CA.out.mono ?_
      rintro e w1 ⟨rfl, hb1⟩
      have CB1 := Lib.hid (CB.out w1 hb1)
      go_wp2_with fail
      refine CB1.out.mono ?_
      rintro e w2 ⟨rfl, hb2⟩
      have hb2 := ball hb1 hb2
      have CO1 := Lib.hid (CO1.out w2 hb2)
      clear CB CB1 CA hb1
      go_wp2_with fail
      refine CO1.out.mono ?_
      rintro e w3 ⟨adX, cpX, vX, rfl, hmX, hb3⟩
      have HRX := Lib.hid hmX.rd
      have hb3 := ball hb2 hb3
      have CO2 := Lib.hid (CO2.out w3 hb3)
      clear CO1 hmX hb2
      go_wp2_with fail
      refine CO2.out.mono ?_
      rintro e w4 ⟨adY, cpY, vY, rfl, hmY, hb4⟩
      have HRX := Lib.hid (HRX.out.below hb4)
      have HRY := Lib.hid hmY.rd
      have hb4 := ball hb3 hb4
      have CP1 := Lib.hid (CP1.out w4 hb4)
      clear CO2 hmY hb3
      go_wp2_with fail
      refine CP1.out.mono ?_
      rintro e w5 ⟨v5, rfl, hp5, hb5⟩
      obtain ⟨ad5, cp5, rfl, _, _⟩ := hp5.shape
      have hrp5 := hp5.rd
      have HP5 := Lib.hid hrp5
      have HRX := Lib.hid (HRX.out.below hb5)
      have HRY := Lib.hid (HRY.out.below hb5)
      have hb5 := ball hb4 hb5
      have CP2 := Lib.hid (CP2.out w5 hb5)
      clear CP1 hp5 hb4 hrp5
      go_wp2_with fail
      refine CP2.out.mono ?_
      rintro e w6 ⟨v6, rfl, hp6, hb6⟩
      obtain ⟨ad6, cp6, rfl, _, _⟩ := hp6.shape
      have hrp6 := hp6.rd
      have CE := Lib.hid (HEQ.out w6 ad5 cp5 ad6 cp6 (HP5.out.below hb6) hrp6)
      have HRX := Lib.hid (HRX.out.below hb6)
      have HRY := Lib.hid (HRY.out.below hb6)
      have hb6 := ball hb5 hb6
      generalize PA.length = npa at CE ⊢
      generalize PB.length = npb at CE ⊢
      clear CP2 hp6 hb5 hrp6 HEQ
      go_wp2_with fail
      refine CE.out.mono ?_
      rintro e w7 ⟨rfl, hb7⟩
      have HRX := Lib.hid (HRX.out.below hb7)
      have HRY := Lib.hid (HRY.out.below hb7)
      have HB7 := Lib.hid (ball hb6 hb7)
      clear CE hb6 hb7
      cases P
      case false =>
        go_wp2_with fail
        exact bodyPost_ret (v := .tuple #[.bool false, .bool true]) (by simp [results, Tryz.results22, go_sem]) rfl ⟨by simp, HB7.out⟩
      case true =>
        by_cases hlm : nx = ny
        case neg =>
          obtain rfl := HNE.out hlm
          have d1 : ((nx : Int) != (ny : Int)) = true := bne_iff_ne.2 (by omega)
          have d2 : ((nx : Int) == (ny : Int)) = false := beq_eq_false_iff_ne.2 (by omega)
          go_wp2_with fail
          exact bodyPost_ret (v := .tuple #[.bool false, .bool true]) (by simp [results, Tryz.results22, go_sem]) rfl ⟨by simp, HB7.out⟩
        case pos =>
          subst hlm
          have d1 : ((nx : Int) != (nx : Int)) = false := by simp
          go_wp2_with fail
          go_loopw [37] (fun i wr => ∃ k : Nat, k ≤ nx ∧ i = .int .i64 k ∧ (∀ j, j < k → X.getD j [] = Y.getD j []) ∧ Below w7.heap.size w7 wr) (fun i _ => nx - (intOf i).toNat)
          case atStart => exact ⟨0, Nat.zero_le _, rfl, fun j hj => by omega, Below.refl _ _⟩
          case round =>
            obtain ⟨wE, rfl⟩ : ∃ z : World, z = wr := ⟨_, rfl⟩
            obtain ⟨k, hk, rfl, hlow, hbel⟩ := hrel
            have HLow := Lib.hid hlow; clear hlow
            have HF := Lib.hid (ball HB7.out hbel)
            by_cases hlt : k < nx
            case neg =>
              obtain rfl : k = nx := by omega
              obtain rfl := HALL.out (by first | rfl | trivial) HLow.out
              go_wp2_with fail
              exact bodyPost_ret (v := .tuple #[.bool true, .bool true]) (by simp [results, Tryz.results22, go_sem]) rfl ⟨by simp, HF.out⟩
            case pos =>
              obtain ⟨b1, o1, a1, c1, rfl, hbb1, k1, r1⟩ := (HRX.out.below hbel) k (by rw [HNX.out]; exact hlt)
              obtain ⟨b2, o2, a2, c2, rfl, hbb2, k2, r2⟩ := (HRY.out.below hbel) k (by rw [HNY.out]; exact hlt)
              have hll := HLA.out k hlt
              have C := l1Same_c a1 c1 (X.getD k []) a2 c2 (Y.getD k []) wE (by omega) r1 r2
              have HL2 := Lib.hid (fun (h : X.getD k [] = Y.getD k []) => show ∀ j, j < k + 1 → X.getD j [] = Y.getD j [] from fun j hj => by
                by_cases e : j = k
                · subst e; exact h
                · exact HLow.out j (by omega))
              have HO2 := Lib.hid (HONE.out k hlt)
              have x1 : (0 : Int) ≤ (k : Int) := by omega
              have x2 : (k : Int) < (nx : Int) := by omega
              clear r1 r2 hll
              generalize X.getD k [] = x at k1 C HL2 HO2
              generalize Y.getD k [] = y at k2 C HL2 HO2
              by_cases he : x = y
              case pos =>
                have HL3 := Lib.hid (HL2.out he)
                rw [decide_eq_true he] at C
                have C := Lib.hid C
                clear he
                go_wp2_with fail
                refine C.out.mono ?_
                rintro e w8 ⟨rfl, hb8⟩
                have hbN := ball hbel hb8
                go_wp2_with fail
                go_roundw
                case rel => exact ⟨k + 1, by omega, by go_num, HL3.out, hbN⟩
                case measure => simp [intOf]; omega
              case neg =>
                obtain rfl := HO2.out he
                rw [decide_eq_false he] at C
                have C := Lib.hid C
                clear he
                go_wp2_with fail
                refine C.out.mono ?_
                rintro e w8 ⟨rfl, hb8⟩
                have hbN := ball HF.out hb8
                go_wp2_with fail
                exact bodyPost_ret (v := .tuple #[.bool false, .bool true]) (by simp [results, Tryz.results22, go_sem]) rfl ⟨by simp, hbN⟩
end Go.Proofs.YtbcmnhppodfhpaaGreat

/-
  IsTriangulated: that of the reference. By an AI agent.
-/
namespace Go.Proofs.YtbcmnhppodfhpaaGreat
open Go.RowKit

theorem any_three {C : List (List Int)} {k : Nat} (hk : k < C.length) (h : (C.getD k []).length ≠ 3) : (C.any fun x => decide (x.length ≠ 3)) = true := by
  rw [List.any_eq_true]
  refine ⟨C.getD k [], ?_, decide_eq_true h⟩
  rw [List.getD_eq_getElem?_getD, List.getElem?_eq_getElem hk]
  exact List.getElem_mem _
theorem none_three {C : List (List Int)} (h : ∀ j, j < C.length → (C.getD j []).length = 3) : (C.any fun x => decide (x.length ≠ 3)) = false := by
  rw [List.any_eq_false]
  intro x hx
  obtain ⟨j, hj, rfl⟩ := List.getElem_of_mem hx
  have := h j hj
  rw [List.getD_eq_getElem?_getD, List.getElem?_eq_getElem hj, Option.getD_some] at this
  simp [this]

set_option maxHeartbeats 1600000 in
set_option maxRecDepth 100000 in
theorem sIsTriangulated_c (ad : Option Addr) (cap : Nat) (L : List Tm) (w : World) (hr : RdT w ad L) (hl : L.length ≤ 1048576) :
    Calls Tryz.prog 11 #[.slice ad L.length cap] w fun e w' => e = .returned (.tuple #[.bool (planeB L && triB L), .bool (planeB L)]) ∧ Below w.heap.size w w' := by
  have CI := Lib.hid (plGood_c ad cap L w hr hl)
  cases hB : planeB L
  case false =>
    rw [hB] at CI
    rw [Bool.false_and]
    generalize L.length = n at CI ⊢
    clear hr hB hl
    go_enter Tryz.func11, Tryz.ntmps11
    go_wp2_with fail
    refine CI.out.mono ?_
    rintro e w1 ⟨rfl, hb1⟩
    go_wp2_with fail
    exact bodyPost_ret (v := .tuple #[.bool false, .bool false]) (by simp [results, Tryz.results11, go_sem]) rfl ⟨rfl, hb1⟩
  case true =>
    rw [hB] at CI
    rw [Bool.true_and]
    obtain ⟨h0, h12, hp⟩ := planeB_t hB
    obtain ⟨bl, ol, rfl, _⟩ := hr 0 h0
    have CO := Lib.hid (fun w' (h : Below w.heap.size w w') => ceOf_c bl ol cap L w' (hr.below h) hp h12 h0)
    have hcl := celA_len L h12
    have HSB := Lib.hid (show triB L = !((celA L).any fun x => decide (x.length ≠ 3)) from rfl)
    have HLN := Lib.hid (fun k (hk : k < (celA L).length) => show ((celA L).getD k []).length ≤ 12 from Nat.le_trans (cell_len (by rw [List.getD_eq_getElem?_getD, List.getElem?_eq_getElem hk]; exact List.getElem_mem _)) h12)
    generalize triB L = RES at HSB ⊢
    generalize celA L = C at CO HSB hcl HLN
    have HAY := Lib.hid (fun k (hk : k < C.length) (h : (C.getD k []).length ≠ 3) => show RES = false from by rw [HSB.out, any_three hk h]; rfl)
    have HAL := Lib.hid (fun (h : ∀ j, j < C.length → (C.getD j []).length = 3) => show RES = true from by rw [HSB.out, none_three h]; rfl)
    obtain ⟨nC, hnC⟩ : ∃ z, C.length = z := ⟨_, rfl⟩
    have HNC := Lib.hid hnC
    obtain ⟨n, hn⟩ : ∃ n, L.length = n := ⟨_, rfl⟩
    rw [hn] at CI CO ⊢
    unfold PutR at CO
    rw [hnC] at CO HAY HAL hcl HLN
    clear hr hB hl hn h0 h12 hp hnC HSB
    go_enter Tryz.func11, Tryz.ntmps11
    go_wp2_with fail
    refine CI.out.mono ?_
    rintro e w1 ⟨rfl, hb1⟩
    go_wp2_with fail
    refine (CO.out _ hb1).mono ?_
    rintro e w2 ⟨adC, capC, vs, rfl, hm, hb2⟩
    have HRD := Lib.hid hm.rd
    have hb12 := ball hb1 hb2
    have HB12 := Lib.hid hb12
    clear hm CO CI hb1 hb2
    go_wp2_with fail
    go_loopw [12] (fun i wr => ∃ k : Nat, k ≤ nC ∧ i = .int .i64 k ∧ (∀ j, j < k → (C.getD j []).length = 3) ∧ Below w2.heap.size w2 wr) (fun i _ => nC - (intOf i).toNat)
    case atStart => exact ⟨0, Nat.zero_le _, rfl, fun j hj => by omega, Below.refl _ _⟩
    case round =>
      obtain ⟨wE, rfl⟩ : ∃ x : World, x = wr := ⟨_, rfl⟩
      obtain ⟨k, hk, rfl, hone, hbel⟩ := hrel
      have HON := Lib.hid hone; clear hone
      have HF := Lib.hid (ball HB12.out hbel)
      by_cases hlt : k < nC
      case neg =>
        obtain rfl : nC = k := by omega
        have hR := HAL.out HON.out
        subst hR
        clear HAL HAY
        go_wp2_with fail
        exact bodyPost_ret (v := .tuple #[.bool true, .bool true]) (by simp [results, Tryz.results11, go_sem]) rfl ⟨rfl, HF.out⟩
      case pos =>
        obtain ⟨b, o, a, c, hade, hb, kc, hrx⟩ := (HRD.out.below hbel) k (by rw [HNC.out]; exact hlt)
        have hln := HLN.out k hlt
        have HS1 := Lib.hid (fun (h : (C.getD k []).length = 3) => show ∀ j, j < k + 1 → (C.getD j []).length = 3 from fun j hj => by
          by_cases e : j = k
          · subst e; exact h
          · exact HON.out j (by omega))
        have HS2 := Lib.hid (HAY.out k hlt)
        rw [hade]
        generalize (C.getD k []).length = N at kc HS1 HS2 hln
        have x1 : (0 : Int) ≤ (k : Int) := by omega
        have x2 : (k : Int) < (nC : Int) := by omega
        clear hrx hade HAL HAY
        by_cases hA : N = 3
        case pos =>
          have HS3 := Lib.hid (HS1.out hA)
          subst hA
          go_wp2_with fail
          go_roundw
          case rel => exact ⟨k + 1, by omega, by go_num, HS3.out, hbel⟩
          case measure => simp [intOf]; omega
        case neg =>
          have hR := HS2.out hA
          subst hR
          have d1 : ((N : Int) != 3) = true := bne_iff_ne.2 (by omega)
          have d2 : ((N : Int) == 3) = false := beq_eq_false_iff_ne.2 (by omega)
          go_wp2_with fail
          exact bodyPost_ret (v := .tuple #[.bool false, .bool true]) (by simp [results, Tryz.results11, go_sem]) rfl ⟨rfl, HF.out⟩
end Go.Proofs.YtbcmnhppodfhpaaGreat
