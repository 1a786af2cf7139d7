/-
  Scaled and mapped stars: the reference's. By an AI agent.
-/
import Derived.Test.YtlplodkabeiimaaStH
namespace Go.Proofs.Ytlplodkabeiimaa
open Go.RowKit

def scaB (k : Int) (l : List Ry) : Bool := (starB l && inB k 1 20) && starB (sclR k l)
theorem scl_take {l : List Ry} (k : Int) {j : Nat} (h : j < l.length) : sclR k (l.take (j + 1)) = sclR k (l.take j) ++ [⟨(l.getD j default).x, (l.getD j default).y, (l.getD j default).w * k⟩] := by
  rw [takeR_snoc l j h]
  simp [sclR]
theorem scl_len (k : Int) (l : List Ry) : (sclR k l).length = l.length := by simp [sclR]

set_option maxHeartbeats 1600000 in
set_option maxRecDepth 100000 in
theorem sScaleStar_c (ad : Option Addr) (cap : Nat) (l : List Ry) (k : Int) (w : World) (hr : RdY w ad l) (hl : l.length ≤ 1048576) :
    Calls Try.prog 21 #[.slice ad l.length cap, .int .i64 k] w fun e w' => StarR w' e (scaB k l) (sclR k l) ∧ Below w.heap.size w w' := by
  have CA := Lib.hid (stGood_c ad cap l w hr hl)
  have CI := Lib.hid (fun w => l1In_any k 1 20 w)
  unfold scaB
  cases hua : starB l
  · rw [hua] at CA
    clear hua hr
    go_enter Try.func21, Try.ntmps21
    go_wp2_with fail
    refine (CA.out).mono ?_
    rintro e w1 ⟨rfl, hw1⟩
    go_wp2_with fail
    exact bodyPost_ret (v := .tuple #[.slice none 0 0, .bool false]) (by simp [results, Try.results21, go_sem]) rfl ⟨starR_no _ _, hw1⟩
  · rw [hua] at CA
    cases hub : inB k 1 20
    · rw [hub] at CI
      clear hua hub hr
      go_enter Try.func21, Try.ntmps21
      go_wp2_with fail
      refine (CA.out).mono ?_
      rintro e w1 ⟨rfl, hw1⟩
      go_wp2_with fail
      refine (CI.out _).mono ?_
      rintro e w2 ⟨rfl, rfl⟩
      go_wp2_with fail
      exact bodyPost_ret (v := .tuple #[.slice none 0 0, .bool false]) (by simp [results, Try.results21, go_sem]) rfl ⟨starR_no _ _, hw1⟩
    · rw [hub] at CI
      have hkb := inB_t.1 hub
      obtain ⟨la, ya, _⟩ := star_of hua
      have WA : ∀ r ∈ l, (-20 : Int) ≤ r.w ∧ r.w ≤ 20 := fun r hr => by have := ry_of (ya r hr); omega
      have HWA := Lib.hid WA
      have HR2 := Lib.hid hr
      clear hua hub ya WA hr
      simp only [Bool.true_and]
      go_enter Try.func21, Try.ntmps21
      go_wp2_with fail
      refine (CA.out).mono ?_
      rintro e w1 ⟨rfl, hw1⟩
      go_wp2_with fail
      refine (CI.out _).mono ?_
      rintro e w2 ⟨rfl, rfl⟩
      go_wp2_with fail
      go_loopw [6, 19] (fun v i wr => ∃ j : Nat, j ≤ l.length ∧ i = .int .i64 j ∧ RowY wr w.heap.size v (sclR k (l.take j)) ∧ Below w.heap.size w wr) (fun _ i _ => l.length - (intOf i).toNat)
      case atStart => exact ⟨0, Nat.zero_le _, rfl, RowY.nil _ _, hw1⟩
      case round =>
        obtain ⟨wE, rfl⟩ : ∃ x : World, x = wr := ⟨_, rfl⟩
        obtain ⟨j, hj, rfl, hrow, hbel⟩ := hrel
        obtain ⟨adv, cav, rfl, hsy⟩ := hrow.sy
        have HO := Lib.hid hrow; have HS := Lib.hid hsy
        clear hrow hsy
        have hsl := scl_len k (l.take j)
        rw [List.length_take] at hsl
        by_cases hlt : j < l.length
        case neg =>
          obtain rfl : j = l.length := by omega
          rw [List.take_length] at HO HS hsl ⊢
          have CI := Lib.hid (stIf_c adv cav (sclR k l) wE HO.out.rd (by omega))
          obtain ⟨N, hN⟩ : ∃ n, (sclR k l).length = n := ⟨_, rfl⟩
          rw [hN] at CI ⊢
          have HN := Lib.hid hN; clear hN
          go_wp2_with fail
          refine CI.out.mono ?_
          rintro e w4 ⟨rfl, hw4⟩
          unfold toldV
          cases hz : starB (sclR k l)
          · go_wp2_with fail
            exact bodyPost_ret (v := .tuple #[.slice none 0 0, .bool false]) (by simp [results, Try.results21, go_sem]) rfl ⟨by rw [hz]; exact starR_no _ _, ball hbel hw4⟩
          · go_wp2_with fail
            exact bodyPost_ret (v := .tuple #[.slice adv N cav, .bool true]) (by simp [results, Try.results21, go_sem]) rfl ⟨⟨adv, cav, by rw [hz, HN.out]; rfl, fun _ => ⟨(HO.out.below hw4).rd, HS.out⟩⟩, ball hbel hw4⟩
        case pos =>
          obtain ⟨bb, off, rfl, hb, x0, x1, x2⟩ := HR2.out j hlt
          have x0 := bcell hbel hb x0
          have x1 := bcell hbel hb x1
          have x2 := bcell hbel hb x2
          have hnx := scl_take k hlt
          have hwr := HWA.out _ (getD_mem hlt)
          generalize hrr : l.getD j default = r at hnx hwr x0 x1 x2
          clear hrr
          have hbE : bb < wE.heap.size := Nat.lt_of_lt_of_le hb hbel.size
          have y1 : (0 : Int) ≤ (j : Int) := by omega
          have y2 : (j : Int) < (l.length : Int) := by omega
          have HNX := Lib.hid hnx
          clear hnx
          obtain ⟨rx, ry, rw'⟩ := r
          simp only at x0 x1 x2 hwr HNX
          have kk := mulbS (k := rw') (m := k) (K := 20) (M := 20) (by omega) (by omega) (by omega)
          have e3 : IntKind.i64.wrap (rw' * k) = rw' * k := i64_small (by omega) (by omega)
          generalize hL : sclR k (l.take j) = L at hsl HO HS HNX ⊢
          clear hL
          go_upto_region 8 with fail
          have oA := Own.newA wE #[.int .i64 rx, .int .i64 ry, .int .i64 (rw' * k)] 35 (cs := [.int .i64 rx, .int .i64 ry, .int .i64 (rw' * k)]) rfl
          have hbA : Below wE.heap.size wE (wE.alloc (.cells #[.int .i64 rx, .int .i64 ry, .int .i64 (rw' * k)] 35)) := (Below.refl _ _).alloc (Nat.le_refl _) _
          have hbB := ball hbel hbA
          have HO2 := Lib.hid (HO.out.below hbA)
          have hgl := Own.lt oA
          generalize wE.alloc (.cells #[.int .i64 rx, .int .i64 ry, .int .i64 (rw' * k)] 35) = wB at oA hbB HO2 hgl ⊢
          have c0 : wB.cell? ⟨wE.heap.size, 0, none⟩ = some (.int .i64 rx) := oA.cell? rfl
          have c1 : wB.cell? ⟨wE.heap.size, 1, none⟩ = some (.int .i64 ry) := oA.cell? rfl
          have c2 : wB.cell? ⟨wE.heap.size, 2, none⟩ = some (.int .i64 (rw' * k)) := oA.cell? rfl
          have hsz := hbB.size
          clear hbA oA
          go_wp2_with (at_builtin; refine wpList_appY rfl _ _ rfl w.heap.size _ _ L [⟨rx, ry, rw' * k⟩] (L.length + 1) rfl rfl rfl (RowY.alloc' HO2.out) (readsY_one _ _ _ _ _ (by simp)) (by omega) (by simp) (by simp; omega) ?_; intro ad5 cap5 wm hown hsy hbm)
          have hb3 := (bal_alloc (o := .cells #[.int .i64 rx, .int .i64 ry, .int .i64 (rw' * k)] 35) hbB).trans hbm
          rw [← HNX.out] at hown
          have HO3 := Lib.hid hown; clear hown hsy hbm
          go_roundw
          case rel => exact ⟨j + 1, by omega, by go_num, by have := HO3.out; rwa [show L.length + 1 = j + 1 by omega] at this, hb3⟩
          case measure => simp [intOf]; omega

def detB (a b c d : Int) : Bool := decide ((a * d - b * c).natAbs = 1)
def mpsB (a b c d : Int) (l : List Ry) : Bool := (starB l && (allB [a, b, c, d] (-3) 3 && detB a b c d)) && starB (fputs (l.map (mapR a b c d)) [])
theorem four_of {a b c d : Int} (h : allB [a, b, c, d] (-3) 3 = true) : (-3 ≤ a ∧ a ≤ 3) ∧ (-3 ≤ b ∧ b ≤ 3) ∧ (-3 ≤ c ∧ c ≤ 3) ∧ -3 ≤ d ∧ d ≤ 3 := by
  unfold allB inB at h
  simp at h
  omega
theorem map_take {l : List Ry} (a b c d : Int) {j : Nat} (h : j < l.length) : fputs ((l.take (j + 1)).map (mapR a b c d)) [] = putR (mapR a b c d (l.getD j default)) (fputs ((l.take j).map (mapR a b c d)) []) := by
  rw [takeR_snoc l j h, List.map_append, List.map_cons, List.map_nil, fputs_snoc]

set_option maxHeartbeats 3200000 in
set_option maxRecDepth 100000 in
theorem sMapStar_c (ad : Option Addr) (cap : Nat) (l : List Ry) (a b c d : Int) (w : World) (hr : RdY w ad l) (hl : l.length ≤ 1048576) :
    Calls Try.prog 18 #[.slice ad l.length cap, .int .i64 a, .int .i64 b, .int .i64 c, .int .i64 d] w fun e w' => StarR w' e (mpsB a b c d l) (fputs (l.map (mapR a b c d)) []) ∧ Below w.heap.size w w' := by
  have CA := Lib.hid (stGood_c ad cap l w hr hl)
  have CI : ∀ u : World, Calls Try.prog 48 #[.slice (some ⟨u.heap.size, 0, none⟩) 4 4, .int .i64 (-3), .int .i64 3] (u.alloc (.cells #[.int .i64 a, .int .i64 b, .int .i64 c, .int .i64 d] 3)) fun e w' => e = .returned (.bool (allB [a, b, c, d] (-3) 3)) ∧ (u.alloc (.cells #[.int .i64 a, .int .i64 b, .int .i64 c, .int .i64 d] 3)) = w' := fun u => l1All_any _ 4 [a, b, c, d] (-3) 3 _ (by simp) (Own.newA u #[.int .i64 a, .int .i64 b, .int .i64 c, .int .i64 d] 3 (cs := ints [a, b, c, d]) rfl).rd
  have CI := Lib.hid CI
  unfold mpsB
  cases hua : starB l
  · rw [hua] at CA
    clear hua hr
    go_enter Try.func18, Try.ntmps18
    go_wp2_with fail
    refine (CA.out).mono ?_
    rintro e w1 ⟨rfl, hw1⟩
    go_wp2_with fail
    exact bodyPost_ret (v := .tuple #[.slice none 0 0, .bool false]) (by simp [results, Try.results18, go_sem]) rfl ⟨starR_no _ _, hw1⟩
  · rw [hua] at CA
    cases hub : allB [a, b, c, d] (-3) 3
    · rw [hub] at CI
      clear hua hub hr
      go_enter Try.func18, Try.ntmps18
      go_wp2_with fail
      refine (CA.out).mono ?_
      rintro e w1 ⟨rfl, hw1⟩
      go_wp2_with fail
      refine (CI.out _).mono ?_
      rintro e w2 ⟨rfl, rfl⟩
      go_wp2_with fail
      exact bodyPost_ret (v := .tuple #[.slice none 0 0, .bool false]) (by simp [results, Try.results18, go_sem]) rfl ⟨starR_no _ _, bal_alloc hw1⟩
    · rw [hub] at CI
      obtain ⟨ha, hb, hc, hd⟩ := four_of hub
      have m1 := mulbS (k := a) (m := d) (K := 3) (M := 3) (by omega) ha hd
      have m2 := mulbS (k := b) (m := c) (K := 3) (M := 3) (by omega) hb hc
      have z1 : IntKind.i64.wrap (a * d) = a * d := i64_small (by omega) (by omega)
      have z2 : IntKind.i64.wrap (b * c) = b * c := i64_small (by omega) (by omega)
      have z3 : IntKind.i64.wrap (a * d - b * c) = a * d - b * c := i64_small (by omega) (by omega)
      have AX := Lib.hid (fun w => l1AbsW_c (a * d - b * c) w (by omega))
      cases hdet : detB a b c d
      · have hdd : (((a * d - b * c).natAbs : Int) != 1) = true := by
          unfold detB at hdet
          have := of_decide_eq_false hdet
          simp; omega
        generalize ((a * d - b * c).natAbs : Int) = na at AX hdd
        clear hua hub hr hdet m1 m2 ha hb hc hd
        go_enter Try.func18, Try.ntmps18
        go_wp2_with fail
        refine (CA.out).mono ?_
        rintro e w1 ⟨rfl, hw1⟩
        go_wp2_with fail
        refine (CI.out _).mono ?_
        rintro e w2 ⟨rfl, rfl⟩
        go_wp2_with fail
        refine (AX.out _).mono ?_
        rintro e w2 ⟨rfl, rfl⟩
        go_wp2_with fail
        exact bodyPost_ret (v := .tuple #[.slice none 0 0, .bool false]) (by simp [results, Try.results18, go_sem]) rfl ⟨starR_no _ _, bal_alloc hw1⟩
      · have hdd : ((a * d - b * c).natAbs : Int) = 1 := by
          unfold detB at hdet
          have := of_decide_eq_true hdet
          omega
        rw [hdd] at AX
        obtain ⟨la, ya, _⟩ := star_of hua
        have WA : ∀ r ∈ l, ((-20 : Int) ≤ r.w ∧ r.w ≤ 20) ∧ (-20 ≤ r.x ∧ r.x ≤ 20) ∧ -20 ≤ r.y ∧ r.y ≤ 20 := fun r hr => by have := ry_of (ya r hr); omega
        have HWA := Lib.hid WA
        have HR2 := Lib.hid hr
        clear hua hub ya WA hr hdd hdet m1 m2
        simp only [Bool.true_and, Bool.and_true]
        go_enter Try.func18, Try.ntmps18
        go_wp2_with fail
        refine (CA.out).mono ?_
        rintro e w1 ⟨rfl, hw1⟩
        go_wp2_with fail
        refine (CI.out _).mono ?_
        rintro e w2 ⟨rfl, rfl⟩
        go_wp2_with fail
        refine (AX.out _).mono ?_
        rintro e w2 ⟨rfl, rfl⟩
        have hw2 := bal_alloc (o := .cells #[.int .i64 a, .int .i64 b, .int .i64 c, .int .i64 d] 3) hw1
        generalize w1.alloc (.cells #[.int .i64 a, .int .i64 b, .int .i64 c, .int .i64 d] 3) = w2 at hw2 ⊢
        go_wp2_with fail
        go_loopw [12, 40] (fun v i wr => ∃ j : Nat, j ≤ l.length ∧ i = .int .i64 j ∧ RowY wr w.heap.size v (fputs ((l.take j).map (mapR a b c d)) []) ∧ Below w.heap.size w wr) (fun _ i _ => l.length - (intOf i).toNat)
        case atStart => exact ⟨0, Nat.zero_le _, rfl, RowY.nil _ _, hw2⟩
        case round =>
          obtain ⟨wE, rfl⟩ : ∃ x : World, x = wr := ⟨_, rfl⟩
          obtain ⟨j, hj, rfl, hrow, hbel⟩ := hrel
          obtain ⟨adv, cav, rfl, hsy⟩ := hrow.sy
          have HO := Lib.hid hrow; have HS := Lib.hid hsy
          clear hrow hsy
          have hsl := fputs_len ((l.take j).map (mapR a b c d)) []
          rw [List.length_map, List.length_take, List.length_nil] at hsl
          by_cases hlt : j < l.length
          case neg =>
            obtain rfl : j = l.length := by omega
            rw [List.take_length] at HO HS hsl ⊢
            have CI := Lib.hid (stIf_c adv cav (fputs (l.map (mapR a b c d)) []) wE HO.out.rd (by omega))
            obtain ⟨N, hN⟩ : ∃ n, (fputs (l.map (mapR a b c d)) []).length = n := ⟨_, rfl⟩
            rw [hN] at CI ⊢
            have HN := Lib.hid hN; clear hN
            go_wp2_with fail
            refine CI.out.mono ?_
            rintro e w4 ⟨rfl, hw4⟩
            unfold toldV
            cases hz : starB (fputs (l.map (mapR a b c d)) [])
            · go_wp2_with fail
              exact bodyPost_ret (v := .tuple #[.slice none 0 0, .bool false]) (by simp [results, Try.results18, go_sem]) rfl ⟨by rw [hz]; exact starR_no _ _, ball hbel hw4⟩
            · go_wp2_with fail
              exact bodyPost_ret (v := .tuple #[.slice adv N cav, .bool true]) (by simp [results, Try.results18, go_sem]) rfl ⟨⟨adv, cav, by rw [hz, HN.out]; rfl, fun _ => ⟨(HO.out.below hw4).rd, HS.out⟩⟩, ball hbel hw4⟩
          case pos =>
            obtain ⟨bb, off, rfl, hbb, x0, x1, x2⟩ := HR2.out j hlt
            have x0 := bcell hbel hbb x0
            have x1 := bcell hbel hbb x1
            have x2 := bcell hbel hbb x2
            have hnx := map_take a b c d hlt
            have hwr := HWA.out _ (getD_mem hlt)
            have hwf := fputs_w (M := 20) (K := 0) (by omega) (by omega) (b := (l.take j).map (mapR a b c d)) (a := []) (fun r hr => by
              obtain ⟨q, hq, rfl⟩ := List.mem_map.1 hr
              exact (HWA.out q (List.mem_of_mem_take hq)).1) (fun r hr => by cases hr)
            have hwf2 : ∀ r ∈ fputs ((l.take j).map (mapR a b c d)) [], (-1000000000 : Int) ≤ r.w ∧ r.w ≤ 1000000000 := fun r hr => by
              have := hwf r hr
              rw [List.length_map, List.length_take] at this
              omega
            generalize hrr : l.getD j default = r at hnx hwr x0 x1 x2
            clear hrr hwf
            have hbE : bb < wE.heap.size := Nat.lt_of_lt_of_le hbb hbel.size
            have y1 : (0 : Int) ≤ (j : Int) := by omega
            have y2 : (j : Int) < (l.length : Int) := by omega
            obtain ⟨rx, ry, rw'⟩ := r
            simp only at x0 x1 x2 hwr
            have CP := Lib.hid (fun (u : World) (h : Below wE.heap.size wE u) => stPut_c adv cav (fputs ((l.take j).map (mapR a b c d)) []) (mapR a b c d ⟨rx, ry, rw'⟩) u (HO.out.below h).rd HS.out (by omega) hwf2 (by unfold mapR; simp only; omega))
            have HNX := Lib.hid hnx
            clear hnx hwf2
            have k1 := mulbS (k := a) (m := rx) (K := 3) (M := 20) (by omega) ha (by omega)
            have k2 := mulbS (k := b) (m := ry) (K := 3) (M := 20) (by omega) hb (by omega)
            have k3 := mulbS (k := c) (m := rx) (K := 3) (M := 20) (by omega) hc (by omega)
            have k4 := mulbS (k := d) (m := ry) (K := 3) (M := 20) (by omega) hd (by omega)
            have v1 : IntKind.i64.wrap (a * rx) = a * rx := i64_small (by omega) (by omega)
            have v2 : IntKind.i64.wrap (b * ry) = b * ry := i64_small (by omega) (by omega)
            have v3 : IntKind.i64.wrap (c * rx) = c * rx := i64_small (by omega) (by omega)
            have v4 : IntKind.i64.wrap (d * ry) = d * ry := i64_small (by omega) (by omega)
            have v5 : IntKind.i64.wrap (a * rx + b * ry) = a * rx + b * ry := i64_small (by omega) (by omega)
            have v6 : IntKind.i64.wrap (c * rx + d * ry) = c * rx + d * ry := i64_small (by omega) (by omega)
            unfold ryV mapR at CP
            simp only at CP
            obtain ⟨L, hL⟩ : ∃ L, fputs ((l.take j).map (mapR a b c d)) [] = L := ⟨_, rfl⟩
            rw [show (List.map (fun r : Ry => (⟨a * r.x + b * r.y, c * r.x + d * r.y, r.w⟩ : Ry)) (List.take j l)) = (l.take j).map (mapR a b c d) from rfl, hL] at CP
            rw [hL] at HO HS hsl HNX ⊢
            obtain ⟨N, hN⟩ : ∃ n, L.length = n := ⟨_, rfl⟩
            rw [hN] at CP ⊢
            clear hN hsl hL k1 k2 k3 k4 hwr
            go_wp2_with fail
            have hbA : Below wE.heap.size wE (wE.alloc (.cells #[.int .i64 rx, .int .i64 ry, .int .i64 rw'] 35)) := (Below.refl _ _).alloc (Nat.le_refl _) _
            refine (CP.out _ hbA).mono ?_
            rintro e w5 ⟨v7, rfl, hrow5, hw5⟩
            have hrow6 := hrow5.mono (ball hbel hbA).size
            have HR6 := Lib.hid (show RowY w5 w.heap.size v7 (fputs ((l.take (j + 1)).map (mapR a b c d)) []) by rw [HNX.out]; exact hrow6)
            have hb6 := ball (ball hbel hbA) hw5
            clear hrow5 hrow6 hw5
            go_wp2_with fail
            go_roundw
            case rel => exact ⟨j + 1, by omega, by go_num, HR6.out, hb6⟩
            case measure => simp [intOf]; omega

end Go.Proofs.Ytlplodkabeiimaa
