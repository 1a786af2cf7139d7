/-
  The value by the roots: program and reference. Printed by gen_rtV.py.
-/
import Derived.Test.YthkgdiicldiahaaDoorRtU
namespace Go.Proofs.YthkgdiicldiahaaDoor
open Go.RowKit

theorem RowR.setOther {w : World} {B g : Nat} {v : Value} {l : List Rt} {a b : Int} (h : RowR w B v l) (hg : g < B) : RowR (fr2 w g a b) B v l :=
  row_chg (row_chg h (Chg.set g 0 w (.int .i64 a)) hg) (Chg.set g 1 _ (.int .i64 b)) hg
theorem gname {w : World} {g : Nat} {f : Fr} (_ : FrO w g f) : ∃ g', g = g' := ⟨_, rfl⟩
theorem FrO.drew' {w : World} {g : Nat} {f : Fr} (h : FrO w g f) : FrO w.drew g f := h.below (Below.refl _ _).drew
set_option maxHeartbeats 800000 in
theorem poFin_c (n : Int) (w : World) :
    Calls Tryd.prog 46 #[.int .i64 n] w fun e w' => e = .returned (.bool (finB' n)) ∧ w = w' := by
  have c := Lib.hid (fun w => l1In_any n (-1000000) 1000000 w)
  unfold finB'
  generalize inB n (-1000000) 1000000 = u at c ⊢
  go_enter Tryd.func46, Tryd.ntmps46
  go_wp2_with fail
  refine (c.out _).mono ?_
  rintro e w' ⟨rfl, rfl⟩
  go_wp2_with fail
  go_ret
  exact ⟨rfl, rfl⟩
theorem acc_succ (p : List Int) (x : Int) (j : Nat) : accV p x (j + 1) = accV p x j + stepJ (cof p) x (stP p) j := by
  unfold accV
  rw [sumJ]
  omega
set_option maxHeartbeats 12800000 in
set_option maxRecDepth 100000 in
theorem iValueByRoots_c (ad : Option Addr) (cap : Nat) (p : List Int) (x : Int) (w : World) (hr : RdI w ad p) (hl : p.length ≤ 1048576) :
    Calls Tryd.prog 18 #[.slice ad p.length cap, .int .i64 x] w fun e w' => e = .returned (frR ⟨minL (valsF p x), 1⟩ (polyB p && finB' x)) ∧ Below w.heap.size w w' := by
  have c1 := fun w hr => isPoly_c ad cap p w hr hl
  have c2 := fun w => isFinite_c x w
  have hb0 : Below w.heap.size w (w.alloc (.cells #[.int .i64 0, .int .i64 0] 35)) := (Below.refl _ _).alloc (Nat.le_refl _) _
  have o0 := FrO.new w 0 0 rfl
  have HR := Lib.hid hr; clear hr
  have HR0 := Lib.hid (HR.out.below hb0)
  have hff : finB' x = inB x (-1000000) 1000000 := rfl
  rw [hff]
  obtain ⟨u, hu⟩ : ∃ u, polyB p = u := ⟨_, rfl⟩
  obtain ⟨v, hv⟩ : ∃ v, inB x (-1000000) 1000000 = v := ⟨_, rfl⟩
  rw [hu, hv]
  (try unfold finB' at c2)
  rw [hv] at c2
  simp only [hu] at c1
  have C1 := Lib.hid c1; have C2 := Lib.hid c2; clear c1 c2 hff
  cases u
  case false =>
    rw [Bool.false_and, frR_f]
    unfold frV Fr.z
    have HU := Lib.hid hu; have HV := Lib.hid hv; clear hu hv
    go_enter Tryd.func18, Tryd.ntmps18
    go_wp2_with fail
    refine (C1.out _ HR0.out).mono ?_
    rintro e w1 ⟨rfl, rfl⟩
    obtain ⟨x0, x1⟩ := o0.at
    obtain ⟨y0, y1⟩ := o0.fr
    go_wp2_with fail
    exact bodyPost_ret (v := .tuple #[.agg #[.int .i64 0, .int .i64 0], .bool false]) (by simp [results, Tryd.results18, go_sem]) rfl ⟨rfl, hb0⟩
  case true =>
    cases v
    case false =>
      rw [Bool.and_false, frR_f]
      unfold frV Fr.z
      have HU := Lib.hid hu; have HV := Lib.hid hv; clear hu hv
      go_enter Tryd.func18, Tryd.ntmps18
      go_wp2_with fail
      refine (C1.out _ HR0.out).mono ?_
      rintro e w1 ⟨rfl, rfl⟩
      go_wp2_with fail
      refine (C2.out _).mono ?_
      rintro e w1 ⟨rfl, rfl⟩
      obtain ⟨x0, x1⟩ := o0.at
      obtain ⟨y0, y1⟩ := o0.fr
      go_wp2_with fail
      exact bodyPost_ret (v := .tuple #[.agg #[.int .i64 0, .int .i64 0], .bool false]) (by simp [results, Tryd.results18, go_sem]) rfl ⟨rfl, hb0⟩
    case true =>
      rw [Bool.and_self, frR_t]
      have hx := inB_t.1 hv
      have hp := hu
      obtain ⟨hst, htop, hlast, hstb, hsts⟩ := st_facts hp
      obtain ⟨hc1, hc13, hcc, -⟩ := cor_facts hp
      have hrl := rootsP_len p
      have hrf := Lib.hid (root_facts hp).2
      have hab := Lib.hid (fun j h => acc_bd hp hx (j := j) h)
      have hsb := Lib.hid (fun j h => step_bd hp hx (j := j) h)
      have hpl := (polyB_t hp).1
      have ham := acc_min hp hx
      have hst0 := hstb 0 (by omega)
      have htop' := hcc 0 (by omega)
      rw [hlast] at htop'
      have cc := fun w hr => corners_c ad cap p w hr hp
      have cr := fun w hr => roots_c ad cap p w hr hp
      have ha0 : accV p x 0 = cof p ((stP p).getD 0 0) + (((stP p).getLastD 0 : Nat) : Int) * x := by unfold accV sumJ; omega
      have hs0 := hab.out 0 (by omega)
      obtain ⟨R, hR⟩ : ∃ R, minL (valsF p x) = R := ⟨_, rfl⟩
      rw [hR] at ham ⊢
      have HAM := Lib.hid ham
      unfold frV
      have CC := Lib.hid cc; have CR := Lib.hid cr; have HSTS := Lib.hid hsts; have HSTB := Lib.hid hstb
      obtain ⟨d0, hd0⟩ : ∃ d, (stP p).getD 0 0 = d := ⟨_, rfl⟩
      obtain ⟨e0, he0⟩ : ∃ d, (stP p).getLastD 0 = d := ⟨_, rfl⟩
      rw [hd0] at htop hst0 ha0
      rw [he0] at hlast htop' ha0
      clear cc cr hsts hstb hcc ham hu hv hR
      have HU := Lib.hid hp; clear hp
      go_enter Tryd.func18, Tryd.ntmps18
      go_wp2_with fail
      refine (C1.out _ HR0.out).mono ?_
      rintro e w1 ⟨rfl, rfl⟩
      go_wp2_with fail
      refine (C2.out _).mono ?_
      rintro e w1 ⟨rfl, rfl⟩
      go_wp2_with fail
      refine (CC.out _ HR0.out).mono ?_
      rintro e w1 ⟨vC, rfl, hrow, hw1⟩
      obtain ⟨adC, capC, rfl, hrdC⟩ := RowI.shape hrow
      rw [natL_len]
      have o1 := o0.below hw1
      have hb1 := hb0.trans (hw1.mono hb0.size)
      have HR1 := Lib.hid (HR0.out.below hw1)
      obtain ⟨N, hN⟩ : ∃ N, (corP p).length = N := ⟨_, rfl⟩
      obtain ⟨bC, offC, rfl, hbC, k1⟩ := hrdC ((corP p).length - 1) (by rw [natL_len]; omega)
      have k2 := hrdC.at (j := 0) (by rw [natL_len]; omega)
      rw [natL_getD (by omega), htop] at k1
      rw [natL_getD (by omega), hlast, Nat.add_zero] at k2
      obtain ⟨b, off, rfl, hb, k3⟩ := HR1.out d0 hst0.1
      rw [show p.getD d0 0 = cof p d0 from rfl] at k3
      have s0 := hst0.2
      obtain ⟨V, hV⟩ : ∃ V, cof p d0 = V := ⟨_, rfl⟩
      rw [hV] at k3 s0 ha0
      obtain ⟨m, hm⟩ : ∃ m, N = m + 1 := ⟨N - 1, by omega⟩
      rw [hN] at hst hrl hc1 hc13 k1 ⊢
      rw [show N - 1 = m by omega] at k1
      have hex := mulbF (K := 13) (M := 1000000) (k := (e0 : Int)) (m := x) (by omega) (by omega) hx
      have f1 : (N : Int) - 1 = (m : Int) := by omega
      have f2 : IntKind.i64.wrap (m : Int) = (m : Int) := i64_small (by omega) (by omega)
      have f3 : (0 : Int) ≤ (m : Int) := by omega
      have f4 : (m : Int) < (N : Int) := by omega
      have f5 : (0 : Int) ≤ (d0 : Int) := by omega
      have f6 : (d0 : Int) < (p.length : Int) := by have := hst0.1; omega
      have f7 : (0 : Int) < (N : Int) := by omega
      have f7' : 0 < N := by omega
      have f8 : IntKind.i64.wrap ((e0 : Int) * x) = (e0 : Int) * x := i64_small (by omega) (by omega)
      obtain ⟨EX, hEX⟩ : ∃ EX, (e0 : Int) * x = EX := ⟨_, rfl⟩
      have f9 := f8.trans hEX
      rw [hEX] at ha0 hex
      have f10 : IntKind.i64.wrap (V + EX) = accV p x 0 := by rw [ha0]; exact i64_small (by omega) (by omega)
      obtain ⟨A0, hA0⟩ : ∃ A, accV p x 0 = A := ⟨_, rfl⟩
      rw [hA0] at f10 hs0
      have HA0 := Lib.hid hA0
      have CW := Lib.hid (fun w => whole_c A0 w)
      have hrl' : (rootsP p).length = m := by omega
      have HRL := Lib.hid hrl'
      have HSL := Lib.hid (show (stP p).length = m + 1 by omega)
      have hbR := Below.refl w1.heap.size w1
      have hm12 : m ≤ 12 := by omega
      clear f8 hEX ha0 hA0 hrow hrdC hw1 o0 hb0 hN hm hst hrl htop hlast htop' hst0 hd0 he0 hV hrl' hc1 hc13 C1 C2 CC HR0
      go_wp2_with fail
      go_region_held3 (fun w' => w'.cell? ⟨bC, offC + m, none⟩ = some (.int .i64 (d0 : Int)) ∧ w'.cell? ⟨bC, offC, none⟩ = some (.int .i64 (e0 : Int)) ∧ w'.cell? ⟨b, off + d0, none⟩ = some (.int .i64 V)) (with_reducible repeat' (first | apply And.intro | assumption | (refine cell_set' (Nat.ne_of_lt (Nat.lt_of_lt_of_le hbC oA1.2)) ?_) | (refine cell_set' (Nat.ne_of_lt (Nat.lt_of_lt_of_le hb oA1.2)) ?_) | apply cell_alloc' | apply cell_drew'))
        (first
          | (go_at_call 42; (with_reducible refine (CW.out _).mono ?_); rintro e W1 ⟨rfl, hwK1⟩; have hbK1 : Below w1.heap.size w1 W1 := ball (by with_reducible repeat (first | exact hbR | apply Below.drew | apply bal_alloc)) hwK1; (try (have oA1 : FrO W1 w1.heap.size ⟨0, 0⟩ ∧ w1.heap.size ≤ w1.heap.size := ⟨FrO.below (by first | exact FrO.new w1 0 0 rfl | exact FrO.drew' (FrO.new w1 0 0 rfl) | exact FrO.new w1.drew 0 0 rfl) hwK1, Nat.le_refl _⟩)); (try (obtain ⟨x0, x1⟩ := oA1.1.at; obtain ⟨z0, z1⟩ := oA1.1.fr)); have y1_0 := bcell hbK1 hbC k1; have y1_1 := bcell hbK1 hbC k2; have y1_2 := bcell hbK1 hb k3))
      all_goals
        first
          | (have oB := FrO.set oA1.1 (A0) (1)
             have hbZ := fr2_below (u := w1) (a := (A0)) (b := (1)) hbK1 oA1.2
             have hgB := oA1.2
             unfold fr2 at oB hbZ
             generalize hWZ : World.setCell _ ⟨_, 1, none⟩ (.int .i64 (1)) = wZ at oB hbZ ⊢
             clear hWZ)
          | (have oB := FrO.new W1 (A0) (1) rfl
             have hbZ := bal_alloc (o := (.cells #[.int .i64 A0, .int .i64 1] 35)) hbK1
             have hgB := hbK1.size
             generalize W1.alloc (.cells #[.int .i64 A0, .int .i64 1] 35) = wZ at oB hbZ ⊢)
        have hb2 := hb1.trans (hbZ.mono hb1.size)
        have o2 := o1.below hbZ
        have HR2 := Lib.hid (HR1.out.below hbZ)
        have hnz := hbZ.size
        obtain ⟨g7, hg7⟩ := gname oB
        have hgB2 : w1.heap.size ≤ g7 := Nat.le_trans hgB (Nat.le_of_eq hg7)
        rw [hg7] at oB ⊢
        clear hg7 hgB
        have hB7 := oB.lt
        have hG0 := o1.lt
        have hne : w.heap.size ≠ g7 := by omega
        have hgw : w.heap.size ≤ g7 := by omega
        clear o1 hbR
        go_wp2_with fail
        refine (CR.out _ HR2.out).mono ?_
        rintro e wS ⟨vS, rfl, hrow, hbS⟩
        obtain ⟨adS, capS, rfl, -, -⟩ := hrow.shape
        rw [HRL.out]
        have oS0 := o2.below hbS
        have oS7 := oB.below hbS
        have hbS0 := hb2.trans (hbS.mono hb2.size)
        have hS7 := Nat.lt_of_lt_of_le hB7 hbS.size
        have HRW := Lib.hid hrow
        rw [← HA0.out] at oS7
        clear hrow hbS hb2 o2 oB hbZ
        go_wp2_with fail
        go_loopw [8, 43] (fun bv i wr => ∃ j : Nat, j ≤ m ∧ bv = .bool true ∧ i = .int .i64 j ∧ FrO wr w.heap.size ⟨0, 0⟩ ∧ FrO wr g7 ⟨accV p x j, 1⟩ ∧ RowR wr wZ.heap.size (.slice adS (rootsP p).length capS) (rootsP p) ∧ Below w.heap.size w wr) (fun _ i _ => m - (intOf i).toNat)
        case atStart => exact ⟨0, Nat.zero_le _, rfl, rfl, oS0, oS7, HRW.out, hbS0⟩
        case round =>
          obtain ⟨wE, rfl⟩ : ∃ y : World, y = wr := ⟨_, rfl⟩
          obtain ⟨j, hj, rfl, rfl, hO0, hO7, hrow, hbw⟩ := hrel
          clear oS0 oS7 HRW hbS0 hS7
          by_cases hlt : j < m
          case neg =>
            obtain rfl : j = m := by omega
            have hfin : accV p x j = R := by have h := HAM.out; rw [HSL.out] at h; exact h
            rw [hfin] at hO7
            obtain ⟨x0, x1⟩ := hO7.at
            obtain ⟨y0, y1⟩ := hO0.at
            obtain ⟨z0, z1⟩ := hO0.fr
            go_wp2_with fail
            obtain ⟨W, hW, ⟨q0, q1⟩, hB⟩ := fr2_end (a := R) (b := 1) hO0 hbw (Nat.le_refl _)
            unfold fr2 at hW
            rw [hW]
            exact bodyPost_ret (v := .tuple #[.agg #[.int .i64 R, .int .i64 1], .bool true]) (by simp [results, Tryd.results18, go_sem, q0, q1]) rfl ⟨rfl, hB⟩
          case pos =>
            have hjl : j < (rootsP p).length := by have := HRL.out; omega
            have hst := HSTS.out j (by have := HSL.out; omega)
            have hu1 := HSTB.out (j + 1) (by have := HSL.out; omega)
            have hu2 := HSTB.out j (by have := HSL.out; omega)
            have hA := hab.out j (by have := HSL.out; omega)
            have hA' := hab.out (j + 1) (by have := HSL.out; omega)
            have hS := hsb.out j (by have := HSL.out; omega)
            have has := acc_succ p x j
            have hrF := (hrf.out j hjl).1
            obtain ⟨bR, offR, rfl, hbR, c0, c1, c2⟩ := hrow.rd j hjl
            have hsd : stepJ (cof p) x (stP p) j = min (cof p ((stP p).getD (j + 1) 0) - cof p ((stP p).getD j 0)) (x * (((stP p).getD j 0 : Int) - ((stP p).getD (j + 1) 0 : Int))) := rfl
            rw [hst.2] at c0 c1 c2 hrF
            unfold rootOf at c0 c1 c2 hrF
            simp only at c0 c1 c2 hrF
            obtain ⟨i, hi⟩ : ∃ i, (stP p).getD (j + 1) 0 = i := ⟨_, rfl⟩
            obtain ⟨k, hk⟩ : ∃ k, (stP p).getD j 0 = k := ⟨_, rfl⟩
            rw [hi, hk] at hst c0 c1 c2 hrF hsd
            rw [hi] at hu1
            rw [hk] at hu2
            have hk13 := hpl.2
            obtain ⟨L, hLe, hLg, hLm, hLv⟩ := step_frac (n := cof p i - cof p k) (k := (k : Int) - (i : Int)) (x := x) (by omega) (by omega) hx hrF
            rw [← hsd] at hLv
            obtain ⟨T, hT⟩ : ∃ T, (k : Int) - (i : Int) = T := ⟨_, rfl⟩
            rw [hT] at c2 hLm hLv c0 c1 hrF hLe
            have hTb : 1 ≤ T ∧ T ≤ 13 := by omega
            obtain ⟨ST, hST⟩ : ∃ T, stepJ (cof p) x (stP p) j = T := ⟨_, rfl⟩
            rw [hST] at hLv hS has
            obtain ⟨AA, hAA⟩ : ∃ T, accV p x j = T := ⟨_, rfl⟩
            rw [hAA] at hO7 has hA
            rw [has] at hA'
            have HAS := Lib.hid has
            clear has hsd hst hu1 hu2 hi hk hST hAA
            have cw := fun w => whole_c T w
            have cx := fun w => whole_c x w
            generalize lowF (cof p i - cof p k) T = F at *
            have cl := fun w => lesser_c F ⟨x, 1⟩ w hrF (frB_one (by omega))
            rw [hLe] at cl
            have cm := fun w => iMultiplyFracs_c ⟨T, 1⟩ L w
            simp only [hLm, hLv, frR_t] at cm
            have ca := fun w => iAddFracs1_c AA ST w (by omega) (by omega)
            obtain ⟨X, Y⟩ := F
            obtain ⟨LN, LD⟩ := L
            unfold frV at cl cm
            simp only at cl cm c0 c1 c2
            have CW1 := Lib.hid cw; have CX := Lib.hid cx; have CL := Lib.hid cl; have CM := Lib.hid cm; have CA := Lib.hid ca
            have f1 : (0 : Int) ≤ (j : Int) := by omega
            have f2 : (j : Int) < (m : Int) := by omega
            have f3 : IntKind.i64.wrap ((j : Int) + 1) = ((j + 1 : Nat) : Int) := by rw [i64_small (by omega) (by omega)]; omega
            have hrN : (rootsP p).length = m := HRL.out
            clear cw cx cl cm ca hLe hLm hLv hLg hrF hA hA' hS hpl
            rw [hrN] at hrow
            obtain ⟨x0, x1⟩ := hO7.at
            have ho7 := hO7.alloc (.cells #[.int .i64 X, .int .i64 Y, .int .i64 T] 37)
            have ho0 := hO0.alloc (.cells #[.int .i64 X, .int .i64 Y, .int .i64 T] 37)
            have hrw := Lib.hid (RowR.alloc' (o := (.cells #[.int .i64 X, .int .i64 Y, .int .i64 T] 37)) hrow)
            have hbA := hbw.alloc hbw.size (.cells #[.int .i64 X, .int .i64 Y, .int .i64 T] 37)
            go_wp2_with fail
            have n10 : wE.heap.size < (wE.alloc (.cells #[.int .i64 X, .int .i64 Y, .int .i64 T] 37)).heap.size := by simp
            have q0 : (wE.alloc (.cells #[.int .i64 X, .int .i64 Y, .int .i64 T] 37)).cell? ⟨wE.heap.size, 0, none⟩ = some (.int .i64 X) := Own.cell? (Own.newA wE #[.int .i64 X, .int .i64 Y, .int .i64 T] 37 (cs := [.int .i64 X, .int .i64 Y, .int .i64 T]) rfl) rfl
            have q1 : (wE.alloc (.cells #[.int .i64 X, .int .i64 Y, .int .i64 T] 37)).cell? ⟨wE.heap.size, 1, none⟩ = some (.int .i64 Y) := Own.cell? (Own.newA wE #[.int .i64 X, .int .i64 Y, .int .i64 T] 37 (cs := [.int .i64 X, .int .i64 Y, .int .i64 T]) rfl) rfl
            have q2 : (wE.alloc (.cells #[.int .i64 X, .int .i64 Y, .int .i64 T] 37)).cell? ⟨wE.heap.size, 2, none⟩ = some (.int .i64 T) := Own.cell? (Own.newA wE #[.int .i64 X, .int .i64 Y, .int .i64 T] 37 (cs := [.int .i64 X, .int .i64 Y, .int .i64 T]) rfl) rfl
            generalize wE.alloc (.cells #[.int .i64 X, .int .i64 Y, .int .i64 T] 37) = wG at ho7 ho0 hrw hbA n10 q0 q1 q2 ⊢
            generalize wE.heap.size = g10 at n10 q0 q1 q2 ⊢
            clear hO7 hO0 hrow x0 x1 hbw c0 c1 c2
            have hbR := Below.refl wG.heap.size wG
            go_region_held3 (fun w' => w'.cell? ⟨g10, 0, none⟩ = some (.int .i64 X) ∧ w'.cell? ⟨g10, 1, none⟩ = some (.int .i64 Y) ∧ w'.cell? ⟨g10, 2, none⟩ = some (.int .i64 T)) (with_reducible repeat' (first | apply And.intro | assumption | (refine cell_set' (Nat.ne_of_lt (Nat.lt_of_lt_of_le n10 oA4.2)) ?_) | apply cell_alloc' | apply cell_drew'))
              (first
                | (go_at_call 42; (with_reducible refine (CW1.out _).mono ?_); rintro e W1 ⟨rfl, hwK1⟩; have hbK1 : Below wG.heap.size wG W1 := ball (by with_reducible repeat (first | exact hbR | apply Below.drew | apply bal_alloc)) hwK1; (try (have oA1 : FrO W1 wG.heap.size ⟨0, 0⟩ ∧ wG.heap.size ≤ wG.heap.size := ⟨FrO.below (by first | exact FrO.new wG 0 0 rfl | exact FrO.drew' (FrO.new wG 0 0 rfl) | exact FrO.new wG.drew 0 0 rfl) hwK1, Nat.le_refl _⟩)); have y1_0 := bcell hbK1 n10 q0; have y1_1 := bcell hbK1 n10 q1; have y1_2 := bcell hbK1 n10 q2)
                | (go_at_call 42; (with_reducible refine (CX.out _).mono ?_); rintro e W2 ⟨rfl, hwK2⟩; have hbK2 : Below wG.heap.size wG W2 := ball (by with_reducible repeat (first | exact hbK1 | apply Below.drew | apply bal_alloc)) hwK2; (try (have oA2 : FrO W2 W1.heap.size ⟨0, 0⟩ ∧ wG.heap.size ≤ W1.heap.size := ⟨FrO.below (by first | exact FrO.new W1 0 0 rfl | exact FrO.drew' (FrO.new W1 0 0 rfl) | exact FrO.new W1.drew 0 0 rfl) hwK2, hbK1.size⟩)); (try (have oA2 := And.intro (FrO.below (by first | exact oA1.1 | exact FrO.drew' oA1.1) hwK2) oA1.2)); have y2_0 := bcell hbK2 n10 q0; have y2_1 := bcell hbK2 n10 q1; have y2_2 := bcell hbK2 n10 q2)
                | (go_at_call 44; (with_reducible refine (CL.out _).mono ?_); rintro e W3 ⟨rfl, hwK3⟩; have hbK3 : Below wG.heap.size wG W3 := ball (by with_reducible repeat (first | exact hbK2 | apply Below.drew | apply bal_alloc)) hwK3; (try (have oA3 : FrO W3 W2.heap.size ⟨0, 0⟩ ∧ wG.heap.size ≤ W2.heap.size := ⟨FrO.below (by first | exact FrO.new W2 0 0 rfl | exact FrO.drew' (FrO.new W2 0 0 rfl) | exact FrO.new W2.drew 0 0 rfl) hwK3, hbK2.size⟩)); (try (have oA3 := And.intro (FrO.below (by first | exact oA2.1 | exact FrO.drew' oA2.1) hwK3) oA2.2)); have y3_0 := bcell hbK3 n10 q0; have y3_1 := bcell hbK3 n10 q1; have y3_2 := bcell hbK3 n10 q2)
                | (go_at_call 43; (with_reducible refine (CM.out _).mono ?_); rintro e W4 ⟨rfl, hwK4⟩; have hbK4 : Below wG.heap.size wG W4 := ball (by with_reducible repeat (first | exact hbK3 | apply Below.drew | apply bal_alloc)) hwK4; (try (have oA4 : FrO W4 W3.heap.size ⟨0, 0⟩ ∧ wG.heap.size ≤ W3.heap.size := ⟨FrO.below (by first | exact FrO.new W3 0 0 rfl | exact FrO.drew' (FrO.new W3 0 0 rfl) | exact FrO.new W3.drew 0 0 rfl) hwK4, hbK3.size⟩)); (try (have oA4 := And.intro (FrO.below (by first | exact oA3.1 | exact FrO.drew' oA3.1) hwK4) oA3.2)); (try (obtain ⟨x0, x1⟩ := oA4.1.at; obtain ⟨z0, z1⟩ := oA4.1.fr)); have y4_0 := bcell hbK4 n10 q0; have y4_1 := bcell hbK4 n10 q1; have y4_2 := bcell hbK4 n10 q2))
            all_goals
              first
                | (have oB := FrO.set oA4.1 (ST) (1)
                   have hbZ := fr2_below (u := wG) (a := (ST)) (b := (1)) hbK4 oA4.2
                   have hgB := oA4.2
                   unfold fr2 at oB hbZ
                   generalize hWZ : World.setCell _ ⟨_, 1, none⟩ (.int .i64 (1)) = wH at oB hbZ ⊢
                   clear hWZ)
                | (have oB := FrO.new W4 (ST) (1) rfl
                   have hbZ := bal_alloc (o := (.cells #[.int .i64 ST, .int .i64 1] 35)) hbK4
                   have hgB := hbK4.size
                   generalize W4.alloc (.cells #[.int .i64 ST, .int .i64 1] 35) = wH at oB hbZ ⊢)
              have o7 := ho7.below hbZ
              have o0 := ho0.below hbZ
              have HRZ := Lib.hid (RowR.below hrw.out hbZ)
              have hbB := hbA.trans (hbZ.mono hbA.size)
              obtain ⟨x0, x1⟩ := o7.at
              obtain ⟨y0, y1⟩ := oB.at
              go_wp2_with fail
              refine (CA.out _).mono ?_
              rintro e w5 ⟨rfl, hw5⟩
              have p7 := o7.below hw5
              have p0 := o0.below hw5
              have HR5 := Lib.hid (RowR.below HRZ.out hw5)
              have hb5 := ball hbB hw5
              clear x0 x1 y0 y1
              obtain ⟨x0, x1⟩ := p7.at
              obtain ⟨z0, z1⟩ := p7.fr
              go_wp2_with fail
              go_roundw
              case rel => exact ⟨j + 1, by omega, rfl, rfl, p0.setOther hne _ _, by rw [HAS.out]; exact p7.set _ _, by rw [hrN]; exact RowR.setOther HR5.out hB7, fr2_below hb5 hgw⟩
              case measure => (simp [intOf]; omega)
set_option maxHeartbeats 12800000 in
set_option maxRecDepth 100000 in
theorem ValueByRoots_c (ad : Option Addr) (cap : Nat) (p : List Int) (x : Int) (w : World) (hr : RdI w ad p) (hl : p.length ≤ 1048576) :
    Calls Tryd.prog 19 #[.slice ad p.length cap, .int .i64 x] w fun e w' => e = .returned (frR ⟨minL (valsF p x), 1⟩ (polyB p && finB' x)) ∧ Below w.heap.size w w' := by
  have c1 := fun w hr => poGood_c ad cap p w hr hl
  have c2 := fun w => poFin_c x w
  have hb0 : Below w.heap.size w (w.alloc (.cells #[.int .i64 0, .int .i64 0] 35)) := (Below.refl _ _).alloc (Nat.le_refl _) _
  have o0 := FrO.new w 0 0 rfl
  have HR := Lib.hid hr; clear hr
  have HR0 := Lib.hid (HR.out.below hb0)
  have hff : finB' x = inB x (-1000000) 1000000 := rfl
  rw [hff]
  obtain ⟨u, hu⟩ : ∃ u, polyB p = u := ⟨_, rfl⟩
  obtain ⟨v, hv⟩ : ∃ v, inB x (-1000000) 1000000 = v := ⟨_, rfl⟩
  rw [hu, hv]
  (try unfold finB' at c2)
  rw [hv] at c2
  simp only [hu] at c1
  have C1 := Lib.hid c1; have C2 := Lib.hid c2; clear c1 c2 hff
  cases u
  case false =>
    rw [Bool.false_and, frR_f]
    unfold frV Fr.z
    have HU := Lib.hid hu; have HV := Lib.hid hv; clear hu hv
    go_enter Tryd.func19, Tryd.ntmps19
    go_wp2_with fail
    refine (C1.out _ HR0.out).mono ?_
    rintro e w1 ⟨rfl, rfl⟩
    obtain ⟨x0, x1⟩ := o0.at
    obtain ⟨y0, y1⟩ := o0.fr
    go_wp2_with fail
    exact bodyPost_ret (v := .tuple #[.agg #[.int .i64 0, .int .i64 0], .bool false]) (by simp [results, Tryd.results19, go_sem]) rfl ⟨rfl, hb0⟩
  case true =>
    cases v
    case false =>
      rw [Bool.and_false, frR_f]
      unfold frV Fr.z
      have HU := Lib.hid hu; have HV := Lib.hid hv; clear hu hv
      go_enter Tryd.func19, Tryd.ntmps19
      go_wp2_with fail
      refine (C1.out _ HR0.out).mono ?_
      rintro e w1 ⟨rfl, rfl⟩
      go_wp2_with fail
      refine (C2.out _).mono ?_
      rintro e w1 ⟨rfl, rfl⟩
      obtain ⟨x0, x1⟩ := o0.at
      obtain ⟨y0, y1⟩ := o0.fr
      go_wp2_with fail
      exact bodyPost_ret (v := .tuple #[.agg #[.int .i64 0, .int .i64 0], .bool false]) (by simp [results, Tryd.results19, go_sem]) rfl ⟨rfl, hb0⟩
    case true =>
      rw [Bool.and_self, frR_t]
      have hx := inB_t.1 hv
      have hp := hu
      obtain ⟨hst, htop, hlast, hstb, hsts⟩ := st_facts hp
      obtain ⟨hc1, hc13, hcc, -⟩ := cor_facts hp
      have hrl := rootsP_len p
      have hrf := Lib.hid (root_facts hp).2
      have hab := Lib.hid (fun j h => acc_bd hp hx (j := j) h)
      have hsb := Lib.hid (fun j h => step_bd hp hx (j := j) h)
      have hpl := (polyB_t hp).1
      have ham := acc_min hp hx
      have hst0 := hstb 0 (by omega)
      have htop' := hcc 0 (by omega)
      rw [hlast] at htop'
      have cc := fun w hr => rtCorners_c ad cap p w hr hp
      have cr := fun w hr => rtRoots_c ad cap p w hr hp
      have ha0 : accV p x 0 = cof p ((stP p).getD 0 0) + (((stP p).getLastD 0 : Nat) : Int) * x := by unfold accV sumJ; omega
      have hs0 := hab.out 0 (by omega)
      obtain ⟨R, hR⟩ : ∃ R, minL (valsF p x) = R := ⟨_, rfl⟩
      rw [hR] at ham ⊢
      have HAM := Lib.hid ham
      unfold frV
      have CC := Lib.hid cc; have CR := Lib.hid cr; have HSTS := Lib.hid hsts; have HSTB := Lib.hid hstb
      obtain ⟨d0, hd0⟩ : ∃ d, (stP p).getD 0 0 = d := ⟨_, rfl⟩
      obtain ⟨e0, he0⟩ : ∃ d, (stP p).getLastD 0 = d := ⟨_, rfl⟩
      rw [hd0] at htop hst0 ha0
      rw [he0] at hlast htop' ha0
      clear cc cr hsts hstb hcc ham hu hv hR
      have HU := Lib.hid hp; clear hp
      go_enter Tryd.func19, Tryd.ntmps19
      go_wp2_with fail
      refine (C1.out _ HR0.out).mono ?_
      rintro e w1 ⟨rfl, rfl⟩
      go_wp2_with fail
      refine (C2.out _).mono ?_
      rintro e w1 ⟨rfl, rfl⟩
      go_wp2_with fail
      refine (CC.out _ HR0.out).mono ?_
      rintro e w1 ⟨vC, rfl, hrow, hw1⟩
      obtain ⟨adC, capC, rfl, hrdC⟩ := RowI.shape hrow
      rw [natL_len]
      have o1 := o0.below hw1
      have hb1 := hb0.trans (hw1.mono hb0.size)
      have HR1 := Lib.hid (HR0.out.below hw1)
      obtain ⟨N, hN⟩ : ∃ N, (corP p).length = N := ⟨_, rfl⟩
      obtain ⟨bC, offC, rfl, hbC, k1⟩ := hrdC ((corP p).length - 1) (by rw [natL_len]; omega)
      have k2 := hrdC.at (j := 0) (by rw [natL_len]; omega)
      rw [natL_getD (by omega), htop] at k1
      rw [natL_getD (by omega), hlast, Nat.add_zero] at k2
      obtain ⟨b, off, rfl, hb, k3⟩ := HR1.out d0 hst0.1
      rw [show p.getD d0 0 = cof p d0 from rfl] at k3
      have s0 := hst0.2
      obtain ⟨V, hV⟩ : ∃ V, cof p d0 = V := ⟨_, rfl⟩
      rw [hV] at k3 s0 ha0
      obtain ⟨m, hm⟩ : ∃ m, N = m + 1 := ⟨N - 1, by omega⟩
      rw [hN] at hst hrl hc1 hc13 k1 ⊢
      rw [show N - 1 = m by omega] at k1
      have hex := mulbF (K := 13) (M := 1000000) (k := (e0 : Int)) (m := x) (by omega) (by omega) hx
      have f1 : (N : Int) - 1 = (m : Int) := by omega
      have f2 : IntKind.i64.wrap (m : Int) = (m : Int) := i64_small (by omega) (by omega)
      have f3 : (0 : Int) ≤ (m : Int) := by omega
      have f4 : (m : Int) < (N : Int) := by omega
      have f5 : (0 : Int) ≤ (d0 : Int) := by omega
      have f6 : (d0 : Int) < (p.length : Int) := by have := hst0.1; omega
      have f7 : (0 : Int) < (N : Int) := by omega
      have f7' : 0 < N := by omega
      have f8 : IntKind.i64.wrap ((e0 : Int) * x) = (e0 : Int) * x := i64_small (by omega) (by omega)
      obtain ⟨EX, hEX⟩ : ∃ EX, (e0 : Int) * x = EX := ⟨_, rfl⟩
      have f9 := f8.trans hEX
      rw [hEX] at ha0 hex
      have f10 : IntKind.i64.wrap (V + EX) = accV p x 0 := by rw [ha0]; exact i64_small (by omega) (by omega)
      obtain ⟨A0, hA0⟩ : ∃ A, accV p x 0 = A := ⟨_, rfl⟩
      rw [hA0] at f10 hs0
      have HA0 := Lib.hid hA0
      have CW := Lib.hid (fun w => frInt_c A0 w)
      have hrl' : (rootsP p).length = m := by omega
      have HRL := Lib.hid hrl'
      have HSL := Lib.hid (show (stP p).length = m + 1 by omega)
      have hbR := Below.refl w1.heap.size w1
      have hm12 : m ≤ 12 := by omega
      clear f8 hEX ha0 hA0 hrow hrdC hw1 o0 hb0 hN hm hst hrl htop hlast htop' hst0 hd0 he0 hV hrl' hc1 hc13 C1 C2 CC HR0
      go_wp2_with fail
      go_region_held3 (fun w' => w'.cell? ⟨bC, offC + m, none⟩ = some (.int .i64 (d0 : Int)) ∧ w'.cell? ⟨bC, offC, none⟩ = some (.int .i64 (e0 : Int)) ∧ w'.cell? ⟨b, off + d0, none⟩ = some (.int .i64 V)) (with_reducible repeat' (first | apply And.intro | assumption | (refine cell_set' (Nat.ne_of_lt (Nat.lt_of_lt_of_le hbC oA1.2)) ?_) | (refine cell_set' (Nat.ne_of_lt (Nat.lt_of_lt_of_le hb oA1.2)) ?_) | apply cell_alloc' | apply cell_drew'))
        (first
          | (go_at_call 47; (with_reducible refine (CW.out _).mono ?_); rintro e W1 ⟨rfl, hwK1⟩; have hbK1 : Below w1.heap.size w1 W1 := ball (by with_reducible repeat (first | exact hbR | apply Below.drew | apply bal_alloc)) hwK1; (try (have oA1 : FrO W1 w1.heap.size ⟨0, 0⟩ ∧ w1.heap.size ≤ w1.heap.size := ⟨FrO.below (by first | exact FrO.new w1 0 0 rfl | exact FrO.drew' (FrO.new w1 0 0 rfl) | exact FrO.new w1.drew 0 0 rfl) hwK1, Nat.le_refl _⟩)); (try (obtain ⟨x0, x1⟩ := oA1.1.at; obtain ⟨z0, z1⟩ := oA1.1.fr)); have y1_0 := bcell hbK1 hbC k1; have y1_1 := bcell hbK1 hbC k2; have y1_2 := bcell hbK1 hb k3))
      all_goals
        first
          | (have oB := FrO.set oA1.1 (A0) (1)
             have hbZ := fr2_below (u := w1) (a := (A0)) (b := (1)) hbK1 oA1.2
             have hgB := oA1.2
             unfold fr2 at oB hbZ
             generalize hWZ : World.setCell _ ⟨_, 1, none⟩ (.int .i64 (1)) = wZ at oB hbZ ⊢
             clear hWZ)
          | (have oB := FrO.new W1 (A0) (1) rfl
             have hbZ := bal_alloc (o := (.cells #[.int .i64 A0, .int .i64 1] 35)) hbK1
             have hgB := hbK1.size
             generalize W1.alloc (.cells #[.int .i64 A0, .int .i64 1] 35) = wZ at oB hbZ ⊢)
        have hb2 := hb1.trans (hbZ.mono hb1.size)
        have o2 := o1.below hbZ
        have HR2 := Lib.hid (HR1.out.below hbZ)
        have hnz := hbZ.size
        obtain ⟨g7, hg7⟩ := gname oB
        have hgB2 : w1.heap.size ≤ g7 := Nat.le_trans hgB (Nat.le_of_eq hg7)
        rw [hg7] at oB ⊢
        clear hg7 hgB
        have hB7 := oB.lt
        have hG0 := o1.lt
        have hne : w.heap.size ≠ g7 := by omega
        have hgw : w.heap.size ≤ g7 := by omega
        clear o1 hbR
        go_wp2_with fail
        refine (CR.out _ HR2.out).mono ?_
        rintro e wS ⟨vS, rfl, hrow, hbS⟩
        obtain ⟨adS, capS, rfl, -, -⟩ := hrow.shape
        rw [HRL.out]
        have oS0 := o2.below hbS
        have oS7 := oB.below hbS
        have hbS0 := hb2.trans (hbS.mono hb2.size)
        have hS7 := Nat.lt_of_lt_of_le hB7 hbS.size
        have HRW := Lib.hid hrow
        rw [← HA0.out] at oS7
        clear hrow hbS hb2 o2 oB hbZ
        go_wp2_with fail
        go_loopw [45] (fun i wr => ∃ j : Nat, j ≤ m ∧ i = .int .i64 j ∧ FrO wr w.heap.size ⟨0, 0⟩ ∧ FrO wr g7 ⟨accV p x j, 1⟩ ∧ RowR wr wZ.heap.size (.slice adS (rootsP p).length capS) (rootsP p) ∧ Below w.heap.size w wr) (fun i _ => m - (intOf i).toNat)
        case atStart => exact ⟨0, Nat.zero_le _, rfl, oS0, oS7, HRW.out, hbS0⟩
        case round =>
          obtain ⟨wE, rfl⟩ : ∃ y : World, y = wr := ⟨_, rfl⟩
          obtain ⟨j, hj, rfl, hO0, hO7, hrow, hbw⟩ := hrel
          clear oS0 oS7 HRW hbS0 hS7
          by_cases hlt : j < m
          case neg =>
            obtain rfl : j = m := by omega
            have hfin : accV p x j = R := by have h := HAM.out; rw [HSL.out] at h; exact h
            rw [hfin] at hO7
            obtain ⟨x0, x1⟩ := hO7.at
            obtain ⟨y0, y1⟩ := hO0.at
            obtain ⟨z0, z1⟩ := hO0.fr
            go_wp2_with fail
            obtain ⟨W, hW, ⟨q0, q1⟩, hB⟩ := fr2_end (a := R) (b := 1) hO0 hbw (Nat.le_refl _)
            unfold fr2 at hW
            rw [hW]
            exact bodyPost_ret (v := .tuple #[.agg #[.int .i64 R, .int .i64 1], .bool true]) (by simp [results, Tryd.results19, go_sem, q0, q1]) rfl ⟨rfl, hB⟩
          case pos =>
            have hjl : j < (rootsP p).length := by have := HRL.out; omega
            have hst := HSTS.out j (by have := HSL.out; omega)
            have hu1 := HSTB.out (j + 1) (by have := HSL.out; omega)
            have hu2 := HSTB.out j (by have := HSL.out; omega)
            have hA := hab.out j (by have := HSL.out; omega)
            have hA' := hab.out (j + 1) (by have := HSL.out; omega)
            have hS := hsb.out j (by have := HSL.out; omega)
            have has := acc_succ p x j
            have hrF := (hrf.out j hjl).1
            obtain ⟨bR, offR, rfl, hbR, c0, c1, c2⟩ := hrow.rd j hjl
            have hsd : stepJ (cof p) x (stP p) j = min (cof p ((stP p).getD (j + 1) 0) - cof p ((stP p).getD j 0)) (x * (((stP p).getD j 0 : Int) - ((stP p).getD (j + 1) 0 : Int))) := rfl
            rw [hst.2] at c0 c1 c2 hrF
            unfold rootOf at c0 c1 c2 hrF
            simp only at c0 c1 c2 hrF
            obtain ⟨i, hi⟩ : ∃ i, (stP p).getD (j + 1) 0 = i := ⟨_, rfl⟩
            obtain ⟨k, hk⟩ : ∃ k, (stP p).getD j 0 = k := ⟨_, rfl⟩
            rw [hi, hk] at hst c0 c1 c2 hrF hsd
            rw [hi] at hu1
            rw [hk] at hu2
            have hk13 := hpl.2
            obtain ⟨L, hLe, hLg, hLm, hLv⟩ := step_frac (n := cof p i - cof p k) (k := (k : Int) - (i : Int)) (x := x) (by omega) (by omega) hx hrF
            rw [← hsd] at hLv
            obtain ⟨T, hT⟩ : ∃ T, (k : Int) - (i : Int) = T := ⟨_, rfl⟩
            rw [hT] at c2 hLm hLv c0 c1 hrF hLe
            have hTb : 1 ≤ T ∧ T ≤ 13 := by omega
            obtain ⟨ST, hST⟩ : ∃ T, stepJ (cof p) x (stP p) j = T := ⟨_, rfl⟩
            rw [hST] at hLv hS has
            obtain ⟨AA, hAA⟩ : ∃ T, accV p x j = T := ⟨_, rfl⟩
            rw [hAA] at hO7 has hA
            rw [has] at hA'
            have HAS := Lib.hid has
            clear has hsd hst hu1 hu2 hi hk hST hAA
            have cw := fun w => frInt_c T w
            have cx := fun w => frInt_c x w
            generalize lowF (cof p i - cof p k) T = F at *
            have cl := fun w => frCmp_c ⟨x, 1⟩ F w (frB_one (by omega)) hrF
            have hmk : mkB (T * L.n) (1 * L.d) = true := by
              unfold mulB at hLm
              exact (Bool.and_eq_true_iff.1 hLm).2
            have cm := fun w => frMul_c ⟨T, 1⟩ L w (frB_one (by omega)) hLg
            simp only [hmk, hLv, frR_t] at cm
            have ca := fun w => frAdd1_c AA ST w (by omega) (by omega)
            generalize cmpF ⟨x, 1⟩ F = Z at cl hLe
            have hLe := Lib.hid hLe
            obtain ⟨X, Y⟩ := F
            obtain ⟨LN, LD⟩ := L
            unfold frV at cl cm
            simp only at cl cm c0 c1 c2
            have CW1 := Lib.hid cw; have CX := Lib.hid cx; have CL := Lib.hid cl; have CM := Lib.hid cm; have CA := Lib.hid ca
            have f1 : (0 : Int) ≤ (j : Int) := by omega
            have f2 : (j : Int) < (m : Int) := by omega
            have f3 : IntKind.i64.wrap ((j : Int) + 1) = ((j + 1 : Nat) : Int) := by rw [i64_small (by omega) (by omega)]; omega
            have hrN : (rootsP p).length = m := HRL.out
            clear cw cx cl cm ca hLm hLv hLg hrF hA hA' hS hpl hmk hTb hT
            rw [hrN] at hrow
            have hbA := (Below.refl wE.heap.size wE).alloc (Nat.le_refl _) (.cells #[.int .i64 X, .int .i64 Y, .int .i64 T] 37)
            have hbE := hbA.alloc hbA.size (.cells #[.int .i64 X, .int .i64 Y] 35)
            have hown := Own.newA wE #[.int .i64 X, .int .i64 Y, .int .i64 T] 37 (cs := [.int .i64 X, .int .i64 Y, .int .i64 T]) rfl
            have x0 : (wE.alloc (.cells #[.int .i64 X, .int .i64 Y, .int .i64 T] 37)).cell? ⟨wE.heap.size, 0, none⟩ = some (.int .i64 X) := Own.cell? hown rfl
            have x1 : (wE.alloc (.cells #[.int .i64 X, .int .i64 Y, .int .i64 T] 37)).cell? ⟨wE.heap.size, 1, none⟩ = some (.int .i64 Y) := Own.cell? hown rfl
            have hoR := (Own.alloc hown (.cells #[.int .i64 X, .int .i64 Y] 35))
            have oL : FrO _ _ _ := FrO.new (g := wE.heap.size + 1) (wE.alloc (.cells #[.int .i64 X, .int .i64 Y, .int .i64 T] 37)) X Y (by simp)
            clear hown hbA
            go_wp2_with fail
            generalize (wE.alloc (.cells #[.int .i64 X, .int .i64 Y, .int .i64 T] 37)).alloc (.cells #[.int .i64 X, .int .i64 Y] 35) = wG at hbE hoR oL ⊢
            obtain ⟨gl, hgl⟩ : ∃ g, wE.heap.size + 1 = g := ⟨_, rfl⟩
            rw [hgl] at oL ⊢
            have hgE : wE.heap.size ≤ gl := by omega
            have hgne : wE.heap.size ≠ gl := by omega
            obtain ⟨g9, hg9⟩ : ∃ g, wE.heap.size = g := ⟨_, rfl⟩
            have hoR' := hoR
            rw [hg9] at hoR' hgne ⊢
            clear x0 x1 hoR hgl hg9
            have hbR := Below.refl wG.heap.size wG
            obtain ⟨x0, x1⟩ := oL.at
            have nl := oL.lt
            by_cases hz : Z < 0
            case pos =>
              have gz : decide (Z < 0) = true := decide_eq_true hz
              have hle := hLe.out
              rw [if_pos hz] at hle
              injection hle with e1 e2
              subst e1 e2
              clear hz
              go_region_held3 (fun w' => w'.cell? ⟨gl, 0, none⟩ = some (.int .i64 X) ∧ w'.cell? ⟨gl, 1, none⟩ = some (.int .i64 Y)) (with_reducible repeat' (first | apply And.intro | assumption | apply cell_alloc' | apply cell_drew'))
                (first
                | (go_at_call 47; (with_reducible refine (CX.out _).mono ?_); rintro e W1 ⟨rfl, hwK1⟩; have hbK1 : Below wG.heap.size wG W1 := ball (by with_reducible repeat (first | exact hbR | apply Below.drew | apply bal_alloc)) hwK1; (try (have oA1 : FrO W1 wG.heap.size ⟨0, 0⟩ ∧ wG.heap.size ≤ wG.heap.size := ⟨FrO.below (by first | exact FrO.new wG 0 0 rfl | exact FrO.drew' (FrO.new wG 0 0 rfl) | exact FrO.new wG.drew 0 0 rfl) hwK1, Nat.le_refl _⟩)); have y1_0 := bcell hbK1 nl x0; have y1_1 := bcell hbK1 nl x1)
                | (go_at_call 48; (with_reducible refine (CL.out _).mono ?_); rintro e W2 ⟨rfl, hwK2⟩; have hbK2 : Below wG.heap.size wG W2 := ball (by with_reducible repeat (first | exact hbK1 | apply Below.drew | apply bal_alloc)) hwK2; (try (have oA2 : FrO W2 W1.heap.size ⟨0, 0⟩ ∧ wG.heap.size ≤ W1.heap.size := ⟨FrO.below (by first | exact FrO.new W1 0 0 rfl | exact FrO.drew' (FrO.new W1 0 0 rfl) | exact FrO.new W1.drew 0 0 rfl) hwK2, hbK1.size⟩)); (try (have oA2 := And.intro (FrO.below (by first | exact oA1.1 | exact FrO.drew' oA1.1) hwK2) oA1.2)); (try (obtain ⟨x0, x1⟩ := oA2.1.at; obtain ⟨z0, z1⟩ := oA2.1.fr)); have y2_0 := bcell hbK2 nl x0; have y2_1 := bcell hbK2 nl x1))
              have hbE2 := hbE.trans (hbK2.mono hbE.size)
              have oL2 := oL.below hbK2
              have hoR2 := Own.belowAll hoR' hbK2
              clear hbE hbR oL hoR' x0 x1 nl y1_0 y1_1 y2_0 y2_1 hwK1 hwK2 hbK1 hbK2
              go_wp2_with fail
              refine (CX.out _).mono ?_
              rintro e w3 ⟨rfl, hw3⟩
              have oL3 := oL2.below hw3
              have hoR3 := Own.belowAll hoR2 hw3
              have hbE3 := hbE2.trans (hw3.mono hbE2.size)
              clear oL2 hoR2 hbE2 hw3
              obtain ⟨x0, x1⟩ := oL3.at
              obtain ⟨z0, z1⟩ := oL3.fr
              go_wp2_with fail
              have oLZ := oL3.set x 1
              have hbZ := fr2_below (a := x) (b := 1) hbE3 hgE
              have hoZ := (Own.setOther hoR3 (a := ⟨gl, 0, none⟩) hgne (.int .i64 x)).setOther (a := ⟨gl, 1, none⟩) hgne (.int .i64 1)
              unfold fr2 at oLZ hbZ
              generalize (w3.setCell ⟨gl, 0, none⟩ (.int .i64 x)).setCell ⟨gl, 1, none⟩ (.int .i64 1) = wL at oLZ hbZ hoZ ⊢
              clear x0 x1 z0 z1 oL3 hoR3 hbE3
              have hbZ0 := hbZ
              clear hbZ
              have q2 : wL.cell? ⟨g9, 2, none⟩ = some (.int .i64 T) := Own.cell? hoZ rfl
              have n9 : g9 < wL.heap.size := Own.lt hoZ
              have nl := oLZ.lt
              obtain ⟨x0, x1⟩ := oLZ.at
              have hbR := Below.refl wL.heap.size wL
              go_region_held3 (fun w' => w'.cell? ⟨g9, 2, none⟩ = some (.int .i64 T) ∧ w'.cell? ⟨gl, 0, none⟩ = some (.int .i64 x) ∧ w'.cell? ⟨gl, 1, none⟩ = some (.int .i64 1)) (with_reducible repeat' (first | apply And.intro | assumption | (refine cell_set' (Nat.ne_of_lt (Nat.lt_of_lt_of_le n9 oA2.2)) ?_) | (refine cell_set' (Nat.ne_of_lt (Nat.lt_of_lt_of_le nl oA2.2)) ?_) | apply cell_alloc' | apply cell_drew'))
                (first
                    | (go_at_call 47; (with_reducible refine (CW1.out _).mono ?_); rintro e W1 ⟨rfl, hwK1⟩; have hbK1 : Below wL.heap.size wL W1 := ball (by with_reducible repeat (first | exact hbR | apply Below.drew | apply bal_alloc)) hwK1; (try (have oA1 : FrO W1 wL.heap.size ⟨0, 0⟩ ∧ wL.heap.size ≤ wL.heap.size := ⟨FrO.below (by first | exact FrO.new wL 0 0 rfl | exact FrO.drew' (FrO.new wL 0 0 rfl) | exact FrO.new wL.drew 0 0 rfl) hwK1, Nat.le_refl _⟩)); have y1_0 := bcell hbK1 n9 q2; have y1_1 := bcell hbK1 nl x0; have y1_2 := bcell hbK1 nl x1)
                    | (go_at_call 49; (with_reducible refine (CM.out _).mono ?_); rintro e W2 ⟨rfl, hwK2⟩; have hbK2 : Below wL.heap.size wL W2 := ball (by with_reducible repeat (first | exact hbK1 | apply Below.drew | apply bal_alloc)) hwK2; (try (have oA2 : FrO W2 W1.heap.size ⟨0, 0⟩ ∧ wL.heap.size ≤ W1.heap.size := ⟨FrO.below (by first | exact FrO.new W1 0 0 rfl | exact FrO.drew' (FrO.new W1 0 0 rfl) | exact FrO.new W1.drew 0 0 rfl) hwK2, hbK1.size⟩)); (try (have oA2 := And.intro (FrO.below (by first | exact oA1.1 | exact FrO.drew' oA1.1) hwK2) oA1.2)); (try (obtain ⟨v0, v1⟩ := oA2.1.at; obtain ⟨z0, z1⟩ := oA2.1.fr)); have y2_0 := bcell hbK2 n9 q2; have y2_1 := bcell hbK2 nl x0; have y2_2 := bcell hbK2 nl x1))
              all_goals
                first
                  | (have oB := FrO.set oA2.1 (ST) (1)
                     have hbZ := fr2_below (u := wL) (a := (ST)) (b := (1)) hbK2 oA2.2
                     have hgB := oA2.2
                     unfold fr2 at oB hbZ
                     generalize hWZ : World.setCell _ ⟨_, 1, none⟩ (.int .i64 (1)) = wH at oB hbZ ⊢
                     clear hWZ)
                  | (have oB := FrO.new W2 (ST) (1) rfl
                     have hbZ := bal_alloc (o := (.cells #[.int .i64 ST, .int .i64 1] 35)) hbK2
                     have hgB := hbK2.size
                     generalize W2.alloc (.cells #[.int .i64 ST, .int .i64 1] 35) = wH at oB hbZ ⊢)
                have hbF := hbZ0.trans (hbZ.mono hbZ0.size)
                have o7 := hO7.below hbF
                obtain ⟨x0, x1⟩ := o7.at
                obtain ⟨y0, y1⟩ := oB.at
                go_wp2_with fail
                refine (CA.out _).mono ?_
                rintro e w5 ⟨rfl, hw5⟩
                have hb5 := hbF.trans (hw5.mono hbF.size)
                have hb6 := hb5.alloc hb5.size (.cells #[.int .i64 (AA + ST), .int .i64 1] 35)
                have o13 := FrO.new w5 (AA + ST) 1 rfl
                have p7 := hO7.below hb6
                clear x0 x1 y0 y1
                obtain ⟨x0, x1⟩ := o13.at
                obtain ⟨y0, y1⟩ := p7.at
                obtain ⟨z0, z1⟩ := p7.fr
                have r0 := (hO0.below hb6).setOther hne (AA + ST) 1
                have r7 := p7.set (AA + ST) 1
                have rr := RowR.setOther (a := AA + ST) (b := 1) (RowR.below hrow hb6) hB7
                have rb := fr2_below (a := AA + ST) (b := 1) (ball hbw hb6) hgw
                unfold fr2 at r0 r7 rr rb
                go_wp2_with fail
                generalize ((w5.alloc (.cells #[.int .i64 (AA + ST), .int .i64 1] 35)).setCell ⟨g7, 0, none⟩ (.int .i64 (AA + ST))).setCell ⟨g7, 1, none⟩ (.int .i64 1) = wF at r0 r7 rr rb ⊢
                rw [← HAS.out] at r7
                clear x0 x1 y0 y1 z0 z1 p7 o13 hb6 hb5
                go_roundw
                case rel => exact ⟨j + 1, by omega, rfl, r0, r7, by rw [hrN]; exact rr, rb⟩
                case measure => (simp [intOf]; omega)
            case neg =>
              have gz : decide (Z < 0) = false := decide_eq_false hz
              have hle := hLe.out
              rw [if_neg hz] at hle
              injection hle with e1 e2
              subst e1 e2
              clear hz
              go_region_held3 (fun w' => w'.cell? ⟨gl, 0, none⟩ = some (.int .i64 X) ∧ w'.cell? ⟨gl, 1, none⟩ = some (.int .i64 Y)) (with_reducible repeat' (first | apply And.intro | assumption | apply cell_alloc' | apply cell_drew'))
                (first
                | (go_at_call 47; (with_reducible refine (CX.out _).mono ?_); rintro e W1 ⟨rfl, hwK1⟩; have hbK1 : Below wG.heap.size wG W1 := ball (by with_reducible repeat (first | exact hbR | apply Below.drew | apply bal_alloc)) hwK1; (try (have oA1 : FrO W1 wG.heap.size ⟨0, 0⟩ ∧ wG.heap.size ≤ wG.heap.size := ⟨FrO.below (by first | exact FrO.new wG 0 0 rfl | exact FrO.drew' (FrO.new wG 0 0 rfl) | exact FrO.new wG.drew 0 0 rfl) hwK1, Nat.le_refl _⟩)); have y1_0 := bcell hbK1 nl x0; have y1_1 := bcell hbK1 nl x1)
                | (go_at_call 48; (with_reducible refine (CL.out _).mono ?_); rintro e W2 ⟨rfl, hwK2⟩; have hbK2 : Below wG.heap.size wG W2 := ball (by with_reducible repeat (first | exact hbK1 | apply Below.drew | apply bal_alloc)) hwK2; (try (have oA2 : FrO W2 W1.heap.size ⟨0, 0⟩ ∧ wG.heap.size ≤ W1.heap.size := ⟨FrO.below (by first | exact FrO.new W1 0 0 rfl | exact FrO.drew' (FrO.new W1 0 0 rfl) | exact FrO.new W1.drew 0 0 rfl) hwK2, hbK1.size⟩)); (try (have oA2 := And.intro (FrO.below (by first | exact oA1.1 | exact FrO.drew' oA1.1) hwK2) oA1.2)); (try (obtain ⟨x0, x1⟩ := oA2.1.at; obtain ⟨z0, z1⟩ := oA2.1.fr)); have y2_0 := bcell hbK2 nl x0; have y2_1 := bcell hbK2 nl x1))
              have hbE2 := hbE.trans (hbK2.mono hbE.size)
              have oL2 := oL.below hbK2
              have hoR2 := Own.belowAll hoR' hbK2
              clear hbE hbR oL hoR' x0 x1 nl y1_0 y1_1 y2_0 y2_1 hwK1 hwK2 hbK1 hbK2
              obtain ⟨wL, hwL⟩ : ∃ u, u = W2 := ⟨_, rfl⟩
              subst hwL
              have oLZ := oL2; have hbZ := hbE2; have hoZ := hoR2
              clear oL2 hbE2 hoR2
              go_wp2_with fail
              have hbZ0 := hbZ
              clear hbZ
              have q2 : wL.cell? ⟨g9, 2, none⟩ = some (.int .i64 T) := Own.cell? hoZ rfl
              have n9 : g9 < wL.heap.size := Own.lt hoZ
              have nl := oLZ.lt
              obtain ⟨x0, x1⟩ := oLZ.at
              have hbR := Below.refl wL.heap.size wL
              go_region_held3 (fun w' => w'.cell? ⟨g9, 2, none⟩ = some (.int .i64 T) ∧ w'.cell? ⟨gl, 0, none⟩ = some (.int .i64 X) ∧ w'.cell? ⟨gl, 1, none⟩ = some (.int .i64 Y)) (with_reducible repeat' (first | apply And.intro | assumption | (refine cell_set' (Nat.ne_of_lt (Nat.lt_of_lt_of_le n9 oA2.2)) ?_) | (refine cell_set' (Nat.ne_of_lt (Nat.lt_of_lt_of_le nl oA2.2)) ?_) | apply cell_alloc' | apply cell_drew'))
                (first
                    | (go_at_call 47; (with_reducible refine (CW1.out _).mono ?_); rintro e W1 ⟨rfl, hwK1⟩; have hbK1 : Below wL.heap.size wL W1 := ball (by with_reducible repeat (first | exact hbR | apply Below.drew | apply bal_alloc)) hwK1; (try (have oA1 : FrO W1 wL.heap.size ⟨0, 0⟩ ∧ wL.heap.size ≤ wL.heap.size := ⟨FrO.below (by first | exact FrO.new wL 0 0 rfl | exact FrO.drew' (FrO.new wL 0 0 rfl) | exact FrO.new wL.drew 0 0 rfl) hwK1, Nat.le_refl _⟩)); have y1_0 := bcell hbK1 n9 q2; have y1_1 := bcell hbK1 nl x0; have y1_2 := bcell hbK1 nl x1)
                    | (go_at_call 49; (with_reducible refine (CM.out _).mono ?_); rintro e W2 ⟨rfl, hwK2⟩; have hbK2 : Below wL.heap.size wL W2 := ball (by with_reducible repeat (first | exact hbK1 | apply Below.drew | apply bal_alloc)) hwK2; (try (have oA2 : FrO W2 W1.heap.size ⟨0, 0⟩ ∧ wL.heap.size ≤ W1.heap.size := ⟨FrO.below (by first | exact FrO.new W1 0 0 rfl | exact FrO.drew' (FrO.new W1 0 0 rfl) | exact FrO.new W1.drew 0 0 rfl) hwK2, hbK1.size⟩)); (try (have oA2 := And.intro (FrO.below (by first | exact oA1.1 | exact FrO.drew' oA1.1) hwK2) oA1.2)); (try (obtain ⟨v0, v1⟩ := oA2.1.at; obtain ⟨z0, z1⟩ := oA2.1.fr)); have y2_0 := bcell hbK2 n9 q2; have y2_1 := bcell hbK2 nl x0; have y2_2 := bcell hbK2 nl x1))
              all_goals
                first
                  | (have oB := FrO.set oA2.1 (ST) (1)
                     have hbZ := fr2_below (u := wL) (a := (ST)) (b := (1)) hbK2 oA2.2
                     have hgB := oA2.2
                     unfold fr2 at oB hbZ
                     generalize hWZ : World.setCell _ ⟨_, 1, none⟩ (.int .i64 (1)) = wH at oB hbZ ⊢
                     clear hWZ)
                  | (have oB := FrO.new W2 (ST) (1) rfl
                     have hbZ := bal_alloc (o := (.cells #[.int .i64 ST, .int .i64 1] 35)) hbK2
                     have hgB := hbK2.size
                     generalize W2.alloc (.cells #[.int .i64 ST, .int .i64 1] 35) = wH at oB hbZ ⊢)
                have hbF := hbZ0.trans (hbZ.mono hbZ0.size)
                have o7 := hO7.below hbF
                obtain ⟨x0, x1⟩ := o7.at
                obtain ⟨y0, y1⟩ := oB.at
                go_wp2_with fail
                refine (CA.out _).mono ?_
                rintro e w5 ⟨rfl, hw5⟩
                have hb5 := hbF.trans (hw5.mono hbF.size)
                have hb6 := hb5.alloc hb5.size (.cells #[.int .i64 (AA + ST), .int .i64 1] 35)
                have o13 := FrO.new w5 (AA + ST) 1 rfl
                have p7 := hO7.below hb6
                clear x0 x1 y0 y1
                obtain ⟨x0, x1⟩ := o13.at
                obtain ⟨y0, y1⟩ := p7.at
                obtain ⟨z0, z1⟩ := p7.fr
                have r0 := (hO0.below hb6).setOther hne (AA + ST) 1
                have r7 := p7.set (AA + ST) 1
                have rr := RowR.setOther (a := AA + ST) (b := 1) (RowR.below hrow hb6) hB7
                have rb := fr2_below (a := AA + ST) (b := 1) (ball hbw hb6) hgw
                unfold fr2 at r0 r7 rr rb
                go_wp2_with fail
                generalize ((w5.alloc (.cells #[.int .i64 (AA + ST), .int .i64 1] 35)).setCell ⟨g7, 0, none⟩ (.int .i64 (AA + ST))).setCell ⟨g7, 1, none⟩ (.int .i64 1) = wF at r0 r7 rr rb ⊢
                rw [← HAS.out] at r7
                clear x0 x1 y0 y1 z0 z1 p7 o13 hb6 hb5
                go_roundw
                case rel => exact ⟨j + 1, by omega, rfl, r0, r7, by rw [hrN]; exact rr, rb⟩
                case measure => (simp [intOf]; omega)

end Go.Proofs.YthkgdiicldiahaaDoor
