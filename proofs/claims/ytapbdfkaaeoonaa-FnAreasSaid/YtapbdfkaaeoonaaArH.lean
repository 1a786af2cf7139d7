/-
  Some texts of this proof in one: ArH ArJ. Each part tells what it proves. By an AI agent.
-/
import Derived.Test.YtapbdfkaaeoonaaArE
import Derived.Test.YtapbdfkaaeoonaaRowI

/-
  The width of a polygon in a direction: program and reference. By an AI agent.
-/
namespace Go.Proofs.Ytapbdfkaaeoonaa
open Go.RowKit

def hgtD (d p : Pt) : Int := d.x * p.x + d.y * p.y
def mxS (f : Nat → Int) : Nat → Int
  | 0 => f 0
  | k + 1 => if mxS f k < f k then f k else mxS f k
def mnS (f : Nat → Int) : Nat → Int
  | 0 => f 0
  | k + 1 => if f k < mnS f k then f k else mnS f k
theorem mxS_ge (f : Nat → Int) : ∀ n k, k < n → f k ≤ mxS f n
  | 0, k, h => by omega
  | n + 1, k, h => by
    have ih := mxS_ge f n k
    unfold mxS
    by_cases hk : k = n
    · subst hk; split <;> omega
    · have := ih (by omega); split <;> omega
theorem mnS_le (f : Nat → Int) : ∀ n k, k < n → mnS f n ≤ f k
  | 0, k, h => by omega
  | n + 1, k, h => by
    have ih := mnS_le f n k
    unfold mnS
    by_cases hk : k = n
    · subst hk; split <;> omega
    · have := ih (by omega); split <;> omega
theorem mxS_at (f : Nat → Int) : ∀ n, 0 < n → ∃ k, k < n ∧ mxS f n = f k
  | 1, _ => ⟨0, by omega, by unfold mxS mxS; split <;> rfl⟩
  | n + 2, _ => by
    obtain ⟨k, hk, e⟩ := mxS_at f (n + 1) (by omega)
    unfold mxS
    split
    · exact ⟨n + 1, by omega, rfl⟩
    · exact ⟨k, by omega, e⟩
theorem mnS_at (f : Nat → Int) : ∀ n, 0 < n → ∃ k, k < n ∧ mnS f n = f k
  | 1, _ => ⟨0, by omega, by unfold mnS mnS; split <;> rfl⟩
  | n + 2, _ => by
    obtain ⟨k, hk, e⟩ := mnS_at f (n + 1) (by omega)
    unfold mnS
    split
    · exact ⟨n + 1, by omega, rfl⟩
    · exact ⟨k, by omega, e⟩
theorem mxS_b {f : Nat → Int} (h : ∀ k, -20000 ≤ f k ∧ f k ≤ 20000) : ∀ n, -20000 ≤ mxS f n ∧ mxS f n ≤ 20000
  | 0 => h 0
  | n + 1 => by have := mxS_b h n; have := h n; unfold mxS; split <;> omega
theorem mnS_b {f : Nat → Int} (h : ∀ k, -20000 ≤ f k ∧ f k ≤ 20000) : ∀ n, -20000 ≤ mnS f n ∧ mnS f n ≤ 20000
  | 0 => h 0
  | n + 1 => by have := mnS_b h n; have := h n; unfold mnS; split <;> omega
def wdB (l : List Pt) (d : Pt) : Bool := polyB l && ptB d
def wdZ (l : List Pt) (d : Pt) : Int := mxS (fun j => hgtD d (l.getD j default)) l.length - mnS (fun j => hgtD d (l.getD j default)) l.length
def wdV (l : List Pt) (d : Pt) : Value := .tuple #[.int .i64 (if wdB l d = true then wdZ l d else 0), .bool (wdB l d)]

set_option maxHeartbeats 400000 in
theorem lstI_c (x y : Int) (w : World) :
    Calls Try.prog 38 #[.int .i64 x, .int .i64 y] w fun e w' => e = .returned (.int .i64 (if y < x then y else x)) ∧ w = w' := by
  by_cases h : x < y
  · rw [if_neg (by omega)]
    go_enter Try.func38, Try.ntmps38
    go_wp2_with fail
    go_ret
    exact ⟨rfl, rfl⟩
  · have hz := Lib.hid (show y = (if y < x then y else x) by split <;> omega)
    rw [← hz.out]
    go_enter Try.func38, Try.ntmps38
    go_wp2_with fail
    go_ret
    exact ⟨rfl, rfl⟩
theorem mst_ifW (V F : Int) : (if V > F then V else F) = (if V < F then F else V) := by split <;> split <;> omega

theorem hgt_b {d p : Pt} (hd : ptB d = true) (hp : (-100 ≤ p.x ∧ p.x ≤ 100) ∧ -100 ≤ p.y ∧ p.y ≤ 100) : (-10000 ≤ d.x * p.x ∧ d.x * p.x ≤ 10000) ∧ (-10000 ≤ d.y * p.y ∧ d.y * p.y ≤ 10000) ∧ -20000 ≤ hgtD d p ∧ hgtD d p ≤ 20000 := by
  have h := ptB_bd hd
  have m1 := mulb (K := 100) (M := 100) (by omega) h.1 hp.1
  have m2 := mulb (K := 100) (M := 100) (by omega) h.2 hp.2
  unfold hgtD
  omega

set_option maxHeartbeats 1600000 in
theorem maxW_c (ad : Option Addr) (cap : Nat) (r : List Int) (w : World) (hr : RdI w ad r) (h0 : 0 < r.length) (hl : r.length ≤ 1048576) :
    Calls Try.prog 35 #[.slice ad r.length cap] w fun e w' => e = .returned (.int .i64 (mxS (fun j => r.getD j 0) r.length)) ∧ w = w' := by
  obtain ⟨A, hA⟩ : ∃ A, mxS (fun j => r.getD j 0) r.length = A := ⟨_, rfl⟩
  rw [hA]
  have HA := Lib.hid hA; clear hA
  obtain ⟨b, off, rfl, hb, k0⟩ := hr 0 h0
  rw [Nat.add_zero] at k0
  have HR := Lib.hid hr; clear hr
  have x0 : (0 : Int) < (r.length : Int) := by omega
  have x1 : ¬ ((r.length : Int) < 1) := by omega
  obtain ⟨X0, hX0⟩ : ∃ X, r.getD 0 0 = X := ⟨_, rfl⟩
  rw [hX0] at k0
  have HX0 := Lib.hid (show mxS (fun j => r.getD j 0) 1 = X0 by unfold mxS mxS; rw [if_neg (Int.lt_irrefl _)]; exact hX0); clear hX0
  go_enter Try.func35, Try.ntmps35
  go_wp2_with fail
  go_loop [3, 4] (fun v i => ∃ k : Nat, 1 ≤ k ∧ k ≤ r.length ∧ i = .int .i64 k ∧ v = .int .i64 (mxS (fun j => r.getD j 0) k)) (fun _ i => r.length - (intOf i).toNat)
  case atStart => exact ⟨1, Nat.le_refl _, h0, rfl, by rw [HX0.out]⟩
  case round =>
    obtain ⟨k, hk1, hk, rfl, rfl⟩ := hrel
    by_cases hlt : k < r.length
    case neg =>
      obtain rfl : k = r.length := by omega
      rw [HA.out]
      go_wp2_with fail
      go_ret
      exact ⟨rfl, rfl⟩
    case pos =>
      have cc := HR.out.at hlt
      have x2 : (0 : Int) ≤ (k : Int) := by omega
      have x3 : (k : Int) < (r.length : Int) := by omega
      obtain ⟨W, hW⟩ : ∃ W, mxS (fun j => r.getD j 0) (k + 1) = W := ⟨_, rfl⟩
      have HW := Lib.hid hW
      unfold mxS at hW
      generalize mxS (fun j => r.getD j 0) k = V at hW ⊢
      obtain ⟨X, hX⟩ : ∃ X, r.getD k 0 = X := ⟨_, rfl⟩
      rw [hX] at cc hW
      have HV := Lib.hid hW
      clear hX hW
      go_wp2_with fail
      go_round
      case rel => exact ⟨k + 1, by omega, by omega, by go_num, by rw [HW.out, ← HV.out]; congr 1; split <;> omega⟩
      case measure => simp [intOf]; omega

set_option maxHeartbeats 1600000 in
theorem minW_c (ad : Option Addr) (cap : Nat) (r : List Int) (w : World) (hr : RdI w ad r) (h0 : 0 < r.length) (hl : r.length ≤ 1048576) :
    Calls Try.prog 36 #[.slice ad r.length cap] w fun e w' => e = .returned (.int .i64 (mnS (fun j => r.getD j 0) r.length)) ∧ w = w' := by
  obtain ⟨A, hA⟩ : ∃ A, mnS (fun j => r.getD j 0) r.length = A := ⟨_, rfl⟩
  rw [hA]
  have HA := Lib.hid hA; clear hA
  obtain ⟨b, off, rfl, hb, k0⟩ := hr 0 h0
  rw [Nat.add_zero] at k0
  have HR := Lib.hid hr; clear hr
  have x0 : (0 : Int) < (r.length : Int) := by omega
  have x1 : ¬ ((r.length : Int) < 1) := by omega
  obtain ⟨X0, hX0⟩ : ∃ X, r.getD 0 0 = X := ⟨_, rfl⟩
  rw [hX0] at k0
  have HX0 := Lib.hid (show mnS (fun j => r.getD j 0) 1 = X0 by unfold mnS mnS; rw [if_neg (Int.lt_irrefl _)]; exact hX0); clear hX0
  go_enter Try.func36, Try.ntmps36
  go_wp2_with fail
  go_loop [3, 4] (fun v i => ∃ k : Nat, 1 ≤ k ∧ k ≤ r.length ∧ i = .int .i64 k ∧ v = .int .i64 (mnS (fun j => r.getD j 0) k)) (fun _ i => r.length - (intOf i).toNat)
  case atStart => exact ⟨1, Nat.le_refl _, h0, rfl, by rw [HX0.out]⟩
  case round =>
    obtain ⟨k, hk1, hk, rfl, rfl⟩ := hrel
    by_cases hlt : k < r.length
    case neg =>
      obtain rfl : k = r.length := by omega
      rw [HA.out]
      go_wp2_with fail
      go_ret
      exact ⟨rfl, rfl⟩
    case pos =>
      have cc := HR.out.at hlt
      have x2 : (0 : Int) ≤ (k : Int) := by omega
      have x3 : (k : Int) < (r.length : Int) := by omega
      obtain ⟨W, hW⟩ : ∃ W, mnS (fun j => r.getD j 0) (k + 1) = W := ⟨_, rfl⟩
      have HW := Lib.hid hW
      unfold mnS at hW
      generalize mnS (fun j => r.getD j 0) k = V at hW ⊢
      obtain ⟨X, hX⟩ : ∃ X, r.getD k 0 = X := ⟨_, rfl⟩
      rw [hX] at cc hW
      have HV := Lib.hid hW
      clear hX hW
      go_wp2_with fail
      go_round
      case rel => exact ⟨k + 1, by omega, by omega, by go_num, by rw [HW.out, ← HV.out]; congr 1; split <;> omega⟩
      case measure => simp [intOf]; omega

theorem tab_snoc (n : Nat) (f : Nat → Int) : tab (n + 1) f = tab n f ++ [f n] := by simp [tab, List.range_succ]
theorem tab_lenW (n : Nat) (f : Nat → Int) : (tab n f).length = n := by simp [tab]
theorem tab_getW (n : Nat) (f : Nat → Int) {j : Nat} (h : j < n) : (tab n f).getD j 0 = f j := by simp [tab, List.getD_eq_getElem?_getD, h]
theorem mxS_congr {f g : Nat → Int} {n : Nat} (h0 : 0 < n) (h : ∀ j, j < n → f j = g j) : mxS f n = mxS g n := by
  have : ∀ k, k ≤ n → mxS f k = mxS g k := by
    intro k
    induction k with
    | zero => intro _; exact h 0 h0
    | succ k ih => intro hk; unfold mxS; rw [ih (by omega), h k (by omega)]
  exact this n (Nat.le_refl _)
theorem mnS_congr {f g : Nat → Int} {n : Nat} (h0 : 0 < n) (h : ∀ j, j < n → f j = g j) : mnS f n = mnS g n := by
  have : ∀ k, k ≤ n → mnS f k = mnS g k := by
    intro k
    induction k with
    | zero => intro _; exact h 0 h0
    | succ k ih => intro hk; unfold mnS; rw [ih (by omega), h k (by omega)]
  exact this n (Nat.le_refl _)

set_option maxHeartbeats 3200000 in
set_option maxRecDepth 100000 in
theorem iWidth_c (ad : Option Addr) (cap : Nat) (l : List Pt) (dx dy : Int) (w : World) (hr : RdP w ad l) (hl : l.length ≤ 1048576) :
    Calls Try.prog 19 #[.slice ad l.length cap, .agg #[.int .i64 dx, .int .i64 dy]] w fun e w' => e = .returned (wdV l ⟨dx, dy⟩) ∧ Below w.heap.size w w' := by
  have hb0 : Below w.heap.size w (w.alloc (.cells #[.int .i64 dx, .int .i64 dy] 35)) := (Below.refl _ _).alloc (Nat.le_refl _) _
  have oD := Own.newA w #[.int .i64 dx, .int .i64 dy] 35 (cs := [.int .i64 dx, .int .i64 dy]) rfl
  have HR := Lib.hid (hr.below hb0); clear hr
  have c1 := fun w h => isPolygon_c ad cap l w h hl
  have c2 := fun w => isPoint_c ⟨dx, dy⟩ w
  have hpts := Lib.hid (fun h : polyB l = true => ptsB_t (polyB_pts h))
  have hmem := Lib.hid (fun (h : polyB l = true) p (hp : p ∈ l) => ptB_bd (ptsB_mem (polyB_pts h) hp))
  have hdb := Lib.hid (fun (h : ptB ⟨dx, dy⟩ = true) => h)
  unfold wdV wdB
  unfold ptV at c2
  simp only at c2
  obtain ⟨u, hu⟩ : ∃ u, polyB l = u := ⟨_, rfl⟩
  obtain ⟨v, hv⟩ : ∃ v, ptB ⟨dx, dy⟩ = v := ⟨_, rfl⟩
  rw [hu] at c1 hpts hmem ⊢
  rw [hv] at c2 ⊢
  have HV := Lib.hid hv
  clear hu hv hdb
  have C1 := Lib.hid c1; have C2 := Lib.hid c2; clear c1 c2
  obtain ⟨D, hD⟩ : ∃ D, w.heap.size = D := ⟨_, rfl⟩
  cases u
  case false =>
    rw [Bool.false_and, if_neg (by simp)]
    go_enter Try.func19, Try.ntmps19
    go_wp2_with fail
    refine (C1.out _ HR.out).mono ?_
    rintro e w1 ⟨rfl, hw1⟩
    go_wp2_with fail
    go_ret2
    exact ⟨rfl, ball hb0 hw1⟩
  case true =>
    rw [Bool.true_and]
    cases v
    case false =>
      rw [if_neg (by simp)]
      rw [hD] at oD
      go_enter Try.func19, Try.ntmps19
      go_wp2_with fail
      refine (C1.out _ HR.out).mono ?_
      rintro e w1 ⟨rfl, hw1⟩
      have o1 := Own.belowAll oD hw1
      have d0 := Own.cell? o1 (i := 0) rfl
      have d1 := Own.cell? o1 (i := 1) rfl
      go_wp2_with fail
      refine (C2.out _).mono ?_
      rintro e w2 ⟨rfl, hw2⟩
      go_wp2_with fail
      go_ret2
      exact ⟨rfl, ball (ball hb0 hw1) hw2⟩
    case true =>
      rw [if_pos rfl]
      obtain ⟨n0, n40, _⟩ := hpts.out rfl
      have hP := hmem.out rfl
      have hfb := Lib.hid (fun p hp => hgt_b HV.out (hP p hp))
      have hwz := Lib.hid (show wdZ l ⟨dx, dy⟩ = mxS (fun j => hgtD ⟨dx, dy⟩ (l.getD j default)) l.length - mnS (fun j => hgtD ⟨dx, dy⟩ (l.getD j default)) l.length from rfl)
      obtain ⟨Z, hZ⟩ : ∃ Z, wdZ l ⟨dx, dy⟩ = Z := ⟨_, rfl⟩
      rw [hZ] at hwz ⊢
      clear hZ
      obtain ⟨n, hn⟩ : ∃ n, l.length = n := ⟨_, rfl⟩
      rw [hn] at n0 n40 hwz hl ⊢
      rw [hn] at C1
      have HN := Lib.hid hn
      clear hn hP hpts hmem
      rw [hD] at oD
      have hD1 : D < w.heap.size + 1 := by omega
      go_enter Try.func19, Try.ntmps19
      go_wp2_with fail
      refine (C1.out _ HR.out).mono ?_
      rintro e w1 ⟨rfl, hw1⟩
      have HR1 := Lib.hid (HR.out.below hw1)
      have o1 := Own.belowAll oD hw1
      have hb1 := ball hb0 hw1
      have d0 := Own.cell? o1 (i := 0) rfl
      have d1 := Own.cell? o1 (i := 1) rfl
      clear oD hw1 HR
      go_wp2_with fail
      refine (C2.out _).mono ?_
      rintro e w2 ⟨rfl, hw2⟩
      have HR2 := Lib.hid (HR1.out.below hw2)
      have o2 := Own.belowAll o1 hw2
      have hb2 := ball hb1 hw2
      clear o1 hw2 HR1 hb1 d0 d1
      have hrow0 : RowI (w2.alloc (.cells #[] 3)) w2.heap.size (.slice (some ⟨w2.heap.size, 0, none⟩) 0 0) [] := World.ownsRow_made w2 #[] 0 (Nat.le_refl _) (by decide) rfl
      have HROW := Lib.hid hrow0; clear hrow0
      have hD2 := Own.lt o2
      go_wp2_with fail
      go_loopw [6, 20] (fun s i wr => ∃ (k : Nat), k ≤ n ∧ i = .int .i64 k ∧ RowI wr w2.heap.size s (tab k fun j => hgtD ⟨dx, dy⟩ (l.getD j default)) ∧ Below w2.heap.size w2 wr) (fun _ i _ => n - (intOf i).toNat)
      case atStart => exact ⟨0, Nat.zero_le _, rfl, HROW.out, bal_alloc (Below.refl _ _)⟩
      case round =>
        obtain ⟨wE, rfl⟩ : ∃ x : World, x = wr := ⟨_, rfl⟩
        obtain ⟨k, hk, rfl, hrow, hbel⟩ := hrel
        have hxl := tab_lenW k fun j => hgtD ⟨dx, dy⟩ (l.getD j default)
        by_cases hlt : k < n
        case pos =>
          obtain ⟨bp, op, rfl, hbp, c0, c1⟩ := (HR2.out.below hbel) k (by rw [HN.out]; exact hlt)
          have oE := Own.belowAll o2 hbel
          have hfk := hfb.out _ (show l.getD k default ∈ l by rw [List.getD_eq_getElem?_getD, List.getElem?_eq_getElem (by rw [HN.out]; exact hlt), Option.getD_some]; exact List.getElem_mem _)
          have hsn := tab_snoc k fun j => hgtD ⟨dx, dy⟩ (l.getD j default)
          obtain ⟨⟨px, py⟩, hpp⟩ : ∃ x, l.getD k default = x := ⟨_, rfl⟩
          simp only [hpp] at hsn
          rw [hpp] at c0 c1 hfk
          simp only at c0 c1 hfk
          obtain ⟨g1, g2, g3, g4⟩ := hfk
          rw [show hgtD ⟨dx, dy⟩ ⟨px, py⟩ = dx * px + dy * py from rfl] at hsn g3 g4
          have v1 : IntKind.i64.wrap (dx * px) = dx * px := i64_small (by omega) (by omega)
          have v2 : IntKind.i64.wrap (dy * py) = dy * py := i64_small (by omega) (by omega)
          have v3 : IntKind.i64.wrap (dx * px + dy * py) = dx * px + dy * py := i64_small (by omega) (by omega)
          obtain ⟨X, hX⟩ : ∃ X, (tab k fun j => hgtD ⟨dx, dy⟩ (l.getD j default)) = X := ⟨_, rfl⟩
          have hsn2 : (tab (k + 1) fun j => hgtD ⟨dx, dy⟩ (l.getD j default)) = X ++ [dx * px + dy * py] := by
            rw [← hX]; exact hsn
          have HSN := Lib.hid hsn2
          rw [hX] at hrow hxl
          obtain ⟨adx, cpx, rfl, _⟩ := RowI.shape hrow
          rw [hxl] at hrow ⊢
          have HXL := Lib.hid hxl
          have hsz := hbel.size
          have HRJ := Lib.hid (show RowI (wE.alloc (.cells #[.int .i64 px, .int .i64 py] 35)) w2.heap.size _ X from row_below hrow ((Below.refl _ _).alloc (Nat.le_refl _) _))
          have hbJ := hbel.alloc hbel.size (.cells #[.int .i64 px, .int .i64 py] 35)
          have oJ := Own.alloc oE (.cells #[.int .i64 px, .int .i64 py] 35)
          have qJ := Own.newA wE #[.int .i64 px, .int .i64 py] 35 (cs := [.int .i64 px, .int .i64 py]) rfl
          have x1 : (0 : Int) ≤ (k : Int) := by omega
          have x2 : (k : Int) < (n : Int) := by omega
          clear hrow hX hsn hsn2 hpp hxl oE g1 g2 g3 g4
          go_upto_region 7 with fail
          obtain ⟨Q, hQ⟩ : ∃ Q, wE.heap.size = Q := ⟨_, rfl⟩
          generalize hW : wE.alloc (.cells #[.int .i64 px, .int .i64 py] 35) = W2 at HRJ hbJ oJ qJ ⊢
          have hQW : Q < W2.heap.size := by rw [← hW]; simp [hQ]
          rw [hQ] at qJ ⊢
          have p0 := Own.cell? oJ (i := 0) rfl
          have p1 := Own.cell? oJ (i := 1) rfl
          have q0 := Own.cell? qJ (i := 0) rfl
          have q1 := Own.cell? qJ (i := 1) rfl
          have hszJ := hbJ.size
          clear hW hQ c0 c1
          go_wp2_with (at_builtin; refine wpList_appN rfl _ _ rfl w2.heap.size _ 0 1 _ X [dx * px + dy * py] (k + 1) (by rw [HXL.out]; rfl) rfl rfl (row_below HRJ.out ((Below.refl _ _).alloc (Nat.le_refl _) _)) (rdI_one _ _ _ rfl) (by have := HXL.out; omega) (by simp) (Nat.le_trans hszJ (by simp)) ?_; intro v9 wm hown hsh hbm hgr)
          have hb9 := (hbJ.alloc hbJ.size (.cells #[.int .i64 (dx * px + dy * py)] 3)).trans hbm
          have HR9 := Lib.hid hown
          clear hown hsh hbm hgr
          go_wp2_with fail
          go_roundw
          case rel => exact ⟨k + 1, by omega, by go_num, by rw [HSN.out]; exact HR9.out, hb9⟩
          case measure => simp [intOf]; omega
        case neg =>
          obtain rfl : k = n := by omega
          obtain ⟨X, hX⟩ : ∃ X, (tab k fun j => hgtD ⟨dx, dy⟩ (l.getD j default)) = X := ⟨_, rfl⟩
          have hg : ∀ j, j < k → X.getD j 0 = hgtD ⟨dx, dy⟩ (l.getD j default) := fun j hj => by rw [← hX]; exact tab_getW k _ hj
          have hm1 := mxS_congr (f := fun j => X.getD j 0) (g := fun j => hgtD ⟨dx, dy⟩ (l.getD j default)) n0 hg
          have hm2 := mnS_congr (f := fun j => X.getD j 0) (g := fun j => hgtD ⟨dx, dy⟩ (l.getD j default)) n0 hg
          have bb : ∀ j, j < k → -20000 ≤ hgtD ⟨dx, dy⟩ (l.getD j default) ∧ hgtD ⟨dx, dy⟩ (l.getD j default) ≤ 20000 := fun j hj => (hfb.out _ (show l.getD j default ∈ l by rw [List.getD_eq_getElem?_getD, List.getElem?_eq_getElem (by rw [HN.out]; exact hj), Option.getD_some]; exact List.getElem_mem _)).2.2
          obtain ⟨i1, hi1, e1⟩ := mxS_at (fun j => hgtD ⟨dx, dy⟩ (l.getD j default)) k n0
          obtain ⟨i2, hi2, e2⟩ := mnS_at (fun j => hgtD ⟨dx, dy⟩ (l.getD j default)) k n0
          have b1 := bb i1 hi1
          have b2 := bb i2 hi2
          rw [← e1] at b1
          rw [← e2] at b2
          have hzz := hwz.out
          rw [← hm1] at hzz b1
          rw [← hm2] at hzz b2
          rw [hX] at hrow hxl
          rw [← hxl] at hzz b1 b2
          obtain ⟨adx, cpx, rfl, hrd⟩ := RowI.shape hrow
          have cM := fun w h => maxW_c adx cpx X w h (by omega) (by omega)
          have cm := fun w h => minW_c adx cpx X w h (by omega) (by omega)
          generalize mxS (fun j => X.getD j 0) X.length = MX at cM hzz b1
          generalize mnS (fun j => X.getD j 0) X.length = MN at cm hzz b2
          have v1 : IntKind.i64.wrap (MX - MN) = MX - MN := i64_small (by omega) (by omega)
          have CM := Lib.hid cM; have Cm := Lib.hid cm; have HRD := Lib.hid hrd; have HZZ := Lib.hid hzz
          clear cM cm hrd hzz hrow hg hm1 hm2 bb e1 e2 b1 b2 hxl hX
          have hb3 := ball hb2 hbel
          go_wp2_with fail
          refine (CM.out _ HRD.out).mono ?_
          rintro e w4 ⟨rfl, rfl⟩
          go_wp2_with fail
          refine (Cm.out _ HRD.out).mono ?_
          rintro e w4 ⟨rfl, rfl⟩
          go_wp2_with fail
          go_ret2
          exact ⟨by rw [HZZ.out]; rfl, hb3⟩

set_option maxHeartbeats 3200000 in
set_option maxRecDepth 100000 in
theorem sWidth_c (ad : Option Addr) (cap : Nat) (l : List Pt) (dx dy : Int) (w : World) (hr : RdP w ad l) (hl : l.length ≤ 1048576) :
    Calls Try.prog 20 #[.slice ad l.length cap, .agg #[.int .i64 dx, .int .i64 dy]] w fun e w' => e = .returned (wdV l ⟨dx, dy⟩) ∧ Below w.heap.size w w' := by
  have hb0 : Below w.heap.size w (w.alloc (.cells #[.int .i64 dx, .int .i64 dy] 35)) := (Below.refl _ _).alloc (Nat.le_refl _) _
  have oD := Own.newA w #[.int .i64 dx, .int .i64 dy] 35 (cs := [.int .i64 dx, .int .i64 dy]) rfl
  have HR := Lib.hid (hr.below hb0); clear hr
  have c1 := fun w h => pyGood_c ad cap l w h hl
  have c2 := fun w => pyOne_c ⟨dx, dy⟩ w
  have hpts := Lib.hid (fun h : polyB l = true => ptsB_t (polyB_pts h))
  have hmem := Lib.hid (fun (h : polyB l = true) p (hp : p ∈ l) => ptB_bd (ptsB_mem (polyB_pts h) hp))
  unfold wdV wdB
  unfold ptV at c2
  simp only at c2
  obtain ⟨u, hu⟩ : ∃ u, polyB l = u := ⟨_, rfl⟩
  obtain ⟨v, hv⟩ : ∃ v, ptB ⟨dx, dy⟩ = v := ⟨_, rfl⟩
  rw [hu] at c1 hpts hmem ⊢
  rw [hv] at c2 ⊢
  have HV := Lib.hid hv
  clear hu hv
  have C1 := Lib.hid c1; have C2 := Lib.hid c2; clear c1 c2
  obtain ⟨D, hD⟩ : ∃ D, w.heap.size = D := ⟨_, rfl⟩
  cases u
  case false =>
    rw [Bool.false_and, if_neg (by simp)]
    go_enter Try.func20, Try.ntmps20
    go_wp2_with fail
    refine (C1.out _ HR.out).mono ?_
    rintro e w1 ⟨rfl, hw1⟩
    go_wp2_with fail
    go_ret2
    exact ⟨rfl, ball hb0 hw1⟩
  case true =>
    rw [Bool.true_and]
    cases v
    case false =>
      rw [if_neg (by simp)]
      rw [hD] at oD
      go_enter Try.func20, Try.ntmps20
      go_wp2_with fail
      refine (C1.out _ HR.out).mono ?_
      rintro e w1 ⟨rfl, hw1⟩
      have o1 := Own.belowAll oD hw1
      have d0 := Own.cell? o1 (i := 0) rfl
      have d1 := Own.cell? o1 (i := 1) rfl
      go_wp2_with fail
      refine (C2.out _).mono ?_
      rintro e w2 ⟨rfl, hw2⟩
      go_wp2_with fail
      go_ret2
      exact ⟨rfl, ball (ball hb0 hw1) hw2⟩
    case true =>
      rw [if_pos rfl]
      obtain ⟨n0, n40, _⟩ := hpts.out rfl
      have hP := hmem.out rfl
      have hfb := Lib.hid (fun p hp => hgt_b HV.out (hP p hp))
      have hwz := Lib.hid (show wdZ l ⟨dx, dy⟩ = mxS (fun j => hgtD ⟨dx, dy⟩ (l.getD j default)) l.length - mnS (fun j => hgtD ⟨dx, dy⟩ (l.getD j default)) l.length from rfl)
      obtain ⟨Z, hZ⟩ : ∃ Z, wdZ l ⟨dx, dy⟩ = Z := ⟨_, rfl⟩
      rw [hZ] at hwz ⊢
      clear hZ
      obtain ⟨n, hn⟩ : ∃ n, l.length = n := ⟨_, rfl⟩
      rw [hn] at n0 n40 hwz hl ⊢
      rw [hn] at C1
      have HN := Lib.hid hn
      clear hn hP hpts hmem
      have hM0 := Lib.hid (show mxS (fun j => hgtD ⟨dx, dy⟩ (l.getD j default)) 0 = hgtD ⟨dx, dy⟩ (l.getD 0 default) from rfl)
      have hm0 := Lib.hid (show mnS (fun j => hgtD ⟨dx, dy⟩ (l.getD j default)) 0 = hgtD ⟨dx, dy⟩ (l.getD 0 default) from rfl)
      rw [hD] at oD
      go_enter Try.func20, Try.ntmps20
      go_wp2_with fail
      refine (C1.out _ HR.out).mono ?_
      rintro e w1 ⟨rfl, hw1⟩
      have HR1 := Lib.hid (HR.out.below hw1)
      have o1 := Own.belowAll oD hw1
      have hb1 := ball hb0 hw1
      have d0 := Own.cell? o1 (i := 0) rfl
      have d1 := Own.cell? o1 (i := 1) rfl
      clear oD hw1 HR
      go_wp2_with fail
      refine (C2.out _).mono ?_
      rintro e w2 ⟨rfl, hw2⟩
      have HR2 := Lib.hid (HR1.out.below hw2)
      have o2 := Own.belowAll o1 hw2
      have hb2 := ball hb1 hw2
      clear o1 hw2 HR1 hb1 d0 d1
      have d0 := Own.cell? o2 (i := 0) rfl
      have d1 := Own.cell? o2 (i := 1) rfl
      obtain ⟨bp0, op0, rfl, hbp0, c0, c1⟩ := HR2.out 0 (by rw [HN.out]; omega)
      have hf0 := hfb.out _ (show l.getD 0 default ∈ l by rw [List.getD_eq_getElem?_getD, List.getElem?_eq_getElem (by rw [HN.out]; omega), Option.getD_some]; exact List.getElem_mem _)
      obtain ⟨⟨px, py⟩, hpp⟩ : ∃ x, l.getD 0 default = x := ⟨_, rfl⟩
      rw [hpp] at c0 c1 hf0 hM0 hm0
      simp only [Nat.zero_mul, Nat.add_zero] at c0 c1 hf0
      obtain ⟨g1, g2, g3, g4⟩ := hf0
      rw [show hgtD ⟨dx, dy⟩ ⟨px, py⟩ = px * dx + py * dy by unfold hgtD; simp only; rw [Int.mul_comm dx, Int.mul_comm dy]] at g3 g4 hM0 hm0
      rw [Int.mul_comm] at g1
      rw [Int.mul_comm] at g2
      have v1 : IntKind.i64.wrap (px * dx) = px * dx := i64_small (by omega) (by omega)
      have v2 : IntKind.i64.wrap (py * dy) = py * dy := i64_small (by omega) (by omega)
      have v3 : IntKind.i64.wrap (px * dx + py * dy) = px * dx + py * dy := i64_small (by omega) (by omega)
      have x0 : (0 : Int) < (n : Int) := by omega
      have hD2 := Own.lt o2
      clear hpp g1 g2 g3 g4
      go_upto_region 3 with fail
      go_quiet (fail)
      have hbq : Below w2.heap.size w2 (w2.drewN nq) := bdrewN (Below.refl _ _) nq
      go_wp2_with fail
      have hs0 : mnS (fun j => hgtD ⟨dx, dy⟩ (l.getD j default)) 0 = px * dx + py * dy ∧ mxS (fun j => hgtD ⟨dx, dy⟩ (l.getD j default)) 0 = px * dx + py * dy := ⟨hm0.out, hM0.out⟩
      have HS0 := Lib.hid hs0
      clear hs0 hm0 hM0
      generalize w2.drewN nq = w3 at hbq ⊢
      have HR3 := Lib.hid (HR2.out.below hbq)
      have o3 := Own.belowAll o2 hbq
      have hb3 := ball hb2 hbq
      have hD3 := Own.lt o3
      clear c0 c1 d0 d1 o2 hbq HR2 hD2 v1 v2 v3 hbp0 hb2 x0
      go_loopw [6, 7, 36] (fun lo hi i wr => ∃ (k : Nat), k ≤ n ∧ i = .int .i64 k ∧ lo = .int .i64 (mnS (fun j => hgtD ⟨dx, dy⟩ (l.getD j default)) k) ∧ hi = .int .i64 (mxS (fun j => hgtD ⟨dx, dy⟩ (l.getD j default)) k) ∧ Below w3.heap.size w3 wr) (fun _ _ i _ => n - (intOf i).toNat)
      case atStart => exact ⟨0, Nat.zero_le _, rfl, by rw [HS0.out.1], by rw [HS0.out.2], Below.refl _ _⟩
      case round =>
        obtain ⟨wE, rfl⟩ : ∃ x : World, x = wr := ⟨_, rfl⟩
        obtain ⟨k, hk, rfl, rfl, rfl, hbel⟩ := hrel
        by_cases hlt : k < n
        case pos =>
          obtain ⟨bp, op, ebp, hbp, c0, c1⟩ := (HR3.out.below hbel) k (by rw [HN.out]; exact hlt)
          injection ebp with ebp
          injection ebp with e1 e2 _
          subst e1; subst e2
          have oE := Own.belowAll o3 hbel
          have hfk := hfb.out _ (show l.getD k default ∈ l by rw [List.getD_eq_getElem?_getD, List.getElem?_eq_getElem (by rw [HN.out]; exact hlt), Option.getD_some]; exact List.getElem_mem _)
          obtain ⟨W1, hW1⟩ : ∃ W, mnS (fun j => hgtD ⟨dx, dy⟩ (l.getD j default)) (k + 1) = W := ⟨_, rfl⟩
          obtain ⟨W2, hW2⟩ : ∃ W, mxS (fun j => hgtD ⟨dx, dy⟩ (l.getD j default)) (k + 1) = W := ⟨_, rfl⟩
          have HW1 := Lib.hid hW1; have HW2 := Lib.hid hW2
          unfold mnS at hW1
          unfold mxS at hW2
          generalize mnS (fun j => hgtD ⟨dx, dy⟩ (l.getD j default)) k = LO at hW1 ⊢
          generalize mxS (fun j => hgtD ⟨dx, dy⟩ (l.getD j default)) k = HI at hW2 ⊢
          obtain ⟨⟨qx, qy⟩, hqq⟩ : ∃ x, l.getD k default = x := ⟨_, rfl⟩
          rw [hqq] at c0 c1 hfk hW1 hW2
          simp only at c0 c1 hfk
          obtain ⟨g1, g2, g3, g4⟩ := hfk
          rw [show hgtD ⟨dx, dy⟩ ⟨qx, qy⟩ = qx * dx + qy * dy by unfold hgtD; simp only; rw [Int.mul_comm dx, Int.mul_comm dy]] at g3 g4 hW1 hW2
          rw [Int.mul_comm] at g1
          rw [Int.mul_comm] at g2
          have v1 : IntKind.i64.wrap (qx * dx) = qx * dx := i64_small (by omega) (by omega)
          have v2 : IntKind.i64.wrap (qy * dy) = qy * dy := i64_small (by omega) (by omega)
          have v3 : IntKind.i64.wrap (qx * dx + qy * dy) = qx * dx + qy * dy := i64_small (by omega) (by omega)
          have cl := fun w => lstI_c LO (qx * dx + qy * dy) w
          have cm := fun w => l1Most_c HI (qx * dx + qy * dy) w
          have hV2 := (mst_ifW HI (qx * dx + qy * dy)).trans hW2
          simp only [hW1] at cl
          simp only [hV2] at cm
          have CL := Lib.hid cl
          have CM := Lib.hid cm
          have hbJ := hbel.alloc hbel.size (.cells #[.int .i64 qx, .int .i64 qy] 35)
          have oJ := Own.alloc oE (.cells #[.int .i64 qx, .int .i64 qy] 35)
          have qJ := Own.newA wE #[.int .i64 qx, .int .i64 qy] 35 (cs := [.int .i64 qx, .int .i64 qy]) rfl
          have x1 : (0 : Int) ≤ (k : Int) := by omega
          have x2 : (k : Int) < (n : Int) := by omega
          clear hqq g1 g2 g3 g4 oE hW1 hW2 hV2 cl cm
          go_upto_region 8 with fail
          obtain ⟨Q, hQ⟩ : ∃ Q, wE.heap.size = Q := ⟨_, rfl⟩
          generalize hW : wE.alloc (.cells #[.int .i64 qx, .int .i64 qy] 35) = W3 at hbJ oJ qJ ⊢
          rw [hQ] at qJ ⊢
          have p0 := Own.cell? oJ (i := 0) rfl
          have p1 := Own.cell? oJ (i := 1) rfl
          have q0 := Own.cell? qJ (i := 0) rfl
          have q1 := Own.cell? qJ (i := 1) rfl
          clear hW hQ c0 c1
          go_wp2_with fail
          refine (CL.out _).mono ?_
          rintro e w5 ⟨rfl, rfl⟩
          go_wp2_with fail
          refine (CM.out _).mono ?_
          rintro e w5 ⟨rfl, rfl⟩
          go_wp2_with fail
          go_roundw
          case rel => exact ⟨k + 1, by omega, by go_num, by rw [HW1.out], by rw [HW2.out], hbJ⟩
          case measure => simp [intOf]; omega
        case neg =>
          obtain rfl : k = n := by omega
          have bb : ∀ j, j < k → -20000 ≤ hgtD ⟨dx, dy⟩ (l.getD j default) ∧ hgtD ⟨dx, dy⟩ (l.getD j default) ≤ 20000 := fun j hj => (hfb.out _ (show l.getD j default ∈ l by rw [List.getD_eq_getElem?_getD, List.getElem?_eq_getElem (by rw [HN.out]; exact hj), Option.getD_some]; exact List.getElem_mem _)).2.2
          obtain ⟨i1, hi1, e1⟩ := mxS_at (fun j => hgtD ⟨dx, dy⟩ (l.getD j default)) k n0
          obtain ⟨i2, hi2, e2⟩ := mnS_at (fun j => hgtD ⟨dx, dy⟩ (l.getD j default)) k n0
          have b1 := bb i1 hi1
          have b2 := bb i2 hi2
          rw [← e1] at b1
          rw [← e2] at b2
          have hzz := hwz.out
          generalize mxS (fun j => hgtD ⟨dx, dy⟩ (l.getD j default)) k = MX at hzz b1 ⊢
          generalize mnS (fun j => hgtD ⟨dx, dy⟩ (l.getD j default)) k = MN at hzz b2 ⊢
          have v1 : IntKind.i64.wrap (MX - MN) = MX - MN := i64_small (by omega) (by omega)
          have HZZ := Lib.hid hzz
          have hb4 := ball hb3 hbel
          clear bb e1 e2 b1 b2 hzz
          go_wp2_with fail
          go_ret2
          exact ⟨by rw [HZZ.out]; rfl, hb4⟩
end Go.Proofs.Ytapbdfkaaeoonaa

/-
  The law's comparing of lists of points, and IsPolygon. By an AI agent.
-/
namespace Go.Proofs.Ytapbdfkaaeoonaa
open Go.RowKit

set_option maxHeartbeats 800000 in
theorem qPoints_c (ad ad2 : Option Addr) (cap cap2 : Nat) (l m : List Pt) (w : World) (hr : RdP w ad l) (hr2 : RdP w ad2 m) (hl : l.length ≤ 100000) (_hm : m.length ≤ 100000) :
    Calls Try.prog 9 #[.slice ad l.length cap, .slice ad2 m.length cap2] w fun e w' => e = .returned (.bool (decide (l = m))) ∧ Below w.heap.size w w' := by
  have HR := Lib.hid hr; have HR2 := Lib.hid hr2; clear hr hr2
  obtain ⟨D, hD⟩ : ∃ D, decide (l = m) = D := ⟨_, rfl⟩
  rw [hD]
  have HD := Lib.hid hD; clear hD
  by_cases hne : l.length = m.length
  case neg =>
    obtain rfl : D = false := HD.out.symm.trans (decide_eq_false fun e => hne (by rw [e]))
    have h1 : ((l.length : Int) == (m.length : Int)) = false := by simp; omega
    clear hne
    go_enter Try.func9, Try.ntmps9
    go_wp2_with fail
    go_ret
    exact ⟨rfl, Below.refl _ _⟩
  case pos =>
    have HNE := Lib.hid hne.symm
    rw [← hne]
    clear hne
    go_enter Try.func9, Try.ntmps9
    go_wp2_with fail
    go_loopw [13] (fun i wr => ∃ k : Nat, k ≤ l.length ∧ i = .int .i64 k ∧ l.take k = m.take k ∧ Below w.heap.size w wr) (fun i _ => l.length - (intOf i).toNat)
    case atStart => exact ⟨0, Nat.zero_le _, rfl, by simp, Below.refl _ _⟩
    case round =>
      obtain ⟨k, hk, rfl, heq, hbel⟩ := hrel
      have HEQ := Lib.hid heq; clear heq
      by_cases hlt : k < l.length
      case neg =>
        obtain rfl : k = l.length := by omega
        obtain rfl : D = true := HD.out.symm.trans (decide_eq_true (by
          have h := HEQ.out
          rw [List.take_length, ← HNE.out, List.take_length] at h
          exact h))
        go_wp2_with fail
        go_ret
        exact ⟨rfl, hbel⟩
      case pos =>
        obtain ⟨b, off, rfl, hb, c0, c1⟩ := HR.out k hlt
        obtain ⟨b2, off2, rfl, hb2, c2, c3⟩ := HR2.out k (by have := HNE.out; omega)
        have d0 := bcell hbel hb c0
        have d1 := bcell hbel hb c1
        have d2 := bcell hbel hb2 c2
        have d3 := bcell hbel hb2 c3
        clear c0 c1 c2 c3
        have x1 : (0 : Int) ≤ (k : Int) := by omega
        have x2 : (k : Int) < (l.length : Int) := by omega
        obtain ⟨p, hp⟩ : ∃ x, l.getD k default = x := ⟨_, rfl⟩
        obtain ⟨q, hq⟩ : ∃ x, m.getD k default = x := ⟨_, rfl⟩
        rw [hp] at d0 d1
        rw [hq] at d2 d3
        have HPQ := Lib.hid (And.intro hp hq); clear hp hq
        obtain ⟨px, py⟩ := p
        obtain ⟨qx, qy⟩ := q
        simp only at d0 d1 d2 d3
        by_cases hx : px = qx
        case pos =>
          subst hx
          by_cases hy : py = qy
          case pos =>
            subst hy
            have HT := Lib.hid (show l.take (k + 1) = m.take (k + 1) by
              have h1 := HPQ.out.1
              have h2 := HPQ.out.2
              rw [take_snoc' l k hlt, take_snoc' m k (by have := HNE.out; omega), HEQ.out, h1, h2])
            go_wp2_with fail
            go_quiet (fail)
            go_wp2_with fail
            go_roundw
            case rel => exact ⟨k + 1, by omega, by go_num, HT.out, bdrewN hbel nq⟩
            case measure => simp [intOf]; omega
          case neg =>
            obtain rfl : D = false := HD.out.symm.trans (decide_eq_false fun e => by
              have h1 := HPQ.out.1
              have h2 := HPQ.out.2
              rw [e, h2] at h1
              injection h1 with h3 h4
              exact hy h4.symm)
            go_wp2_with fail
            go_quiet (fail)
            go_wp2_with fail
            go_ret
            exact ⟨rfl, bdrewN hbel nq⟩
        case neg =>
          obtain rfl : D = false := HD.out.symm.trans (decide_eq_false fun e => by
            have h1 := HPQ.out.1
            have h2 := HPQ.out.2
            rw [e, h2] at h1
            injection h1 with h3 h4
            exact hx h3.symm)
          go_wp2_with fail
          go_quiet (fail)
          go_wp2_with fail
          go_ret
          exact ⟨rfl, bdrewN hbel nq⟩


set_option maxHeartbeats 800000 in
theorem iIsPolygon_c (ad : Option Addr) (cap : Nat) (l : List Pt) (w : World) (hr : RdP w ad l) (hl : l.length ≤ 1048576) :
    Calls Try.prog 17 #[.slice ad l.length cap] w fun e w' => e = .returned (.bool (polyB l)) ∧ Below w.heap.size w w' := by
  have c1 := Lib.hid (isPolygon_c ad cap l w hr hl)
  clear hr
  generalize polyB l = u at c1 ⊢
  go_enter Try.func17, Try.ntmps17
  go_wp2_with fail
  refine c1.out.mono ?_
  rintro e w1 ⟨rfl, hw1⟩
  go_wp2_with fail
  go_ret
  exact ⟨rfl, hw1⟩
end Go.Proofs.Ytapbdfkaaeoonaa
