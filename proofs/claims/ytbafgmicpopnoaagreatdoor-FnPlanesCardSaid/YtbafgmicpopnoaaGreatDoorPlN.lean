/-
  Some texts of this proof in one: PlN PlU. Each part tells what it proves. By an AI agent.
-/
import Derived.Test.YtbafgmicpopnoaaGreatDoorPlL
import Derived.Test.YtbafgmicpopnoaaGreatDoorRowI

/-
  Plane polynomials: values and degrees. Printed by gen_plN.py.
-/
namespace Go.Proofs.YtbafgmicpopnoaaGreatDoor
open Go.RowKit

/-! ### Plain -/
def valsT (x y : Int) (l : List Tm) : List Int := l.map (vlT x y)
def mnP (f : Nat → Int) : Nat → Int
  | 0 => 1000000000
  | k + 1 => if f k < mnP f k then f k else mnP f k
def mnV (x y : Int) (l : List Tm) : Int := mnP (fun j => (valsT x y l).getD j 0) l.length
theorem mnP_le (f : Nat → Int) : ∀ n k, k < n → mnP f n ≤ f k
  | n + 1, k, h => by
    unfold mnP
    by_cases e : k = n
    · subst e; split <;> omega
    · have := mnP_le f n k (by omega)
      split <;> omega
theorem mnP_ex (f : Nat → Int) (hb : ∀ k, f k < 1000000000) : ∀ n, 0 < n → ∃ k, k < n ∧ mnP f n = f k
  | 0, h => by omega
  | n + 1, _ => by
    unfold mnP
    split
    · exact ⟨n, by omega, rfl⟩
    · rename_i h
      by_cases e : n = 0
      · subst e; have := hb 0; unfold mnP at h; omega
      · obtain ⟨k, hk, e2⟩ := mnP_ex f hb n (by omega)
        exact ⟨k, by omega, e2⟩
theorem vals_get (x y : Int) {l : List Tm} {j : Nat} (h : j < l.length) : (valsT x y l).getD j 0 = vlT x y (l.getD j default) := by
  unfold valsT
  rw [List.getD_eq_getElem?_getD, List.getElem?_map, List.getD_eq_getElem?_getD, List.getElem?_eq_getElem h]
  rfl
theorem vals_len (x y : Int) (l : List Tm) : (valsT x y l).length = l.length := List.length_map ..
theorem vals_take (x y : Int) (l : List Tm) {k : Nat} (h : k < l.length) : valsT x y (l.take (k + 1)) = valsT x y (l.take k) ++ [vlT x y (l.getD k default)] := by
  unfold valsT; rw [take_snocT l k h, List.map_append]; rfl
/-- k * m of small k. -/
theorem mul6 {k m : Int} (h : 0 ≤ k ∧ k ≤ 6) (hm : -1000000 ≤ m ∧ m ≤ 1000000) : -6000000 ≤ k * m ∧ k * m ≤ 6000000 := by
  have : k = 0 ∨ k = 1 ∨ k = 2 ∨ k = 3 ∨ k = 4 ∨ k = 5 ∨ k = 6 := by omega
  rcases this with h | h | h | h | h | h | h <;> (subst h; omega)
theorem fin_b {n : Int} (h : finB n = true) : -1000000 ≤ n ∧ n ≤ 1000000 := by unfold finB at h; exact inB_t.1 h
theorem vl_bd {x y : Int} {t : Tm} (h : termB t = true) (hx : finB x = true) (hy : finB y = true) : -13000000 ≤ vlT x y t ∧ vlT x y t ≤ 13000000 := by
  have h1 := termB_t h
  have h2 := mul6 (k := t.i) (m := x) (by omega) (fin_b hx)
  have h3 := mul6 (k := t.j) (m := y) (by omega) (fin_b hy)
  unfold vlT
  omega
theorem vals_bd {x y : Int} {l : List Tm} (h : planeB l = true) (hx : finB x = true) (hy : finB y = true) (j : Nat) : -13000000 ≤ (valsT x y l).getD j 0 ∧ (valsT x y l).getD j 0 ≤ 13000000 := by
  by_cases hj : j < l.length
  · rw [vals_get x y hj]
    exact vl_bd (plane_term h _ (getD_memT hj)) hx hy
  · rw [List.getD_eq_getElem?_getD, List.getElem?_eq_none (by rw [vals_len]; omega)]
    simp
theorem mnV_least {x y : Int} {l : List Tm} (h : planeB l = true) (hx : finB x = true) (hy : finB y = true) : LeastF (vlT x y) l (mnV x y l) := by
  have h0 := plane_len h
  constructor
  · obtain ⟨k, hk, e⟩ := mnP_ex (fun j => (valsT x y l).getD j 0) (fun k => by have := (vals_bd h hx hy k).2; exact Int.lt_of_le_of_lt this (by omega)) l.length (by omega)
    refine ⟨l.getD k default, getD_memT hk, ?_⟩
    rw [← vals_get x y hk]
    exact e.symm
  · intro t ht
    obtain ⟨k, hk, rfl⟩ := List.getElem_of_mem ht
    have := mnP_le (fun j => (valsT x y l).getD j 0) l.length k hk
    simp only [vals_get x y hk] at this
    rw [List.getD_eq_getElem?_getD, List.getElem?_eq_getElem hk] at this
    exact this
theorem mnV_bd {x y : Int} {l : List Tm} (h : planeB l = true) (hx : finB x = true) (hy : finB y = true) : -13000000 ≤ mnV x y l ∧ mnV x y l ≤ 13000000 := by
  obtain ⟨⟨t, ht, e⟩, _⟩ := mnV_least h hx hy
  rw [← e]
  exact vl_bd (plane_term h t ht) hx hy
def pvB (l : List Tm) (x y : Int) : Bool := planeB l && (finB x && (finB y && finB (mnV x y l)))
def pvZ (l : List Tm) (x y : Int) : Int := if pvB l x y = true then mnV x y l else 0
/-- The greatest degree. -/
def dgP : List Tm → Int
  | [] => 0
  | t :: l => max (t.i + t.j) (dgP l)
def dgK (l : List Tm) : Nat → Int
  | 0 => 0
  | k + 1 => max (dgK l k) ((l.getD k default).i + (l.getD k default).j)
theorem dgK_bd {l : List Tm} (h : ∀ t ∈ l, termB t = true) : ∀ k, k ≤ l.length → 0 ≤ dgK l k ∧ dgK l k ≤ 6
  | 0, _ => by unfold dgK; omega
  | k + 1, hk => by
    have := dgK_bd h k (by omega)
    have h2 := termB_t (h _ (getD_memT (l := l) (k := k) (by omega)))
    unfold dgK
    omega
theorem dgK_ge (l : List Tm) : ∀ n k, k < n → (l.getD k default).i + (l.getD k default).j ≤ dgK l n
  | n + 1, k, h => by
    unfold dgK
    by_cases e : k = n
    · subst e; omega
    · have := dgK_ge l n k (by omega); omega
theorem dgK_ex {l : List Tm} (h : ∀ t ∈ l, termB t = true) : ∀ n, 0 < n → n ≤ l.length → ∃ k, k < n ∧ dgK l n = (l.getD k default).i + (l.getD k default).j
  | 0, h, _ => by omega
  | n + 1, _, hn => by
    unfold dgK
    by_cases e : n = 0
    · subst e
      have h2 := termB_t (h _ (getD_memT (l := l) (k := 0) (by omega)))
      exact ⟨0, by omega, by unfold dgK; omega⟩
    · obtain ⟨k, hk, e2⟩ := dgK_ex h n (by omega) (by omega)
      by_cases hc : dgK l n ≤ (l.getD n default).i + (l.getD n default).j
      · exact ⟨n, by omega, by omega⟩
      · exact ⟨k, by omega, by omega⟩
def dgZ (l : List Tm) : Int := dgK l l.length
theorem dgZ_least {l : List Tm} (h : planeB l = true) : LeastF dgT l (-(dgZ l)) := by
  have h0 := plane_len h
  constructor
  · obtain ⟨k, hk, e⟩ := dgK_ex (plane_term h) l.length (by omega) (Nat.le_refl _)
    refine ⟨l.getD k default, getD_memT hk, ?_⟩
    unfold dgT dgZ
    rw [e]
  · intro t ht
    obtain ⟨k, hk, rfl⟩ := List.getElem_of_mem ht
    have := dgK_ge l l.length k hk
    rw [List.getD_eq_getElem?_getD, List.getElem?_eq_getElem hk, Option.getD_some] at this
    unfold dgT dgZ
    omega


set_option maxHeartbeats 1600000 in
set_option maxRecDepth 100000 in
theorem planeValues_c (ad : Option Addr) (cap : Nat) (l : List Tm) (x y : Int) (w : World) (hr : RdT w ad l) (hl : l.length ≤ 1000) (hp : ∀ t ∈ l, termB t = true) (hx : finB x = true) (hy : finB y = true) :
    Calls Tryz.prog 38 #[.slice ad l.length cap, .int .i64 x, .int .i64 y] w fun e w' => ∃ ad' cap', e = .returned (.slice ad' l.length cap') ∧ RdI w' ad' (valsT x y l) ∧ Below w.heap.size w w' := by
  obtain ⟨i0, hi0, hz0, hz1, hz2⟩ := info_parts Tryz.infoI
  have HR := Lib.hid hr; clear hr
  have HBD := Lib.hid (fun k (h : k < l.length) => vl_bd (hp _ (getD_memT h)) hx hy)
  have HTB := Lib.hid (fun k (h : k < l.length) => termB_t (hp _ (getD_memT h)))
  have hxb := fin_b hx
  have hyb := fin_b hy
  clear hp hx hy
  go_enter Tryz.func38, Tryz.ntmps38
  go_wp2_with fail
  go_loopw [7, 13] (fun v i wr => ∃ k : Nat, k ≤ l.length ∧ i = .int .i64 k ∧ wr.ownsRow w.heap.size 3 1 v k (ints (valsT x y (l.take k))) ∧ Below w.heap.size w wr) (fun _ i _ => l.length - (intOf i).toNat)
  case atStart => exact ⟨0, Nat.zero_le _, rfl, row_empty w 3, (Below.refl _ _).alloc (Nat.le_refl _) _⟩
  case round =>
    obtain ⟨wE, rfl⟩ : ∃ x : World, x = wr := ⟨_, rfl⟩
    obtain ⟨k, hk, rfl, hown, hbel⟩ := hrel
    have HO := Lib.hid hown; clear hown
    by_cases hlt : k < l.length
    case neg =>
      obtain rfl : k = l.length := by omega
      have hrow : RowI wE w.heap.size _ (valsT x y l) := row_congr HO.out (vals_len x y l).symm (by rw [List.take_length])
      obtain ⟨ad', cap', rfl, hrd⟩ := hrow.shape
      rw [vals_len] at *
      have HRD := Lib.hid hrd; clear hrd hrow HO
      go_wp2_with fail
      go_ret
      exact ⟨ad', cap', rfl, HRD.out, hbel⟩
    case pos =>
      have hbd := HBD.out k hlt
      have htb := HTB.out k hlt
      have hstep := vals_take x y l hlt
      obtain ⟨b, off, rfl, hb, c0, c1, c2⟩ := HR.out k hlt
      have d0 := bcell hbel hb c0
      have d1 := bcell hbel hb c1
      have d2 := bcell hbel hb c2
      have hbE : b < wE.heap.size := Nat.lt_of_lt_of_le hb hbel.size
      generalize l.getD k default = T at d0 d1 d2 hbd htb hstep
      obtain ⟨ti, tj, tc⟩ := T
      unfold vlT at hbd hstep
      simp only at hbd htb hstep
      have m1 := mul6 (k := ti) (m := x) (by omega) hxb
      have m2 := mul6 (k := tj) (m := y) (by omega) hyb
      obtain ⟨X, hX⟩ : ∃ X, ti * x = X := ⟨_, rfl⟩
      obtain ⟨Y, hY⟩ : ∃ Y, tj * y = Y := ⟨_, rfl⟩
      rw [hX] at m1 hbd hstep
      rw [hY] at m2 hbd hstep
      have e1 : IntKind.i64.wrap (ti * x) = X := by rw [hX]; exact i64_small (by omega) (by omega)
      have e2 : IntKind.i64.wrap (tj * y) = Y := by rw [hY]; exact i64_small (by omega) (by omega)
      have e3 : IntKind.i64.wrap (tc + X) = tc + X := i64_small (by omega) (by omega)
      have e4 : IntKind.i64.wrap (tc + X + Y) = tc + X + Y := i64_small (by omega) (by omega)
      have HS := Lib.hid hstep
      have y1 : (0 : Int) ≤ (k : Int) := by omega
      have y2 : (k : Int) < (l.length : Int) := by omega
      have hsz := hbel.size
      clear hstep hX hY m1 m2 hbd c0 c1 c2
      go_wp2_with (at_builtin; refine wpList_append_lies _ rfl _ _ _ rfl w.heap.size 3 i0 _ 1 8 Tryz.underlying57 hi0 hz0 hz1 hz2 rfl (by omega) _ k _ rfl ((HO.out.alloc _).alloc _) ⟨wE.heap.size + 1, 0, none⟩ 1 1 [.int .i64 (tc + X + Y)] rfl rfl (World.news_of_block (cs := #[.int .i64 (tc + X + Y)]) (t := 3) (fr := (0, 0)) (heap_alloc_at _ _ (by simp))) (by simp [Value.oneCell']) (by omega) (by unfold maxLen; omega) (by omega) (by simp; omega) (wE.heap.size + 2) (by simp) ?_; intro gg gcap w2 hown1 hgrow hat hlt2)
      clear e1 e2 e3 e4
      go_roundw
      case rel =>
        refine ⟨k + 1, by omega, by go_num, row_congr hown1 rfl ?_, app_below (bal_alloc hbel) (by simp; omega) (HO.out.alloc _) hgrow⟩
        rw [HS.out]
        simp [ints]
      case measure => simp [intOf]; omega


set_option maxHeartbeats 1600000 in
set_option maxRecDepth 100000 in
theorem plValues_c (ad : Option Addr) (cap : Nat) (l : List Tm) (x y : Int) (w : World) (hr : RdT w ad l) (hl : l.length ≤ 1000) (hp : ∀ t ∈ l, termB t = true) (hx : finB x = true) (hy : finB y = true) :
    Calls Tryz.prog 41 #[.slice ad l.length cap, .int .i64 x, .int .i64 y] w fun e w' => ∃ ad' cap', e = .returned (.slice ad' l.length cap') ∧ RdI w' ad' (valsT x y l) ∧ Below w.heap.size w w' := by
  obtain ⟨i0, hi0, hz0, hz1, hz2⟩ := info_parts Tryz.infoI
  have HR := Lib.hid hr; clear hr
  have HBD := Lib.hid (fun k (h : k < l.length) => vl_bd (hp _ (getD_memT h)) hx hy)
  have HTB := Lib.hid (fun k (h : k < l.length) => termB_t (hp _ (getD_memT h)))
  have hxb := fin_b hx
  have hyb := fin_b hy
  clear hp hx hy
  go_enter Tryz.func41, Tryz.ntmps41
  go_wp2_with fail
  go_loopw [7, 12] (fun v i wr => ∃ k : Nat, k ≤ l.length ∧ i = .int .i64 k ∧ wr.ownsRow w.heap.size 3 1 v k (ints (valsT x y (l.take k))) ∧ Below w.heap.size w wr) (fun _ i _ => l.length - (intOf i).toNat)
  case atStart => exact ⟨0, Nat.zero_le _, rfl, World.ownsRow_nil _ _ _ _, Below.refl _ _⟩
  case round =>
    obtain ⟨wE, rfl⟩ : ∃ x : World, x = wr := ⟨_, rfl⟩
    obtain ⟨k, hk, rfl, hown, hbel⟩ := hrel
    have HO := Lib.hid hown; clear hown
    by_cases hlt : k < l.length
    case neg =>
      obtain rfl : k = l.length := by omega
      have hrow : RowI wE w.heap.size _ (valsT x y l) := row_congr HO.out (vals_len x y l).symm (by rw [List.take_length])
      obtain ⟨ad', cap', rfl, hrd⟩ := hrow.shape
      rw [vals_len] at *
      have HRD := Lib.hid hrd; clear hrd hrow HO
      go_wp2_with fail
      go_ret
      exact ⟨ad', cap', rfl, HRD.out, hbel⟩
    case pos =>
      have hbd := HBD.out k hlt
      have htb := HTB.out k hlt
      have hstep := vals_take x y l hlt
      obtain ⟨b, off, rfl, hb, c0, c1, c2⟩ := HR.out k hlt
      have d0 := bcell hbel hb c0
      have d1 := bcell hbel hb c1
      have d2 := bcell hbel hb c2
      have hbE : b < wE.heap.size := Nat.lt_of_lt_of_le hb hbel.size
      generalize l.getD k default = T at d0 d1 d2 hbd htb hstep
      obtain ⟨ti, tj, tc⟩ := T
      unfold vlT at hbd hstep
      simp only at hbd htb hstep
      have m1 := mul6 (k := ti) (m := x) (by omega) hxb
      have m2 := mul6 (k := tj) (m := y) (by omega) hyb
      obtain ⟨X, hX⟩ : ∃ X, ti * x = X := ⟨_, rfl⟩
      obtain ⟨Y, hY⟩ : ∃ Y, tj * y = Y := ⟨_, rfl⟩
      rw [hX] at m1 hbd hstep
      rw [hY] at m2 hbd hstep
      have e1 : IntKind.i64.wrap (ti * x) = X := by rw [hX]; exact i64_small (by omega) (by omega)
      have e2 : IntKind.i64.wrap (tj * y) = Y := by rw [hY]; exact i64_small (by omega) (by omega)
      have e3 : IntKind.i64.wrap (tc + X) = tc + X := i64_small (by omega) (by omega)
      have e4 : IntKind.i64.wrap (tc + X + Y) = tc + X + Y := i64_small (by omega) (by omega)
      have HS := Lib.hid hstep
      have y1 : (0 : Int) ≤ (k : Int) := by omega
      have y2 : (k : Int) < (l.length : Int) := by omega
      have hsz := hbel.size
      clear hstep hX hY m1 m2 hbd c0 c1 c2
      go_wp2_with (at_builtin; refine wpList_append_lies _ rfl _ _ _ rfl w.heap.size 3 i0 _ 1 8 Tryz.underlying57 hi0 hz0 hz1 hz2 rfl (by omega) _ k _ rfl ((HO.out.alloc _).alloc _) ⟨wE.heap.size + 1, 0, none⟩ 1 1 [.int .i64 (tc + X + Y)] rfl rfl (World.news_of_block (cs := #[.int .i64 (tc + X + Y)]) (t := 3) (fr := (0, 0)) (heap_alloc_at _ _ (by simp))) (by simp [Value.oneCell']) (by omega) (by unfold maxLen; omega) (by omega) (by simp; omega) (wE.heap.size + 2) (by simp) ?_; intro gg gcap w2 hown1 hgrow hat hlt2)
      clear e1 e2 e3 e4
      go_roundw
      case rel =>
        refine ⟨k + 1, by omega, by go_num, row_congr hown1 rfl ?_, app_below (bal_alloc hbel) (by simp; omega) (HO.out.alloc _) hgrow⟩
        rw [HS.out]
        simp [ints]
      case measure => simp [intOf]; omega


set_option maxHeartbeats 1600000 in
theorem minP_c (ad : Option Addr) (cap : Nat) (r : List Int) (w : World) (hr : RdI w ad r) (h0 : 0 < r.length) (hl : r.length ≤ 1048576) (hb : r.getD 0 0 < 1000000000) :
    Calls Tryz.prog 37 #[.slice ad r.length cap] w fun e w' => e = .returned (.int .i64 (mnP (fun j => r.getD j 0) r.length)) ∧ w = w' := by
  obtain ⟨A, hA⟩ : ∃ A, mnP (fun j => r.getD j 0) r.length = A := ⟨_, rfl⟩
  rw [hA]
  have HA := Lib.hid hA; clear hA
  obtain ⟨b, off, rfl, hbl, k0⟩ := hr 0 h0
  rw [Nat.add_zero] at k0
  have HR := Lib.hid hr; clear hr
  have x0 : (0 : Int) < (r.length : Int) := by omega
  have x1 : ¬ ((r.length : Int) < 1) := by omega
  obtain ⟨X0, hX0⟩ : ∃ X, r.getD 0 0 = X := ⟨_, rfl⟩
  rw [hX0] at k0 hb
  have HX0 := Lib.hid (show mnP (fun j => r.getD j 0) 1 = X0 by unfold mnP mnP; simp only [hX0]; rw [if_pos hb]); clear hX0
  go_enter Tryz.func37, Tryz.ntmps37
  go_wp2_with fail
  go_loop [3, 4] (fun v i => ∃ k : Nat, 1 ≤ k ∧ k ≤ r.length ∧ i = .int .i64 k ∧ v = .int .i64 (mnP (fun j => r.getD j 0) k)) (fun _ i => r.length - (intOf i).toNat)
  case atStart => exact ⟨1, Nat.le_refl _, h0, rfl, by rw [HX0.out]⟩
  case round =>
    obtain ⟨k, hk1, hk, rfl, rfl⟩ := hrel
    by_cases hlt : k < r.length
    case neg =>
      obtain rfl : k = r.length := by omega
      rw [HA.out]
      go_wp2_with fail
      go_ret
      exact ⟨rfl, rfl⟩
    case pos =>
      have cc := HR.out.at hlt
      have x2 : (0 : Int) ≤ (k : Int) := by omega
      have x3 : (k : Int) < (r.length : Int) := by omega
      obtain ⟨W, hW⟩ : ∃ W, mnP (fun j => r.getD j 0) (k + 1) = W := ⟨_, rfl⟩
      have HW := Lib.hid hW
      unfold mnP at hW
      generalize mnP (fun j => r.getD j 0) k = V at hW ⊢
      obtain ⟨X, hX⟩ : ∃ X, r.getD k 0 = X := ⟨_, rfl⟩
      rw [hX] at cc hW
      have HV := Lib.hid hW
      clear hX hW
      go_wp2_with fail
      go_round
      case rel => exact ⟨k + 1, by omega, by omega, by go_num, by rw [HW.out, ← HV.out]; congr 1; split <;> omega⟩
      case measure => simp [intOf]; omega

set_option maxHeartbeats 1600000 in
theorem nuSum_c (ad : Option Addr) (cap : Nat) (r : List Int) (w : World) (hr : RdI w ad r) (hl : r.length ≤ 1048576) :
    Calls Tryz.prog 40 #[.slice ad r.length cap] w fun e w' => e = .returned (.int .i64 (mnP (fun j => r.getD j 0) r.length)) ∧ w = w' := by
  obtain ⟨A, hA⟩ : ∃ A, mnP (fun j => r.getD j 0) r.length = A := ⟨_, rfl⟩
  rw [hA]
  have HA := Lib.hid hA; clear hA
  have HR := Lib.hid hr; clear hr
  go_enter Tryz.func40, Tryz.ntmps40
  go_wp2_with fail
  go_loopw [3, 8] (fun v i wr => ∃ k : Nat, k ≤ r.length ∧ i = .int .i64 k ∧ v = .int .i64 (mnP (fun j => r.getD j 0) k) ∧ w = wr) (fun _ i _ => r.length - (intOf i).toNat)
  case atStart => exact ⟨0, Nat.zero_le _, rfl, rfl, rfl⟩
  case round =>
    obtain ⟨k, hk, rfl, rfl, rfl⟩ := hrel
    by_cases hlt : k < r.length
    case neg =>
      obtain rfl : k = r.length := by omega
      rw [HA.out]
      go_wp2_with fail
      go_ret
      exact ⟨rfl, rfl⟩
    case pos =>
      obtain ⟨b, off, rfl, hbl, cc⟩ := HR.out k hlt
      have x2 : (0 : Int) ≤ (k : Int) := by omega
      have x3 : (k : Int) < (r.length : Int) := by omega
      obtain ⟨W, hW⟩ : ∃ W, mnP (fun j => r.getD j 0) (k + 1) = W := ⟨_, rfl⟩
      have HW := Lib.hid hW
      unfold mnP at hW
      generalize mnP (fun j => r.getD j 0) k = V at hW ⊢
      obtain ⟨X, hX⟩ : ∃ X, r.getD k 0 = X := ⟨_, rfl⟩
      rw [hX] at cc hW
      have CL := Lib.hid (fun w => l1Least_z V X W (by rw [← hW]; split <;> omega) w)
      clear hX hW
      go_wp2_with fail
      refine (CL.out _).mono ?_
      rintro e w1 ⟨rfl, rfl⟩
      go_wp2_with fail
      go_roundw
      case rel => exact ⟨k + 1, by omega, by go_num, by rw [HW.out], trivial⟩
      case measure => simp [intOf]; omega
theorem vals_min (x y : Int) (l : List Tm) : mnP (fun j => (valsT x y l).getD j 0) (valsT x y l).length = mnV x y l := by unfold mnV; rw [vals_len]
theorem rdI_two (w : World) (x y : Int) : RdI (w.alloc (.cells #[.int .i64 x, .int .i64 y] 3)) (some ⟨w.heap.size, 0, none⟩) [x, y] := fun k hk => by
  have h : k = 0 ∨ k = 1 := by simp at hk; omega
  rcases h with rfl | rfl
  · exact ⟨_, 0, rfl, by simp, by simp [go_sem]⟩
  · exact ⟨_, 0, rfl, by simp, by simp [go_sem]⟩

set_option maxHeartbeats 1600000 in
set_option maxRecDepth 100000 in
theorem iPlaneValue_c (ad : Option Addr) (cap : Nat) (l : List Tm) (x y : Int) (w : World) (hr : RdT w ad l) (hl : l.length ≤ 1048576) :
    Calls Tryz.prog 12 #[.slice ad l.length cap, .int .i64 x, .int .i64 y] w fun e w' => e = .returned (pairV (pvZ l x y) (pvB l x y)) ∧ Below w.heap.size w w' := by
  have c1 := isPlane_c ad cap l w hr hl
  have HR := Lib.hid hr; clear hr
  obtain ⟨u, hu⟩ : ∃ u, planeB l = u := ⟨_, rfl⟩
  unfold pvZ pvB pairV
  rw [hu] at c1 ⊢
  have C1 := Lib.hid c1; clear c1
  cases u
  case false =>
    simp only [Bool.false_and, Bool.false_eq_true, if_false]
    clear hu
    go_enter Tryz.func12, Tryz.ntmps12
    go_wp2_with fail
    refine C1.out.mono ?_
    rintro e w1 ⟨rfl, hw1⟩
    go_wp2_with fail
    go_ret2
    exact ⟨rfl, hw1⟩
  case true =>
    have CF := Lib.hid (fun (w1 : World) => areFinite_c (some ⟨w1.heap.size, 0, none⟩) 2 [x, y] (w1.alloc (.cells #[.int .i64 x, .int .i64 y] 3)) (rdI_two w1 x y) (by simp))
    obtain ⟨v, hv⟩ : ∃ v, [x, y].all finB = v := ⟨_, rfl⟩
    rw [hv] at CF
    simp only [List.length_cons, List.length_nil, Nat.zero_add, Nat.reduceAdd] at CF
    have hv2 : (finB x && finB y) = v := by rw [← hv]; simp
    rw [Bool.true_and, ← Bool.and_assoc, hv2]
    clear hv
    cases v
    case false =>
      simp only [Bool.false_and, Bool.false_eq_true, if_false]
      clear hu hv2
      go_enter Tryz.func12, Tryz.ntmps12
      go_wp2_with fail
      refine C1.out.mono ?_
      rintro e w1 ⟨rfl, hw1⟩
      go_wp2_with fail
      refine (CF.out _).mono ?_
      rintro e w2 ⟨rfl, rfl⟩
      go_wp2_with fail
      go_ret2
      exact ⟨rfl, bal_alloc hw1⟩
    case true =>
      rw [Bool.and_eq_true] at hv2
      obtain ⟨hx, hy⟩ := hv2
      have hln := plane_len hu
      have hmb := mnV_bd hu hx hy
      have hb0 := vals_bd hu hx hy 0
      have CV := Lib.hid (fun (u : World) (h : Below w.heap.size w u) => planeValues_c ad cap l x y u (HR.out.below h) (by omega) (plane_term hu) hx hy)
      have hmn := vals_min x y l
      have hvl := vals_len x y l
      have CM := fun (ad' : Option Addr) (cap' : Nat) (u : World) (h : RdI u ad' (valsT x y l)) => minP_c ad' cap' (valsT x y l) u h (by omega) (by omega) (by omega)
      rw [hmn, hvl] at CM
      have CM := Lib.hid CM
      have CT := fun w => told_c (mnV x y l) w
      have hnum : numB (mnV x y l) = finB (mnV x y l) := by
        unfold numB finB
        rw [beq_eq_false_iff_ne.2 (show mnV x y l ≠ 1000000000 by omega), Bool.or_false]
      have htz : toldZ (mnV x y l) = if finB (mnV x y l) = true then mnV x y l else 0 := by unfold toldZ; rw [hnum]
      unfold pairV at CT
      rw [hnum, htz] at CT
      rw [Bool.true_and]
      generalize (if finB (mnV x y l) = true then mnV x y l else 0) = Z at CT ⊢
      generalize finB (mnV x y l) = fb at CT ⊢
      generalize mnV x y l = m at CT CM
      have CT := Lib.hid CT
      clear hu hx hy hmb hb0 hmn hnum htz hvl
      go_enter Tryz.func12, Tryz.ntmps12
      go_wp2_with fail
      refine C1.out.mono ?_
      rintro e w1 ⟨rfl, hw1⟩
      go_wp2_with fail
      refine (CF.out _).mono ?_
      rintro e w2 ⟨rfl, rfl⟩
      have HB := Lib.hid (bal_alloc (o := .cells #[.int .i64 x, .int .i64 y] 3) hw1)
      go_wp2_with fail
      refine (CV.out _ HB.out).mono ?_
      rintro e w3 ⟨av, cv, rfl, hrv, hb3⟩
      have CM := Lib.hid (CM.out av cv w3 hrv)
      have hb4 := ball HB.out hb3
      clear hrv
      go_wp2_with fail
      refine CM.out.mono ?_
      rintro e w4 ⟨rfl, rfl⟩
      go_wp2_with fail
      refine (CT.out _).mono ?_
      rintro e w4 ⟨rfl, rfl⟩
      go_wp2_with fail
      go_ret2
      exact ⟨rfl, hb4⟩

set_option maxHeartbeats 1600000 in
set_option maxRecDepth 100000 in
theorem plAsked_c (ad : Option Addr) (cap : Nat) (l : List Tm) (x y : Int) (w : World) (hr : RdT w ad l) (hl : l.length ≤ 1048576) :
    Calls Tryz.prog 39 #[.slice ad l.length cap, .int .i64 x, .int .i64 y] w fun e w' => e = .returned (.bool (pvB l x y)) ∧ Below w.heap.size w w' := by
  have c1 := plGood_c ad cap l w hr hl
  have HR := Lib.hid hr; clear hr
  obtain ⟨u, hu⟩ : ∃ u, planeB l = u := ⟨_, rfl⟩
  have cf1 : ∀ w, Calls Tryz.prog 67 #[.int .i64 x] w fun e w' => e = .returned (.bool (finB x)) ∧ w = w' := fun w => finS_c x w
  have cf2 : ∀ w, Calls Tryz.prog 67 #[.int .i64 y] w fun e w' => e = .returned (.bool (finB y)) ∧ w = w' := fun w => finS_c y w
  unfold pvB
  rw [hu] at c1 ⊢
  have C1 := Lib.hid c1; clear c1
  obtain ⟨a, ha⟩ : ∃ a, finB x = a := ⟨_, rfl⟩
  obtain ⟨b, hb⟩ : ∃ b, finB y = b := ⟨_, rfl⟩
  rw [ha] at cf1
  rw [hb] at cf2
  rw [ha, hb]
  have CF1 := Lib.hid cf1; have CF2 := Lib.hid cf2; clear cf1 cf2
  cases u
  case false =>
    simp only [Bool.false_and]
    clear hu ha hb
    go_enter Tryz.func39, Tryz.ntmps39
    go_wp2_with fail
    refine C1.out.mono ?_
    rintro e w1 ⟨rfl, hw1⟩
    go_wp2_with fail
    go_ret
    exact ⟨rfl, hw1⟩
  case true =>
    cases a
    case false =>
      simp only [Bool.false_and, Bool.and_false]
      clear hu ha hb
      go_enter Tryz.func39, Tryz.ntmps39
      go_wp2_with fail
      refine C1.out.mono ?_
      rintro e w1 ⟨rfl, hw1⟩
      go_wp2_with fail
      refine (CF1.out _).mono ?_
      rintro e w2 ⟨rfl, rfl⟩
      go_wp2_with fail
      go_ret
      exact ⟨rfl, hw1⟩
    case true =>
      cases b
      case false =>
        simp only [Bool.false_and, Bool.and_false]
        clear hu ha hb
        go_enter Tryz.func39, Tryz.ntmps39
        go_wp2_with fail
        refine C1.out.mono ?_
        rintro e w1 ⟨rfl, hw1⟩
        go_wp2_with fail
        refine (CF1.out _).mono ?_
        rintro e w2 ⟨rfl, rfl⟩
        go_wp2_with fail
        refine (CF2.out _).mono ?_
        rintro e w2 ⟨rfl, rfl⟩
        go_wp2_with fail
        go_ret
        exact ⟨rfl, hw1⟩
      case true =>
        simp only [Bool.true_and]
        have hln := plane_len hu
        have CV := Lib.hid (fun (u : World) (h : Below w.heap.size w u) => plValues_c ad cap l x y u (HR.out.below h) (by omega) (plane_term hu) ha hb)
        have hmn := vals_min x y l
        have hvl := vals_len x y l
        have CM := fun (ad' : Option Addr) (cap' : Nat) (u : World) (h : RdI u ad' (valsT x y l)) => nuSum_c ad' cap' (valsT x y l) u h (by omega)
        rw [hmn, hvl] at CM
        have CM := Lib.hid CM
        have cf3 : ∀ w, Calls Tryz.prog 67 #[.int .i64 (mnV x y l)] w fun e w' => e = .returned (.bool (finB (mnV x y l))) ∧ w = w' := fun w => finS_c _ w
        generalize finB (mnV x y l) = fb at cf3 ⊢
        generalize mnV x y l = m at cf3 CM
        have CF3 := Lib.hid cf3; clear cf3
        clear hu ha hb hmn hvl
        go_enter Tryz.func39, Tryz.ntmps39
        go_wp2_with fail
        refine C1.out.mono ?_
        rintro e w1 ⟨rfl, hw1⟩
        go_wp2_with fail
        refine (CF1.out _).mono ?_
        rintro e w2 ⟨rfl, rfl⟩
        go_wp2_with fail
        refine (CF2.out _).mono ?_
        rintro e w2 ⟨rfl, rfl⟩
        have HB := Lib.hid hw1
        go_wp2_with fail
        refine (CV.out _ HB.out).mono ?_
        rintro e w3 ⟨av, cv, rfl, hrv, hb3⟩
        have CM := Lib.hid (CM.out av cv w3 hrv)
        have hb4 := ball HB.out hb3
        clear hrv
        go_wp2_with fail
        refine CM.out.mono ?_
        rintro e w4 ⟨rfl, rfl⟩
        go_wp2_with fail
        refine (CF3.out _).mono ?_
        rintro e w4 ⟨rfl, rfl⟩
        go_wp2_with fail
        go_ret
        exact ⟨rfl, hb4⟩

set_option maxHeartbeats 1600000 in
set_option maxRecDepth 100000 in
theorem sPlaneValue_c (ad : Option Addr) (cap : Nat) (l : List Tm) (x y : Int) (w : World) (hr : RdT w ad l) (hl : l.length ≤ 1048576) :
    Calls Tryz.prog 13 #[.slice ad l.length cap, .int .i64 x, .int .i64 y] w fun e w' => e = .returned (pairV (pvZ l x y) (pvB l x y)) ∧ Below w.heap.size w w' := by
  have c1 := plAsked_c ad cap l x y w hr hl
  have HR := Lib.hid hr; clear hr
  unfold pvZ pairV
  obtain ⟨u, hu⟩ : ∃ u, pvB l x y = u := ⟨_, rfl⟩
  rw [hu] at c1 ⊢
  have C1 := Lib.hid c1; clear c1
  cases u
  case false =>
    simp only [Bool.false_eq_true, if_false]
    clear hu
    go_enter Tryz.func13, Tryz.ntmps13
    go_wp2_with fail
    refine C1.out.mono ?_
    rintro e w1 ⟨rfl, hw1⟩
    go_wp2_with fail
    go_ret2
    exact ⟨rfl, hw1⟩
  case true =>
    rw [if_pos rfl]
    unfold pvB at hu
    simp only [Bool.and_eq_true] at hu
    obtain ⟨hp, hx, hy, _⟩ := hu
    have hln := plane_len hp
    have CV := Lib.hid (fun (u : World) (h : Below w.heap.size w u) => plValues_c ad cap l x y u (HR.out.below h) (by omega) (plane_term hp) hx hy)
    have hmn := vals_min x y l
    have hvl := vals_len x y l
    have CM := fun (ad' : Option Addr) (cap' : Nat) (u : World) (h : RdI u ad' (valsT x y l)) => nuSum_c ad' cap' (valsT x y l) u h (by omega)
    rw [hmn, hvl] at CM
    generalize mnV x y l = m at CM ⊢
    have CM := Lib.hid CM
    clear hp hx hy hmn hvl
    go_enter Tryz.func13, Tryz.ntmps13
    go_wp2_with fail
    refine C1.out.mono ?_
    rintro e w1 ⟨rfl, hw1⟩
    have HB := Lib.hid hw1
    go_wp2_with fail
    refine (CV.out _ HB.out).mono ?_
    rintro e w3 ⟨av, cv, rfl, hrv, hb3⟩
    have CM := Lib.hid (CM.out av cv w3 hrv)
    have hb4 := ball HB.out hb3
    clear hrv
    go_wp2_with fail
    refine CM.out.mono ?_
    rintro e w4 ⟨rfl, rfl⟩
    go_wp2_with fail
    go_ret2
    exact ⟨rfl, hb4⟩

set_option maxHeartbeats 1600000 in
set_option maxRecDepth 100000 in
theorem iTotalDegree_c (ad : Option Addr) (cap : Nat) (l : List Tm) (w : World) (hr : RdT w ad l) (hl : l.length ≤ 1048576) :
    Calls Tryz.prog 14 #[.slice ad l.length cap] w fun e w' => e = .returned (pairV (if planeB l = true then dgZ l else 0) (planeB l)) ∧ Below w.heap.size w w' := by
  have c1 := isPlane_c ad cap l w hr hl
  have HR := Lib.hid hr; clear hr
  unfold pairV
  obtain ⟨u, hu⟩ : ∃ u, planeB l = u := ⟨_, rfl⟩
  rw [hu] at c1 ⊢
  have C1 := Lib.hid c1; clear c1
  cases u
  case false =>
    simp only [Bool.false_eq_true, if_false]
    clear hu
    go_enter Tryz.func14, Tryz.ntmps14
    go_wp2_with fail
    refine C1.out.mono ?_
    rintro e w1 ⟨rfl, hw1⟩
    go_wp2_with fail
    go_ret2
    exact ⟨rfl, hw1⟩
  case true =>
    rw [if_pos rfl]
    have hln := plane_len hu
    have HTB := Lib.hid (fun k (h : k < l.length) => termB_t (plane_term hu _ (getD_memT h)))
    have HDB := Lib.hid (dgK_bd (plane_term hu))
    clear hu
    unfold dgZ
    obtain ⟨Z, hZ⟩ : ∃ Z, dgK l l.length = Z := ⟨_, rfl⟩
    rw [hZ]
    have HZ := Lib.hid hZ; clear hZ
    go_enter Tryz.func14, Tryz.ntmps14
    go_wp2_with fail
    refine C1.out.mono ?_
    rintro e w1 ⟨rfl, hw1⟩
    have HB1 := Lib.hid hw1; clear hw1
    go_wp2_with fail
    go_loopw [4, 12] (fun v i wr => ∃ k : Nat, k ≤ l.length ∧ i = .int .i64 k ∧ v = .int .i64 (dgK l k) ∧ Below w.heap.size w wr) (fun _ i _ => l.length - (intOf i).toNat)
    case atStart => exact ⟨0, Nat.zero_le _, rfl, rfl, HB1.out⟩
    case round =>
      obtain ⟨wE, rfl⟩ : ∃ x : World, x = wr := ⟨_, rfl⟩
      obtain ⟨k, hk, rfl, rfl, hbel⟩ := hrel
      by_cases hlt : k < l.length
      case neg =>
        obtain rfl : k = l.length := by omega
        rw [HZ.out]
        go_wp2_with fail
        go_ret2
        exact ⟨rfl, hbel⟩
      case pos =>
        have htb := HTB.out k hlt
        obtain ⟨c, off, rfl, hc, c0, c1, c2⟩ := HR.out k hlt
        have d0 := bcell hbel hc c0
        have d1 := bcell hbel hc c1
        have d2 := bcell hbel hc c2
        have hcE : c < wE.heap.size := Nat.lt_of_lt_of_le hc hbel.size
        obtain ⟨D, hD⟩ : ∃ D, dgK l (k + 1) = D := ⟨_, rfl⟩
        have HD := Lib.hid hD
        unfold dgK at hD
        generalize dgK l k = V at hD ⊢
        generalize l.getD k default = T at d0 d1 d2 htb hD
        obtain ⟨ti, tj, tc⟩ := T
        simp only at htb hD
        have e1 : IntKind.i64.wrap (ti + tj) = ti + tj := i64_small (by omega) (by omega)
        have HDD := Lib.hid hD
        have x1 : (0 : Int) ≤ (k : Int) := by omega
        have x2 : (k : Int) < (l.length : Int) := by omega
        clear c0 c1 c2 hD
        go_wp2_with fail
        clear e1
        go_roundw
        case rel => exact ⟨k + 1, by omega, by go_num, by rw [HD.out, ← HDD.out], bal_alloc hbel⟩
        case measure => simp [intOf]; omega

end Go.Proofs.YtbafgmicpopnoaaGreatDoor

/-
  Plane polynomials: the law, plain. By an AI agent.
-/
namespace Go.Proofs.YtbafgmicpopnoaaGreatDoor
open Go.RowKit

theorem befP_T {p q : Tm} (h : befP p q) : befT p q = true := by rw [befT_dec]; exact decide_eq_true h
theorem planeB_of {l : List Tm} (h1 : 1 ≤ l.length ∧ l.length ≤ 12) (ht : ∀ t ∈ l, termB t = true) (hs : StrictT l) : planeB l = true := by
  unfold planeB
  have hk : ∀ k, k ≤ l.length → plnK l k = true := by
    intro k
    induction k with
    | zero => intro _; rfl
    | succ k ih =>
      intro hk
      unfold plnK
      rw [ih (by omega)]
      have h2 : termB (tmAt l k) = true := ht _ (getD_memT (by omega))
      rw [h2]
      simp only [Bool.true_and, Bool.or_eq_true, decide_eq_true_eq]
      by_cases e : k = 0
      · exact Or.inl e
      · refine Or.inr (befP_T ?_)
        unfold StrictT at hs
        rw [List.pairwise_iff_getElem] at hs
        have := hs (k - 1) k (by omega) (by omega) (by omega)
        unfold tmAt
        rwa [List.getD_eq_getElem?_getD, List.getD_eq_getElem?_getD, List.getElem?_eq_getElem (show k - 1 < l.length by omega), List.getElem?_eq_getElem (show k < l.length by omega)]
  rw [hk _ (Nat.le_refl _), Bool.and_true]
  exact inB_t.2 (by omega)
theorem swp_plane {l : List Tm} (h : planeB l = true) : planeB (swpT l) = true := by
  have hl := plane_len h
  have h1 := gth_len (l.map swT)
  have h2 := gth_pos (l := l.map swT) (by rw [List.length_map]; omega)
  rw [List.length_map] at h1
  refine planeB_of (show 1 ≤ (gth (l.map swT)).length ∧ _ from ⟨by omega, by unfold swpT; omega⟩) (fun t ht => ?_) (gth_strict _)
  have := (swp_mem (plane_strict h) t).1 ht
  have h3 := termB_t (plane_term h _ this)
  unfold termB
  unfold swT at h3
  simp only at h3
  simp only [Bool.and_eq_true, inB_t]
  omega
/-- What the law asks of a product. -/
structure PrdG (a b P : List Tm) (x y : Int) : Prop where
  pa : planeB a = true
  pb : planeB b = true
  pp : planeB P = true
  dg : dgZ P = dgZ a + dgZ b
  v1 : pvB a x y = true → pvB b x y = true → pvB P x y = numB (pvZ a x y + pvZ b x y)
  v2 : pvB a x y = true → pvB b x y = true → pvB P x y = true → pvZ P x y = pvZ a x y + pvZ b x y
theorem leastF_neg {l : List Tm} {m n : Int} (h : LeastF dgT l m) (k : LeastF dgT l n) : m = n := leastF_one h k
theorem pvB_t {l : List Tm} {x y : Int} (h : pvB l x y = true) : planeB l = true ∧ finB x = true ∧ finB y = true ∧ finB (mnV x y l) = true ∧ pvZ l x y = mnV x y l := by
  have h' := h
  unfold pvB at h'
  simp only [Bool.and_eq_true] at h'
  exact ⟨h'.1, h'.2.1, h'.2.2.1, h'.2.2.2, by unfold pvZ; rw [if_pos h]⟩
theorem prdG {a b : List Tm} (x y : Int) (h : prdOk a b = true) : PrdG a b (gth (prdL a b)) x y := by
  unfold prdOk at h
  simp only [Bool.and_eq_true] at h
  obtain ⟨pa, pb, pp⟩ := h
  have hv : ∀ _ : pvB a x y = true, ∀ _ : pvB b x y = true, pvB (gth (prdL a b)) x y = finB (pvZ a x y + pvZ b x y) ∧ (-2000000 ≤ pvZ a x y + pvZ b x y ∧ pvZ a x y + pvZ b x y ≤ 2000000) ∧ mnV x y (gth (prdL a b)) = pvZ a x y + pvZ b x y := fun h1 h2 => by
    obtain ⟨_, hx, hy, f1, e1⟩ := pvB_t h1
    obtain ⟨_, _, _, f2, e2⟩ := pvB_t h2
    have e3 := leastF_one (mnV_least pp hx hy) (value_prod (mnV_least pa hx hy) (mnV_least pb hx hy))
    have g1 := fin_b f1
    have g2 := fin_b f2
    refine ⟨?_, by omega, by omega⟩
    unfold pvB
    rw [pp, hx, hy, e3, e1, e2]
    rfl
  refine ⟨pa, pb, pp, ?_, fun h1 h2 => ?_, fun h1 h2 h3 => ?_⟩
  · have := leastF_neg (dgZ_least pp) (deg_prod (dgZ_least pa) (dgZ_least pb))
    omega
  · obtain ⟨e1, e2, _⟩ := hv h1 h2
    rw [e1]
    unfold numB finB
    rw [beq_eq_false_iff_ne.2 (show pvZ a x y + pvZ b x y ≠ 1000000000 by omega), Bool.or_false]
  · obtain ⟨_, _, e3⟩ := hv h1 h2
    rw [(pvB_t h3).2.2.2.2, e3]
structure SumG (a b P : List Tm) (x y : Int) : Prop where
  v1 : pvB P x y = true
  v2 : ¬ (pvZ a x y < pvZ P x y) ∧ ¬ (pvZ b x y < pvZ P x y)
  v3 : pvZ P x y = pvZ a x y ∨ pvZ P x y = pvZ b x y
theorem sumG {a b : List Tm} {x y : Int} (h : sumOk a b = true) (h1 : pvB a x y = true) (h2 : pvB b x y = true) : SumG a b (gth (a ++ b)) x y := by
  unfold sumOk at h
  simp only [Bool.and_eq_true] at h
  obtain ⟨pa, pb, pp⟩ := h
  obtain ⟨_, hx, hy, f1, e1⟩ := pvB_t h1
  obtain ⟨_, _, _, f2, e2⟩ := pvB_t h2
  have e3 := leastF_one (mnV_least pp hx hy) (value_sum (mnV_least pa hx hy) (mnV_least pb hx hy))
  have g1 := fin_b f1
  have g2 := fin_b f2
  have hp : pvB (gth (a ++ b)) x y = true := by
    unfold pvB
    rw [pp, hx, hy, e3]
    simp only [Bool.true_and]
    unfold finB
    exact inB_t.2 (by omega)
  have e4 := (pvB_t hp).2.2.2.2
  refine ⟨hp, ?_, ?_⟩
  · rw [e4, e1, e2, e3]; omega
  · rw [e4, e1, e2, e3]; omega
theorem ptx_len (l : List Tm) : (ptxO l).length ≤ 1000 := by
  unfold ptxO
  split
  · rename_i h
    have := plnTxt_len l (plane_term h)
    have := (plane_len h).2
    omega
  · simp
theorem ptx_par {l : List Tm} (h : planeB l = true) : plnB (ptxO l) = true ∧ plnL (ptxO l) = l := by
  unfold ptxO
  rw [if_pos h]
  exact pln_txt h
theorem plnL_len (s : List UInt8) : (if plnB s = true then plnL s else []).length ≤ 12 := by
  split
  · rename_i h; exact (plane_len (plnB_t h).1).2
  · simp
theorem prdR_len (a b : List Tm) : (if prdOk a b = true then gth (prdL a b) else []).length ≤ 12 := by
  split
  · rename_i h; exact (plane_len (prdG 0 0 h).pp).2
  · simp
theorem sumR_len (a b : List Tm) : (if sumOk a b = true then gth (a ++ b) else []).length ≤ 12 := by
  split
  · rename_i h
    unfold sumOk at h
    simp only [Bool.and_eq_true] at h
    exact (plane_len h.2.2).2
  · simp
theorem swpR_len (a : List Tm) : (if planeB a = true then swpT a else []).length ≤ 12 := by
  split
  · rename_i h; exact (plane_len (swp_plane h)).2
  · simp
end Go.Proofs.YtbafgmicpopnoaaGreatDoor
