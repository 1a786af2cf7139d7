/-
  Some texts of this proof in one: CsN CsO CsQ CsR. Each part tells what it proves. By an AI agent.
-/
import Derived.Test.YtbcmnhppodfhpaaGreatCsK
import Derived.Test.YtbcmnhppodfhpaaGreatCpW
import Derived.Test.YtbcmnhppodfhpaaGreatCpZ
import Derived.Test.YtbcmnhppodfhpaaGreatCsB
import Derived.Test.YtbcmnhppodfhpaaGreatCsE
import Derived.Deep.QuietTactic

/-
  The reference's ceFind and ceSides. By an AI agent.
-/
namespace Go.Proofs.YtbcmnhppodfhpaaGreat
open Go.RowKit

set_option maxHeartbeats 800000 in
set_option maxRecDepth 100000 in
theorem ceFind_c (bl ol cap : Nat) (L : List Tm) (x y : Int) (t : Nat) (w : World) (hr : RdT w (some ⟨bl, ol, none⟩) L) (hl : L.length ≤ 1000) (ht : t < L.length) (hx : (tmAt L t).i = x) (hy : (tmAt L t).j = y) (hf : ∀ j, j < t → ¬ ((tmAt L j).i = x ∧ (tmAt L j).j = y)) :
    Calls Tryz.prog 92 #[.slice (some ⟨bl, ol, none⟩) L.length cap, .agg #[.int .i64 x, .int .i64 y]] w fun e w' => e = .returned (.int .i64 (t : Int)) ∧ Below w.heap.size w w' := by
  have HR := Lib.hid hr
  have HF := Lib.hid hf
  have HPT := Lib.hid (fun (t : Tm) w => cePoint_c t w)
  have HXT := Lib.hid (And.intro hx hy)
  obtain ⟨n, hn⟩ : ∃ n, L.length = n := ⟨_, rfl⟩
  have HN := Lib.hid hn
  rw [hn] at ht hl ⊢
  obtain ⟨B, hB⟩ : ∃ B, w.heap.size = B := ⟨_, rfl⟩
  have hO : Own (w.alloc (.cells #[.int .i64 x, .int .i64 y] 73)) B 73 [.int .i64 x, .int .i64 y] := Own.newHG _ _ _ rfl hB
  have k0 := hO.cell? (i := 0) rfl
  have k1 := hO.cell? (i := 1) rfl
  have hlt0 := hO.lt
  have hb0 : Below w.heap.size w (w.alloc (.cells #[.int .i64 x, .int .i64 y] 73)) := bal_alloc (Below.refl _ _)
  have HB0 := Lib.hid hb0
  clear hr hf hx hy hn hO hb0
  go_enter Tryz.func92, Tryz.ntmps92
  go_wp2_with fail
  try rw [hB]
  generalize hW0 : w.alloc (.cells #[.int .i64 x, .int .i64 y] 73) = W0 at *
  go_loopw [5] (fun i wr => ∃ k : Nat, k ≤ t ∧ i = .int .i64 k ∧ Below W0.heap.size W0 wr) (fun i _ => n - (intOf i).toNat)
  case atStart => exact ⟨0, Nat.zero_le _, rfl, Below.refl _ _⟩
  case round =>
    obtain ⟨wE, rfl⟩ : ∃ u : World, u = wr := ⟨_, rfl⟩
    obtain ⟨k, hk, rfl, hbel⟩ := hrel
    have q0 := bcell hbel hlt0 k0
    have q1 := bcell hbel hlt0 k1
    have hbw := HB0.out.trans (hbel.mono HB0.out.size)
    have hpp := RdT.at (HR.out.below hbw) (show k < L.length by rw [HN.out]; omega)
    have p0 : wE.cell? ⟨bl, ol + k * 3, none⟩ = some (.int .i64 (tmAt L k).i) := hpp.1
    have p1 : wE.cell? ⟨bl, ol + k * 3 + 1, none⟩ = some (.int .i64 (tmAt L k).j) := hpp.2.1
    have p2 : wE.cell? ⟨bl, ol + k * 3 + 2, none⟩ = some (.int .i64 (tmAt L k).c) := hpp.2.2
    clear hpp
    have x1 : (0 : Int) ≤ (k : Int) := by omega
    have x2 : (k : Int) < (n : Int) := by omega
    have HBW := Lib.hid hbw; clear hbw
    have hblE : bl < wE.heap.size := (cell_lt p0)
    have hBE : B < wE.heap.size := (cell_lt q0)
    by_cases hlt : k < t
    case neg =>
      obtain rfl : k = t := by omega
      obtain ⟨e1, e2⟩ := HXT.out
      rw [e1] at p0
      rw [e2] at p1
      generalize (tmAt L k).c = c at p2
      have CP := Lib.hid (fun w => HPT.out ⟨x, y, c⟩ w)
      clear e1 e2
      go_wp2_with fail
      go_region_held3 (fun w' => (w'.cell? ⟨bl, ol + k * 3, none⟩ = some (.int .i64 x) ∧ w'.cell? ⟨bl, ol + k * 3 + 1, none⟩ = some (.int .i64 y) ∧ w'.cell? ⟨bl, ol + k * 3 + 2, none⟩ = some (.int .i64 c)) ∧ w'.cell? ⟨B, 0, none⟩ = some (.int .i64 x) ∧ w'.cell? ⟨B, 1, none⟩ = some (.int .i64 y)) (exact ⟨⟨by assumption, by assumption, by assumption⟩, by assumption, by assumption⟩)
        ((go_at_call 69; (with_reducible refine (CP.out _).mono ?_); rintro e W1 ⟨rfl, hw1⟩; have hb1 : Below wE.heap.size wE W1 := ball (by with_reducible (first | exact Below.refl _ _ | exact (Below.refl _ _).drew)) hw1; have p10 := bcell hb1 hblE p0; have p11 := bcell hb1 hblE p1; have p12 := bcell hb1 hblE p2; have q10 := bcell hb1 hBE q0; have q11 := bcell hb1 hBE q1))
      all_goals
        go_wp2_with fail
        go_ret
        exact ⟨rfl, HBW.out.trans (hb1.mono HBW.out.size)⟩
    case pos =>
      have hne := HF.out k hlt
      generalize tmAt L k = T at p0 p1 p2 hne
      obtain ⟨ti, tj, tc⟩ := T
      have CP := Lib.hid (fun w => HPT.out ⟨ti, tj, tc⟩ w)
      simp only at p0 p1 p2 hne
      by_cases h1 : ti = x
      case pos =>
        have h2 : ¬ tj = y := fun e => hne ⟨h1, e⟩
        subst h1
        clear hne
        go_wp2_with fail
        go_region_held3 (fun w' => (w'.cell? ⟨bl, ol + k * 3, none⟩ = some (.int .i64 ti) ∧ w'.cell? ⟨bl, ol + k * 3 + 1, none⟩ = some (.int .i64 tj) ∧ w'.cell? ⟨bl, ol + k * 3 + 2, none⟩ = some (.int .i64 tc)) ∧ w'.cell? ⟨B, 0, none⟩ = some (.int .i64 ti) ∧ w'.cell? ⟨B, 1, none⟩ = some (.int .i64 y)) (exact ⟨⟨by assumption, by assumption, by assumption⟩, by assumption, by assumption⟩)
          ((go_at_call 69; (with_reducible refine (CP.out _).mono ?_); rintro e W1 ⟨rfl, hw1⟩; have hb1 : Below wE.heap.size wE W1 := ball (by with_reducible (first | exact Below.refl _ _ | exact (Below.refl _ _).drew)) hw1; have p10 := bcell hb1 hblE p0; have p11 := bcell hb1 hblE p1; have p12 := bcell hb1 hblE p2; have q10 := bcell hb1 hBE q0; have q11 := bcell hb1 hBE q1))
        all_goals
          go_wp2_with fail
          go_roundw
          case rel => exact ⟨k + 1, by omega, by go_num, hbel.trans (hb1.mono hbel.size)⟩
          case measure => simp [intOf]; omega
      case neg =>
        clear hne
        go_wp2_with fail
        go_region_held3 (fun w' => (w'.cell? ⟨bl, ol + k * 3, none⟩ = some (.int .i64 ti) ∧ w'.cell? ⟨bl, ol + k * 3 + 1, none⟩ = some (.int .i64 tj) ∧ w'.cell? ⟨bl, ol + k * 3 + 2, none⟩ = some (.int .i64 tc)) ∧ w'.cell? ⟨B, 0, none⟩ = some (.int .i64 x) ∧ w'.cell? ⟨B, 1, none⟩ = some (.int .i64 y)) (exact ⟨⟨by assumption, by assumption, by assumption⟩, by assumption, by assumption⟩)
          ((go_at_call 69; (with_reducible refine (CP.out _).mono ?_); rintro e W1 ⟨rfl, hw1⟩; have hb1 : Below wE.heap.size wE W1 := ball (by with_reducible (first | exact Below.refl _ _ | exact (Below.refl _ _).drew)) hw1; have p10 := bcell hb1 hblE p0; have p11 := bcell hb1 hblE p1; have p12 := bcell hb1 hblE p2; have q10 := bcell hb1 hBE q0; have q11 := bcell hb1 hBE q1))
        all_goals
          go_wp2_with fail
          go_roundw
          case rel => exact ⟨k + 1, by omega, by go_num, hbel.trans (hb1.mono hbel.size)⟩
          case measure => simp [intOf]; omega

theorem rowI_pair (u : World) (B H : Nat) (x y : Int) (hB : B ≤ u.heap.size) (hH : u.heap.size = H) : RowI (u.alloc (.cells #[.int .i64 x, .int .i64 y] 3)) B (.slice (some ⟨H, 0, none⟩) 2 2) [x, y] := by
  subst hH
  exact ⟨rfl, Or.inr ⟨u.heap.size, 2, #[.int .i64 x, .int .i64 y], rfl, hB, heap_alloc_new u _, Nat.le_refl _, by unfold maxLen; omega, rfl, rfl⟩⟩
set_option maxHeartbeats 400000 in
theorem l1LeastN_c (a b : Int) (w : World) :
    Calls Tryz.prog 93 #[.int .i64 a, .int .i64 b] w fun e w' => e = .returned (.int .i64 (min a b)) ∧ w = w' := by
  by_cases h : a < b
  · have h1 : min a b = a := by omega
    rw [h1]
    go_enter Tryz.func93, Tryz.ntmps93
    go_wp2_with fail
    go_ret
    exact ⟨rfl, rfl⟩
  · have h1 : min a b = b := by omega
    rw [h1]
    go_enter Tryz.func93, Tryz.ntmps93
    go_wp2_with fail
    go_ret
    exact ⟨rfl, rfl⟩
theorem l1MostN_c (a b : Int) (w : World) :
    Calls Tryz.prog 84 #[.int .i64 a, .int .i64 b] w fun e w' => e = .returned (.int .i64 (max a b)) ∧ w = w' := by
  have h := l1Most_c a b w
  have e : (if a > b then a else b) = max a b := by split <;> omega
  rw [e] at h
  exact h

/-! ### the sides of a cell -/
/-- where the point of a corner is found. -/
theorem find_at {L : List Tm} (hd : Dist L) {xs : List Int} (hin : ∀ x ∈ xs, ∃ t : Nat, x = t ∧ t < L.length) {p : Pt} (hp : p ∈ hulX L xs) : ∃ t : Nat, t < L.length ∧ ixP L p = t ∧ (tmAt L t).i = p.x ∧ (tmAt L t).j = p.y ∧ ∀ j, j < t → ¬ ((tmAt L j).i = p.x ∧ (tmAt L j).j = p.y) := by
  obtain ⟨t, _, ht, rfl⟩ := hulX_in hin p hp
  refine ⟨t, ht, ix_at hd ht, rfl, rfl, fun j hj ⟨e1, e2⟩ => ?_⟩
  have := hd j t (by omega) ht (pt_ext e1 e2)
  omega
theorem prX_get (L : List Tm) (C : List Int) {k : Nat} (h : k < (hulX L C).length) : ((prX L C).map prL).take (k + 1) = ((prX L C).map prL).take k ++ [[min (ixP L ((hulX L C).getD k default)) (ixP L (nextP (hulX L C) k)), max (ixP L ((hulX L C).getD k default)) (ixP L (nextP (hulX L C) k))]] := by
  have hl : k < ((prX L C).map prL).length := by
    rw [List.length_map]; unfold prX; rw [List.length_map, sides_len]; exact h
  rw [List.take_succ_eq_append_getElem hl]
  congr 2
  have h3 : k < (Geo.sidesF (hulX L C)).length := by rw [sides_len]; exact h
  have e := sides_get (hulX L C) k h
  simp only [prX, List.getElem_map, e]
  rfl
theorem prX_len (L : List Tm) (C : List Int) : ((prX L C).map prL).length = (hulX L C).length := by rw [List.length_map]; unfold prX; rw [List.length_map, sides_len]
/-- the list of sides so far, in memory. -/
def SdR (W : World) (M : List (List Int)) (v : Value) (w : World) : Prop := (∃ vs, MatL w W.heap.size W.heap.size v (LstSort.putF M) vs) ∧ Below W.heap.size W w
theorem SdR.shape {W w : World} {M : List (List Int)} {v : Value} (h : SdR W M v w) : ∃ ad cap, v = .slice ad (LstSort.putF M).length cap := by
  obtain ⟨⟨vs, hm⟩, _⟩ := h
  obtain ⟨ad, cap, e, _⟩ := hm.shape
  exact ⟨ad, cap, e⟩
theorem two_rows {M : List (List Int)} (h : ∀ x ∈ M, x.length = 2) : ∀ x ∈ LstSort.putF M, x.length = 2 := fun x hx => h x ((LstSort.putF_mem _ _).1 hx)
theorem prX_two (L : List Tm) (C : List Int) (k : Nat) : ∀ x ∈ ((prX L C).map prL).take k, x.length = 2 := fun x hx => by
  obtain ⟨e, _, rfl⟩ := List.mem_map.1 (List.mem_of_mem_take hx)
  rfl

set_option maxHeartbeats 3200000 in
set_option maxRecDepth 100000 in
theorem ceSides_c (bl ol cap : Nat) (L : List Tm) (adx : Option Addr) (capx : Nat) (xs : List Int) (w : World) (hr : RdT w (some ⟨bl, ol, none⟩) L) (hp : ∀ k, k < L.length → termB (tmAt L k) = true) (hl : L.length ≤ 12) (hd : Dist L) (hx : RdI w adx xs) (hxl : xs.length ≤ 12) (hin : ∀ x ∈ xs, ∃ t : Nat, x = t ∧ t < L.length) :
    Calls Tryz.prog 64 #[.slice (some ⟨bl, ol, none⟩) L.length cap, .slice adx xs.length capx] w (PutR w.heap.size (LstSort.putF ((prX L xs).map prL)) w) := by
  have CP := Lib.hid (cePolygon_c bl ol cap L adx capx xs w hr hp hx hxl hin)
  have hhl : (hulX L xs).length ≤ 24 := by have := hulX_len L xs; omega
  have HFD := Lib.hid (fun k (hk : k < (hulX L xs).length) => find_at hd hin (Geo.getD_memG hk))
  have HFN := Lib.hid (fun k (hk : k < (hulX L xs).length) => find_at (p := nextP (hulX L xs) k) hd hin (Geo.getD_memG (Nat.mod_lt _ (by omega))))
  have HCF := Lib.hid (fun (u : World) (h : Below w.heap.size w u) (p : Pt) (t : Nat) (h1 : t < L.length) (h2 : (tmAt L t).i = p.x) (h3 : (tmAt L t).j = p.y) (h4 : ∀ j, j < t → ¬ ((tmAt L j).i = p.x ∧ (tmAt L j).j = p.y)) => ceFind_c bl ol cap L p.x p.y t u (hr.below h) (by omega) h1 h2 h3 h4)
  have HST := Lib.hid (fun k (hk : k < (hulX L xs).length) => prX_get L xs hk)
  have HLE := Lib.hid (fun k => show (LstSort.putF (((prX L xs).map prL).take k)).length ≤ 24 from by
    have h1 := putF_len (((prX L xs).map prL).take k)
    have h2 := prX_len L xs
    rw [List.length_take] at h1
    omega)
  have HRL := Lib.hid (fun k => show ∀ r ∈ LstSort.putF (((prX L xs).map prL).take k), r.length ≤ 100000 from fun r hr => by have := two_rows (prX_two L xs k) r hr; omega)
  have HAL := Lib.hid (show ((prX L xs).map prL).take (hulX L xs).length = (prX L xs).map prL from List.take_of_length_le (by rw [prX_len]; exact Nat.le_refl _))
  have HNX := Lib.hid (fun k => show nextP (hulX L xs) k = (hulX L xs).getD ((k + 1) % (hulX L xs).length) default from rfl)
  generalize hPL : (prX L xs).map prL = PL at *
  generalize hulX L xs = H at *
  generalize nextP H = NXT at HFN HST HNX
  obtain ⟨m, hm⟩ : ∃ m, H.length = m := ⟨_, rfl⟩
  unfold HullTo at CP
  rw [hm] at HFD HFN HST HAL HNX hhl CP
  obtain ⟨n, hn⟩ : ∃ n, L.length = n := ⟨_, rfl⟩
  rw [hn] at HFD HFN HCF CP hl ⊢
  have HM := Lib.hid hm
  generalize xs.length = nx at CP ⊢
  clear hr hp hd hx hxl hin hm hPL hn
  go_enter Tryz.func64, Tryz.ntmps64
  go_wp2_with fail
  refine CP.out.mono ?_
  rintro e w1 ⟨adh, caph, rfl, hrh, hb1⟩
  have HRH := Lib.hid hrh
  have HB1 := Lib.hid hb1
  clear CP hrh hb1
  go_wp2_with fail
  go_loopw [5, 16] (fun s i wr => ∃ k : Nat, k ≤ m ∧ i = .int .i64 k ∧ SdR w (PL.take k) s wr ∧ Below w1.heap.size w1 wr) (fun _ i _ => m - (intOf i).toNat)
  case atStart => exact ⟨0, Nat.zero_le _, rfl, ⟨⟨[], MatL.nil _ _ _⟩, HB1.out⟩, Below.refl _ _⟩
  case round =>
    obtain ⟨wE, rfl⟩ : ∃ x : World, x = wr := ⟨_, rfl⟩
    obtain ⟨k, hk, rfl, hsd, hbel⟩ := hrel
    obtain ⟨ady, cpy, rfl⟩ := hsd.shape
    have hle := HLE.out k
    have hrl := HRL.out k
    have HSD := Lib.hid hsd; clear hsd
    by_cases hlt : k < m
    case neg =>
      obtain rfl : m = k := by omega
      obtain ⟨⟨vs, hm9⟩, hbw⟩ := HSD.out
      rw [HAL.out] at hm9 ⊢
      have HM9 := Lib.hid hm9
      clear hm9 hle hrl
      go_wp2_with fail
      go_ret
      exact ⟨_, _, vs, rfl, HM9.out, hbw⟩
    case pos =>
      obtain ⟨kn, hkn⟩ : ∃ z, (k + 1) % m = z := ⟨_, rfl⟩
      have hknl : kn < m := by rw [← hkn]; exact Nat.mod_lt _ (by omega)
      obtain ⟨b, o, rfl, hb, c0, c1⟩ := (HRH.out.below hbel) k (by rw [HM.out]; exact hlt)
      obtain ⟨d0, d1⟩ := RdP.at (HRH.out.below hbel) (j := kn) (by rw [HM.out]; exact hknl)
      obtain ⟨t, ht, hit, e1, e2, hf⟩ := HFD.out k hlt
      obtain ⟨s, hs, his, e3, e4, hf2⟩ := HFN.out k hlt
      have hstep := HST.out k hlt
      rw [hit, his] at hstep
      rw [HNX.out k, hkn] at e3 e4 hf2
      have CA := fun u h => HCF.out u h _ t ht e1 e2 hf
      have CB := fun u h => HCF.out u h _ s hs e3 e4 hf2
      have hwE := HSD.out.2
      have r1 : Int.tmod ((k : Int) + 1) (m : Int) = (kn : Int) := by rw [← hkn]; rfl
      have r2 : IntKind.i64.wrap ((k : Int) + 1) = (k : Int) + 1 := i64_small (by omega) (by omega)
      have r3 : ¬ (m : Int) = 0 := by omega
      have r4 : ¬ m = 0 := by omega
      have r5 : (0 : Int) ≤ (kn : Int) := by omega
      have r6 : (kn : Int) < (m : Int) := by omega
      have cl := fun w => l1LeastN_c (t : Int) (s : Int) w
      have cm := fun w => l1MostN_c (t : Int) (s : Int) w
      obtain ⟨mn, hmn⟩ : ∃ z, min (t : Int) (s : Int) = z := ⟨_, rfl⟩
      obtain ⟨mx, hmx⟩ : ∃ z, max (t : Int) (s : Int) = z := ⟨_, rfl⟩
      rw [hmn, hmx] at hstep
      simp only [hmn] at cl
      simp only [hmx] at cm
      have HSTP := Lib.hid hstep; have CL := Lib.hid cl; have CM := Lib.hid cm
      clear hit his e1 e2 e3 e4 hf hf2 ht hs hkn hmn hmx hstep cl cm
      generalize H.getD k default = P at c0 c1 CA
      generalize H.getD kn default = Q at d0 d1 CB
      obtain ⟨px, py⟩ := P
      obtain ⟨qx, qy⟩ := Q
      simp only at c0 c1 d0 d1 CA CB
      have x1 : (0 : Int) ≤ (k : Int) := by omega
      have x2 : (k : Int) < (m : Int) := by omega
      obtain ⟨gB, hgBe⟩ : ∃ g, wE.heap.size = g := ⟨_, rfl⟩
      have hO : Own (wE.alloc (.cells #[.int .i64 px, .int .i64 py] 73)) gB 73 [.int .i64 px, .int .i64 py] := Own.newHG _ _ _ rfl hgBe
      have z0 := hO.cell? (i := 0) rfl
      have z1 := hO.cell? (i := 1) rfl
      have hgB := hO.lt
      have hbB : Below wE.heap.size wE (wE.alloc (.cells #[.int .i64 px, .int .i64 py] 73)) := bal_alloc (Below.refl _ _)
      have d0 := bcell hbB hb d0
      have d1 := bcell hbB hb d1
      have hbB1 := cell_lt d0
      have CA := fun u (h : Below (wE.alloc (.cells #[.int .i64 px, .int .i64 py] 73)).heap.size (wE.alloc (.cells #[.int .i64 px, .int .i64 py] 73)) u) => CA u (ball (ball hwE hbB) h)
      have CB := fun u (h : Below (wE.alloc (.cells #[.int .i64 px, .int .i64 py] 73)).heap.size (wE.alloc (.cells #[.int .i64 px, .int .i64 py] 73)) u) => CB u (ball (ball hwE hbB) h)
      have HBW := Lib.hid (ball hwE hbB)
      have HBE := Lib.hid (hbel.trans (hbB.mono hbel.size))
      clear hO
      go_wp2_with fail
      try rw [hgBe]
      generalize hwB : wE.alloc (.cells #[.int .i64 px, .int .i64 py] 73) = wB at *
      clear hwB
      have CA := Lib.hid CA
      have CB := Lib.hid CB
      go_region_held3 (fun w' => (w'.cell? ⟨gB, 0, none⟩ = some (.int .i64 px) ∧ w'.cell? ⟨gB, 1, none⟩ = some (.int .i64 py)) ∧ w'.cell? ⟨b, o + kn * 2, none⟩ = some (.int .i64 qx) ∧ w'.cell? ⟨b, o + kn * 2 + 1, none⟩ = some (.int .i64 qy)) (exact ⟨⟨by assumption, by assumption⟩, by assumption, by assumption⟩)
        (first
          | (go_at_call 92; (with_reducible refine (CA.out _ (by with_reducible (first | exact Below.refl _ _ | exact (Below.refl _ _).drew | exact hbA | exact hbA.drew | exact hbQ | exact hbQ.drew))).mono ?_); rintro e WA ⟨rfl, hwA⟩; have hbA : Below wB.heap.size wB WA := ball (by with_reducible (first | exact Below.refl _ _ | exact (Below.refl _ _).drew | exact hbA | exact hbA.drew | exact hbQ | exact hbQ.drew)) hwA; have z0A := bcell hbA hgB z0; have z1A := bcell hbA hgB z1; have d0A := bcell hbA hbB1 d0; have d1A := bcell hbA hbB1 d1)
          | (go_at_call 92; (with_reducible refine (CB.out _ (by with_reducible (first | exact Below.refl _ _ | exact (Below.refl _ _).drew | exact hbA | exact hbA.drew | exact hbQ | exact hbQ.drew))).mono ?_); rintro e WQ ⟨rfl, hwQ⟩; have hbQ : Below wB.heap.size wB WQ := ball (by with_reducible (first | exact Below.refl _ _ | exact (Below.refl _ _).drew | exact hbA | exact hbA.drew | exact hbQ | exact hbQ.drew)) hwQ; have z0Q := bcell hbQ hgB z0; have z1Q := bcell hbQ hgB z1; have d0Q := bcell hbQ hbB1 d0; have d1Q := bcell hbQ hbB1 d1))
      all_goals
        have hbX := ball hbB hbQ
        have HBX := Lib.hid hbX
        have HW9 := Lib.hid (ball hwE hbX)
        have HE9 := Lib.hid (hbel.trans (hbX.mono hbel.size))
        obtain ⟨⟨vs, hm9⟩, _⟩ := HSD.out
        have hm9 := hm9.below hbX
        have hR := HW9.out.size
        obtain ⟨N, hN⟩ : ∃ N, (LstSort.putF (PL.take k)).length = N := ⟨_, rfl⟩
        have HPU := Lib.hid (show Calls Tryz.prog 65 #[.slice ady N cpy, .slice (some ⟨WQ.heap.size, 0, none⟩) 2 2] (WQ.alloc (.cells #[.int .i64 mn, .int .i64 mx] 3)) (PutR w.heap.size (LstSort.putF (PL.take (k + 1))) (WQ.alloc (.cells #[.int .i64 mn, .int .i64 mx] 3))) from by
          have hba := bal_alloc (o := .cells #[.int .i64 mn, .int .i64 mx] 3) (Below.refl WQ.heap.size WQ)
          have h := cePut_c w.heap.size ady cpy (LstSort.putF (PL.take k)) vs (some ⟨WQ.heap.size, 0, none⟩) 2 [mn, mx] (WQ.alloc (.cells #[.int .i64 mn, .int .i64 mx] 3)) (hm9.below hba) (CellO.of_row (rowI_pair WQ w.heap.size WQ.heap.size mn mx hR rfl)) (Nat.le_trans hR hba.size) (by omega) (by simp) hrl
          rw [hN, ← LstSort.putF_snoc, ← HSTP.out] at h
          exact h)
        rw [hN]
        clear hm9 hbX hrl hN z0 z1 d0 d1 z0A z1A d0A d1A z0Q z1Q d0Q d1Q hbA hbQ CA CB r1 r2 HSD
        go_wp2_with fail
        refine (CL.out _).mono ?_
        rintro e w5 ⟨rfl, rfl⟩
        go_wp2_with fail
        refine (CM.out _).mono ?_
        rintro e w6 ⟨rfl, rfl⟩
        go_wp2_with fail
        refine HPU.out.mono ?_
        rintro e wH ⟨ad5, cp5, vs5, rfl, hm5, hb5⟩
        have HE := Lib.hid (show SdR w (PL.take (k + 1)) (.slice ad5 (LstSort.putF (PL.take (k + 1))).length cp5) wH from ⟨⟨vs5, hm5⟩, ball (bal_alloc HW9.out) hb5⟩)
        have HBF := Lib.hid (ball (bal_alloc (o := .cells #[.int .i64 mn, .int .i64 mx] 3) HE9.out) hb5)
        generalize (LstSort.putF (PL.take (k + 1))).length = N5 at HE ⊢
        clear hm5 hb5
        go_wp2_with fail
        go_roundw
        case rel => exact ⟨k + 1, by omega, by go_num, HE.out, HBF.out⟩
        case measure => simp [intOf]; omega
end Go.Proofs.YtbcmnhppodfhpaaGreat

/-
  The edges as the reference finds them: once all, twice those met again. By an AI agent.
-/
namespace Go.Proofs.YtbcmnhppodfhpaaGreat
open Go.RowKit

/-! ### Plain -/
section
open LstSort
theorem snoc_ind {α : Type} {P : List α → Prop} (h0 : P []) (h : ∀ l x, P l → P (l ++ [x])) : ∀ l, P l := fun l => by
  have : ∀ n, ∀ l : List α, l.length = n → P l := fun n => by
    induction n with
    | zero => intro l hl; rw [List.eq_nil_of_length_eq_zero hl]; exact h0
    | succ n ih =>
      intro l hl
      have hne : l ≠ [] := fun e => by rw [e] at hl; simp at hl
      rw [← List.dropLast_concat_getLast hne]
      exact h _ _ (ih _ (by rw [List.length_dropLast, hl]; rfl))
  exact this l.length l rfl
def stpE (p : List (List Int) × List (List Int)) (x : List Int) : List (List Int) × List (List Int) := (insL x p.1, if x ∈ p.1 then insL x p.2 else p.2)
def eF (S : List (List Int)) : List (List Int) × List (List Int) := S.foldl stpE ([], [])
theorem eF_snoc (S : List (List Int)) (x : List Int) : eF (S ++ [x]) = stpE (eF S) x := by unfold eF; rw [List.foldl_append]; rfl
theorem eF_fst : ∀ S, (eF S).1 = putF S := snoc_ind rfl fun l x ih => by rw [eF_snoc, putF_snoc, ← ih]; rfl
theorem eF_len : ∀ S, (eF S).1.length ≤ S.length ∧ (eF S).2.length ≤ S.length := snoc_ind ⟨Nat.le_refl _, Nat.le_refl _⟩ fun l x ih => by
  have h1 : ∀ (o : List (List Int)), (insL x o).length ≤ o.length + 1 := by
    intro o
    induction o with
    | nil => simp [insL]
    | cons q l ih =>
      unfold insL
      split
      · simp only [List.length_cons]; omega
      · split <;> simp
  rw [eF_snoc, List.length_append]
  unfold stpE
  have a := h1 (eF l).1
  have b := h1 (eF l).2
  simp only [List.length_cons, List.length_nil]
  constructor
  · omega
  · split <;> omega
theorem eF_mem : ∀ S, (∀ x ∈ (eF S).1, x ∈ S) ∧ (∀ x ∈ (eF S).2, x ∈ S) := snoc_ind ⟨fun x h => h, fun x h => h⟩ fun l y ih => by
  rw [eF_snoc]
  unfold stpE
  constructor
  · intro x hx
    rcases insL_mem.1 hx with e | e
    · subst e; simp
    · exact List.mem_append_left _ (ih.1 x e)
  · intro x hx
    simp only at hx
    split at hx
    · rcases insL_mem.1 hx with e | e
      · subst e; simp
      · exact List.mem_append_left _ (ih.2 x e)
    · exact List.mem_append_left _ (ih.2 x hx)
theorem eF_snd : ∀ S, LstSort.Strict (eF S).2 ∧ ∀ x, x ∈ (eF S).2 ↔ 2 ≤ S.count x := snoc_ind ⟨List.Pairwise.nil, fun x => by simp [eF]⟩ fun l y ih => by
  have h1 : y ∈ (eF l).1 ↔ y ∈ l := by rw [eF_fst, putF_mem]
  rw [eF_snoc]
  unfold stpE
  simp only
  by_cases hy : y ∈ (eF l).1
  · rw [if_pos hy]
    refine ⟨insL_strict ih.1, fun x => ?_⟩
    rw [insL_mem, ih.2, List.count_append, List.count_singleton]
    by_cases e : x = y
    · subst e
      have := List.count_pos_iff.2 (h1.1 hy)
      rw [if_pos (beq_self_eq_true x)]
      exact ⟨fun _ => by omega, fun _ => Or.inl rfl⟩
    · have : (y == x) = false := beq_eq_false_iff_ne.2 fun h => e h.symm
      rw [this]
      simp [e]
  · rw [if_neg hy]
    refine ⟨ih.1, fun x => ?_⟩
    rw [ih.2, List.count_append, List.count_singleton]
    by_cases e : x = y
    · subst e
      have : l.count x = 0 := List.count_eq_zero.2 fun h => hy (h1.2 h)
      rw [if_pos (beq_self_eq_true x), this]
      omega
    · have : (y == x) = false := beq_eq_false_iff_ne.2 fun h => e h.symm
      rw [this]
      simp
theorem insL_len_in {x : List Int} : ∀ {o : List (List Int)}, LstSort.Strict o → x ∈ o → (insL x o).length = o.length := fun {o} hs hx => by
  congr 1
  exact LstSort.strict_ext (LstSort.insL_strict hs) hs fun y => by rw [LstSort.insL_mem]; exact ⟨fun h => h.elim (fun e => by rw [e]; exact hx) id, Or.inr⟩
theorem insL_len_out {x : List Int} : ∀ {o : List (List Int)}, x ∉ o → (insL x o).length = o.length + 1
  | [], _ => rfl
  | q :: l, h => by
    unfold insL
    split
    · rw [List.length_cons, List.length_cons, insL_len_out fun e => h (List.mem_cons_of_mem _ e)]
    · split
      · rename_i e; exact absurd (by rw [e]; simp) h
      · rfl
theorem strictL_nodup {o : List (List Int)} (h : LstSort.Strict o) : o.Nodup := List.Pairwise.imp (fun {a b} h e => by subst e; rw [LstSort.lt_irrefl] at h; exact absurd h (by simp)) h
end
/-- the sides of a cell in order. -/
def sdsX (L : List Tm) (C : List Int) : List (List Int) := LstSort.putF ((prX L C).map prL)
theorem sdsX_mem {L : List Tm} {C : List Int} {a b : Int} : ([a, b] : List Int) ∈ sdsX L C ↔ (a, b) ∈ prX L C := by
  unfold sdsX
  rw [LstSort.putF_mem, List.mem_map]
  constructor
  · rintro ⟨⟨x, y⟩, h, e⟩
    unfold prL at e
    injection e with e1 e2
    injection e2 with e2 _
    simp only at e1 e2
    subst e1; subst e2
    exact h
  · intro h
    exact ⟨(a, b), h, rfl⟩
def sdQ (L : List Tm) (C : List (List Int)) (k j : Nat) : List (List Int) := (C.take k).flatMap (sdsX L) ++ (sdsX L (C.getD k [])).take j
theorem sdQ_zero (L : List Tm) (C : List (List Int)) (k : Nat) : sdQ L C k 0 = (C.take k).flatMap (sdsX L) := by unfold sdQ; simp
theorem sdQ_next (L : List Tm) (C : List (List Int)) {k : Nat} (h : k < C.length) : sdQ L C k (sdsX L (C.getD k [])).length = (C.take (k + 1)).flatMap (sdsX L) := by
  unfold sdQ
  rw [List.take_length, List.take_succ_eq_append_getElem h, List.flatMap_append]
  have e : C.getD k [] = C[k] := by rw [List.getD_eq_getElem?_getD, List.getElem?_eq_getElem h]; rfl
  rw [e]
  simp
theorem sdQ_step (L : List Tm) (C : List (List Int)) (k : Nat) {j : Nat} (h : j < (sdsX L (C.getD k [])).length) : sdQ L C k (j + 1) = sdQ L C k j ++ [(sdsX L (C.getD k [])).getD j []] := by
  unfold sdQ
  generalize sdsX L (C.getD k []) = D at h ⊢
  rw [List.take_succ_eq_append_getElem h, List.append_assoc]
  congr 2
  rw [List.getD_eq_getElem?_getD, List.getElem?_eq_getElem h]
  rfl
theorem sdsX_len (L : List Tm) (C : List Int) : (sdsX L C).length ≤ (hulX L C).length := by
  have h := putF_len ((prX L C).map prL)
  rw [prX_len] at h
  exact h
theorem flat_len {L : List Tm} {B : Nat} : ∀ {C : List (List Int)}, (∀ x ∈ C, (sdsX L x).length ≤ B) → (C.flatMap (sdsX L)).length ≤ C.length * B
  | [], _ => by simp
  | x :: C, h => by
    rw [List.flatMap_cons, List.length_append, List.length_cons, Nat.succ_mul]
    have h1 := h x (by simp)
    have h2 := flat_len (L := L) (B := B) (C := C) fun y hy => h y (List.mem_cons_of_mem _ hy)
    omega
theorem sdQ_len {L : List Tm} {C : List (List Int)} {B : Nat} (hB : ∀ x ∈ C, (sdsX L x).length ≤ B) {k : Nat} (hk : k < C.length) (j : Nat) : (sdQ L C k j).length ≤ C.length * B + B := by
  unfold sdQ
  have h1 := flat_len (L := L) (B := B) (C := C.take k) fun x hx => hB x (List.mem_of_mem_take hx)
  have h2 := hB (C.getD k []) (by rw [List.getD_eq_getElem?_getD, List.getElem?_eq_getElem hk]; exact List.getElem_mem _)
  have h3 : (C.take k).length * B ≤ C.length * B := Nat.mul_le_mul_right _ (by rw [List.length_take]; omega)
  rw [List.length_append, List.length_take]
  omega
theorem sdQ_two {L : List Tm} {C : List (List Int)} {k j : Nat} : ∀ x ∈ sdQ L C k j, x.length = 2 := fun x hx => by
  have h2 : ∀ c, ∀ x ∈ sdsX L c, x.length = 2 := fun c => two_rows fun x hx => by
    obtain ⟨e, _, rfl⟩ := List.mem_map.1 hx
    rfl
  rcases List.mem_append.1 hx with h | h
  · obtain ⟨c, _, h⟩ := List.mem_flatMap.1 h
    exact h2 c x h
  · exact h2 _ x (List.mem_of_mem_take h)
/-- the sequence ends with all edges, and with the inner ones. -/
theorem eF_edg (L : List Tm) : (eF ((celA L).flatMap (sdsX L))).1 = edgA L := by
  rw [eF_fst]
  unfold edgA
  refine LstSort.strict_ext (LstSort.putF_strict _) (LstSort.putF_strict _) fun x => ?_
  rw [LstSort.putF_mem, LstSort.putF_mem]
  unfold sdAll
  rw [List.mem_flatMap, List.mem_flatMap]
  constructor
  · rintro ⟨c, h1, h2⟩; exact ⟨c, h1, (LstSort.putF_mem _ _).1 h2⟩
  · rintro ⟨c, h1, h2⟩; exact ⟨c, h1, (LstSort.putF_mem _ _).2 h2⟩
theorem count_at {L : List Tm} {C : List (List Int)} (a b : Int) : ∀ k, k ≤ C.length → ((C.take k).flatMap (sdsX L)).count [a, b] = ((List.range k).filter (inX L C a b)).length
  | 0, _ => by simp
  | k + 1, h => by
    rw [List.take_succ_eq_append_getElem (show k < C.length by omega), List.flatMap_append, List.count_append, count_at a b k (by omega), List.range_succ, List.filter_append, List.length_append]
    congr 1
    have e : C.getD k [] = C[k] := by rw [List.getD_eq_getElem?_getD, List.getElem?_eq_getElem (show k < C.length by omega)]; rfl
    rw [List.flatMap_cons, List.flatMap_nil, List.append_nil]
    have hn := (strictL_nodup (LstSort.putF_strict ((prX L C[k]).map prL))).count (a := [a, b])
    have hn : (sdsX L C[k]).count [a, b] = if [a, b] ∈ sdsX L C[k] then 1 else 0 := hn
    rw [hn]
    by_cases g : (a, b) ∈ prX L C[k]
    · have hi : inX L C a b k = true := decide_eq_true (by rw [e]; exact g)
      rw [if_pos (sdsX_mem.2 g)]
      simp [hi]
    · have hi : inX L C a b k = false := decide_eq_false (by rw [e]; exact g)
      rw [if_neg fun h => g (sdsX_mem.1 h)]
      simp [hi]
theorem eF_inn {L : List Tm} (hd : Dist L) : (eF ((celA L).flatMap (sdsX L))).2 = innA L := by
  have h := eF_snd ((celA L).flatMap (sdsX L))
  have hc : ∀ a b : Int, ((celA L).flatMap (sdsX L)).count [a, b] = (sdA L (celA L) (celA L).length a b).length := fun a b => by
    have := count_at (L := L) (C := celA L) a b _ (Nat.le_refl _)
    rw [List.take_length] at this
    rw [this, sdA_at (fun x hx => celA_g hx) hd a b _ (Nat.le_refl _), List.length_map]
  unfold innA
  refine LstSort.strict_ext h.1 (List.Pairwise.filter _ (LstSort.putF_strict _)) fun x => ?_
  rw [h.2, List.mem_filter, decide_eq_true_eq]
  constructor
  · intro g
    have hx : x ∈ (celA L).flatMap (sdsX L) := List.count_pos_iff.1 (by omega)
    have hx2 : x ∈ edgA L := by rw [← eF_edg, eF_fst, LstSort.putF_mem]; exact hx
    refine ⟨hx2, ?_⟩
    obtain ⟨a, b, rfl, _, _, _⟩ := edgA_two hd hx2
    rw [hc] at g
    have := sd_two hd a b
    show (sdA L (celA L) (celA L).length a b).length = 2
    omega
  · rintro ⟨hx2, g⟩
    obtain ⟨a, b, rfl, _, _, _⟩ := edgA_two hd hx2
    have g : (sdA L (celA L) (celA L).length a b).length = 2 := g
    rw [hc]
    omega
end Go.Proofs.YtbcmnhppodfhpaaGreat

/-
  ceEdges, EdgesOfCells, InnerEdges: the reference's. By an AI agent.
-/
namespace Go.Proofs.YtbcmnhppodfhpaaGreat
open Go.RowKit

theorem MatL.atC {w : World} {R B : Nat} {ad : Option Addr} {n cap : Nat} {M : List (List Int)} {vs : List Value} (h : MatL w R B (.slice ad n cap) M vs) {i : Nat} (hi : i < M.length) : ∃ g a c, ad = some ⟨g, 0, none⟩ ∧ g < w.heap.size ∧ w.cell? ⟨g, i, none⟩ = some (.slice a (M.getD i []).length c) ∧ CellO w B (.slice a (M.getD i []).length c) (M.getD i []) := by
  rcases Own.of_row h.row with ⟨_, h0, _⟩ | ⟨g, cap', h1, hB, _, _, ho⟩
  · omega
  · injection h1 with h1 _ _
    subst h1
    have hi' : i < vs.length := by rw [h.len]; exact hi
    have hc : w.cell? ⟨g, i, none⟩ = some (vs.getD i undef) := ho.cell? (by simp [List.getD, hi'])
    have he := h.each i hi
    obtain ⟨a, c, e, _⟩ := he
    have hr := h.each i hi
    rw [e] at hc hr
    exact ⟨g, a, c, rfl, ho.lt, hc, hr⟩
/-- both lists of edges in memory. -/
def EdR (W : World) (S : List (List Int)) (v u : Value) (w : World) : Prop := (∃ vs, MatL w W.heap.size W.heap.size v (eF S).1 vs) ∧ (∃ us, MatL w W.heap.size W.heap.size u (eF S).2 us) ∧ Below W.heap.size W w
theorem EdR.shape {W w : World} {S : List (List Int)} {v u : Value} (h : EdR W S v u w) : ∃ ad cap ad2 cap2, v = .slice ad (eF S).1.length cap ∧ u = .slice ad2 (eF S).2.length cap2 := by
  obtain ⟨⟨vs, h1⟩, ⟨us, h2⟩, _⟩ := h
  obtain ⟨ad, cap, e, _⟩ := h1.shape
  obtain ⟨ad2, cap2, e2, _⟩ := h2.shape
  exact ⟨ad, cap, ad2, cap2, e, e2⟩
theorem EdR.below {W w w' : World} {S : List (List Int)} {v u : Value} (h : EdR W S v u w) (hb : Below w.heap.size w w') : EdR W S v u w' := by
  obtain ⟨⟨vs, h1⟩, ⟨us, h2⟩, h3⟩ := h
  exact ⟨⟨vs, h1.below hb⟩, ⟨us, h2.below hb⟩, ball h3 hb⟩
theorem eF_two {S : List (List Int)} (h : ∀ x ∈ S, x.length = 2) : (∀ r ∈ (eF S).1, r.length ≤ 100000) ∧ (∀ r ∈ (eF S).2, r.length ≤ 100000) := by
  obtain ⟨h1, h2⟩ := eF_mem S
  exact ⟨fun r hr => by have := h r (h1 r hr); omega, fun r hr => by have := h r (h2 r hr); omega⟩
/-- one side more. -/
theorem EdR.put1 {W w : World} {S : List (List Int)} {ad ad2 : Option Addr} {cap cap2 : Nat} (h : EdR W S (.slice ad (eF S).1.length cap) (.slice ad2 (eF S).2.length cap2) w) {ax : Option Addr} {cx : Nat} {x : List Int} (hx : CellO w W.heap.size (.slice ax x.length cx) x) (hxl : x.length ≤ 100000) (hS : S.length ≤ 50000) (h2 : ∀ x ∈ S, x.length = 2) :
    Calls Tryz.prog 65 #[.slice ad (eF S).1.length cap, .slice ax x.length cx] w (PutR W.heap.size (LstSort.insL x (eF S).1) w) := by
  obtain ⟨⟨vs, hm1⟩, _, hb⟩ := h
  have hl := (eF_len S).1
  exact cePut_c W.heap.size ad cap _ vs ax cx x w hm1 hx hb.size (by omega) hxl (eF_two h2).1
theorem EdR.put2 {W w : World} {S : List (List Int)} {v : Value} {ad2 : Option Addr} {cap2 : Nat} (h : EdR W S v (.slice ad2 (eF S).2.length cap2) w) {ax : Option Addr} {cx : Nat} {x : List Int} (hx : CellO w W.heap.size (.slice ax x.length cx) x) (hxl : x.length ≤ 100000) (hS : S.length ≤ 50000) (h2 : ∀ x ∈ S, x.length = 2) :
    Calls Tryz.prog 65 #[.slice ad2 (eF S).2.length cap2, .slice ax x.length cx] w (PutR W.heap.size (LstSort.insL x (eF S).2) w) := by
  obtain ⟨_, ⟨us, hm2⟩, hb⟩ := h
  have hl := (eF_len S).2
  exact cePut_c W.heap.size ad2 cap2 _ us ax cx x w hm2 hx hb.size (by omega) hxl (eF_two h2).2
theorem EdR.out {W w w1 : World} {S : List (List Int)} {u : Value} {x : List Int} {v v' : Value} {vs : List Value} (h : EdR W S v u w) (hn : x ∉ (eF S).1) (hm : MatL w1 W.heap.size W.heap.size v' (LstSort.insL x (eF S).1) vs) (hb : Below w.heap.size w w1) : EdR W (S ++ [x]) v' u w1 := by
  obtain ⟨_, ⟨us, h2⟩, h3⟩ := h
  unfold EdR
  rw [eF_snoc]
  unfold stpE
  simp only [if_neg hn]
  exact ⟨⟨vs, hm⟩, ⟨us, h2.below hb⟩, ball h3 hb⟩
theorem EdR.inn {W w w1 w2 : World} {S : List (List Int)} {u u' : Value} {x : List Int} {v v' : Value} {vs us : List Value} (h : EdR W S v u w) (hn : x ∈ (eF S).1) (hm : MatL w1 W.heap.size W.heap.size v' (LstSort.insL x (eF S).1) vs) (hb : Below w.heap.size w w1) (hm2 : MatL w2 W.heap.size W.heap.size u' (LstSort.insL x (eF S).2) us) (hb2 : Below w1.heap.size w1 w2) : EdR W (S ++ [x]) v' u' w2 := by
  obtain ⟨_, _, h3⟩ := h
  unfold EdR
  rw [eF_snoc]
  unfold stpE
  simp only [if_pos hn]
  exact ⟨⟨vs, hm.below hb2⟩, ⟨us, hm2⟩, ball (ball h3 hb) hb2⟩
theorem sdsX_two {L : List Tm} {c : List Int} : ∀ x ∈ sdsX L c, x.length = 2 := two_rows fun x hx => by
  obtain ⟨e, _, rfl⟩ := List.mem_map.1 hx
  rfl
theorem eF_strict (S : List (List Int)) : LstSort.Strict (eF S).1 := by rw [eF_fst]; exact LstSort.putF_strict _

set_option maxHeartbeats 6400000 in
set_option maxRecDepth 100000 in
theorem ceEdges_c (bl ol cap : Nat) (L : List Tm) (b : Bool) (w : World) (hr : RdT w (some ⟨bl, ol, none⟩) L) (hp : ∀ k, k < L.length → termB (tmAt L k) = true) (hl : L.length ≤ 12) (h0 : 0 < L.length) (hd : Dist L) :
    Calls Tryz.prog 28 #[.slice (some ⟨bl, ol, none⟩) L.length cap, .bool b] w (PutR w.heap.size (if b = true then innA L else edgA L) w) := by
  have CO := Lib.hid (ceOf_c bl ol cap L w hr hp hl h0)
  have hcl := celA_len L hl
  have HCS := Lib.hid (fun k (hk : k < (celA L).length) u (hb : Below w.heap.size w u) a c (hx : RdI u a ((celA L).getD k [])) => show Calls Tryz.prog 64 #[.slice (some ⟨bl, ol, none⟩) L.length cap, .slice a ((celA L).getD k []).length c] u (PutR u.heap.size (sdsX L ((celA L).getD k [])) u) from by
    obtain ⟨_, h2, h3⟩ := celA_in (L := L) (x := (celA L).getD k []) (by rw [List.getD_eq_getElem?_getD, List.getElem?_eq_getElem hk, Option.getD_some]; exact List.getElem_mem hk)
    exact ceSides_c bl ol cap L a c ((celA L).getD k []) u (hr.below hb) hp hl hd hx (by omega) h3)
  have hB : ∀ x ∈ celA L, (sdsX L x).length ≤ 24 := fun x hx => by
    obtain ⟨_, h2, h3⟩ := celA_in hx
    have h4 := sdsX_len L x
    have h5 := hulX_len L x
    omega
  have HNB := Lib.hid (fun k (hk : k < (celA L).length) => hB ((celA L).getD k []) (by rw [List.getD_eq_getElem?_getD, List.getElem?_eq_getElem hk, Option.getD_some]; exact List.getElem_mem hk))
  have HLN := Lib.hid (fun k (hk : k < (celA L).length) j => show (sdQ L (celA L) k j).length ≤ 50000 from by
    have h1 := sdQ_len hB hk j
    have h2 : (celA L).length * 24 ≤ 1728 * 24 := Nat.mul_le_mul_right _ hcl
    omega)
  have HQ0 := Lib.hid (fun k => sdQ_zero L (celA L) k)
  have HQN := Lib.hid (fun k (hk : k < (celA L).length) => sdQ_next L (celA L) hk)
  have HQS := Lib.hid (fun k j (h : j < (sdsX L ((celA L).getD k [])).length) => sdQ_step L (celA L) k h)
  have HQT := Lib.hid (fun k j => sdQ_two (L := L) (C := celA L) (k := k) (j := j))
  have HST := Lib.hid (fun k j (h : j < (sdsX L ((celA L).getD k [])).length) => show ((sdsX L ((celA L).getD k [])).getD j []).length = 2 from sdsX_two _ (by rw [List.getD_eq_getElem?_getD, List.getElem?_eq_getElem h, Option.getD_some]; exact List.getElem_mem h))
  have HE1 := Lib.hid (eF_edg L)
  have HE2 := Lib.hid (eF_inn hd)
  have HTK := Lib.hid (show (celA L).take (celA L).length = celA L from List.take_length)
  obtain ⟨RES, hRES⟩ : ∃ z, (if b = true then innA L else edgA L) = z := ⟨_, rfl⟩
  rw [hRES]
  have HRES := Lib.hid hRES
  generalize innA L = IN at HE2 HRES
  generalize edgA L = ED at HE1 HRES
  generalize celA L = C at *
  obtain ⟨m, hm⟩ : ∃ m, C.length = m := ⟨_, rfl⟩
  have HM := Lib.hid hm
  unfold PutR at CO
  rw [hm] at HCS HLN HNB HQN HTK hcl CO
  obtain ⟨n, hn⟩ : ∃ n, L.length = n := ⟨_, rfl⟩
  rw [hn] at HCS CO ⊢
  generalize hSD : sdQ L C = SQ at *
  generalize hSX : sdsX L = SX at *
  clear hr hp hl h0 hd hRES hB hm hn hSD hSX
  go_enter Tryz.func28, Tryz.ntmps28
  go_wp2_with fail
  refine CO.out.mono ?_
  rintro e w1 ⟨adC, capC, vsC, rfl, hmC, hb1⟩
  have HRC := Lib.hid hmC.rd
  have HB1 := Lib.hid hb1
  clear CO hmC hb1
  go_wp2_with fail
  go_loopw [5, 6, 15] (fun s t i wr => ∃ k : Nat, k ≤ m ∧ i = .int .i64 k ∧ EdR w ((C.take k).flatMap SX) s t wr ∧ Below w1.heap.size w1 wr) (fun _ _ i _ => m - (intOf i).toNat)
  case atStart => exact ⟨0, Nat.zero_le _, rfl, ⟨⟨[], MatL.nil _ _ _⟩, ⟨[], MatL.nil _ _ _⟩, HB1.out⟩, Below.refl _ _⟩
  case round =>
    obtain ⟨wE, rfl⟩ : ∃ x : World, x = wr := ⟨_, rfl⟩
    obtain ⟨k, hk, rfl, hed, hbel⟩ := hrel
    by_cases hlt : k < m
    case neg =>
      obtain rfl : m = k := by omega
      rw [HTK.out] at hed
      obtain ⟨⟨vs, h1⟩, ⟨us, h2⟩, h3⟩ := hed
      rw [HE1.out] at h1
      rw [HE2.out] at h2
      obtain ⟨a1, k1, rfl, _⟩ := h1.shape
      obtain ⟨a2, k2, rfl, _⟩ := h2.shape
      have H1 := Lib.hid h1; have H2 := Lib.hid h2
      clear h1 h2
      cases b
      · go_wp2_with fail
        go_ret
        exact ⟨a1, k1, vs, by rw [← HRES.out]; rfl, by rw [← HRES.out]; exact H1.out, h3⟩
      · go_wp2_with fail
        go_ret
        exact ⟨a2, k2, us, by rw [← HRES.out]; rfl, by rw [← HRES.out]; exact H2.out, h3⟩
    case pos =>
      obtain ⟨bb, o, a, c, rfl, hb, kc, hrx⟩ := (HRC.out.below hbel) k (by rw [HM.out]; exact hlt)
      have hwE := hed.2.2
      have CS := HCS.out k hlt wE hwE a c hrx
      have HLK := Lib.hid (HLN.out k hlt); have HQKS := Lib.hid (HQS.out k); have HQKT := Lib.hid (HQT.out k); have HSK := Lib.hid (HST.out k)
      have hnb := HNB.out k hlt
      have hq0 := HQ0.out k
      have hqn := HQN.out k hlt
      rw [← hq0] at hed
      generalize hcx : C.getD k [] = CX at kc hrx CS HQKS HSK hqn hnb
      obtain ⟨D, hD⟩ : ∃ D, SX CX = D := ⟨_, rfl⟩
      rw [hD] at CS HQKS HSK hqn hnb
      obtain ⟨nD, hnD⟩ : ∃ z, D.length = z := ⟨_, rfl⟩
      unfold PutR at CS
      rw [hnD] at CS HQKS HSK hqn hnb
      have HQN2 := Lib.hid hqn
      have HQ0K := Lib.hid hq0
      have HND := Lib.hid hnD
      have CS := Lib.hid CS
      have HED := Lib.hid hed
      generalize SQ k = QK at HLK HQKS HQKT HQN2 HQ0K HED
      generalize CX.length = lc at kc CS
      obtain ⟨ady, cpy, ad2, cp2, rfl, rfl⟩ := hed.shape
      rw [HQ0K.out] at HED
      clear hed hqn hq0 hnD hD hcx hrx
      go_wp2_with fail
      refine CS.out.mono ?_
      rintro e w3 ⟨ad3, cp3, vs3, rfl, hm3, hb3⟩
      have HMS := Lib.hid hm3
      have HED3 := Lib.hid (HED.out.below hb3)
      have HBE3 := Lib.hid (ball hbel hb3)
      have hwE3 := (ball hwE hb3).size
      have hsz3 : w.heap.size ≤ wE.heap.size := hwE.size
      clear hm3 hb3 CS
      go_wp2_with fail
      go_loopw [5, 6, 23] (fun s t i wr => ∃ j : Nat, j ≤ nD ∧ i = .int .i64 j ∧ EdR w (QK j) s t wr ∧ Below w3.heap.size w3 wr) (fun _ _ i _ => nD - (intOf i).toNat)
      case atStart => exact ⟨0, Nat.zero_le _, rfl, by rw [HQ0K.out]; exact HED3.out, Below.refl _ _⟩
      case round =>
        obtain ⟨wF, rfl⟩ : ∃ x : World, x = wr := ⟨_, rfl⟩
        obtain ⟨j, hj, rfl, hedj, hbelj⟩ := hrel
        by_cases hjlt : j < nD
        case neg =>
          obtain rfl : nD = j := by omega
          rw [HQN2.out] at hedj
          have HEJ := Lib.hid hedj
          have HBJ := Lib.hid (HBE3.out.trans (hbelj.mono HBE3.out.size))
          clear hedj
          go_wp2_with fail
          go_roundw
          case rel => exact ⟨k + 1, by omega, by go_num, HEJ.out, HBJ.out⟩
          case measure => simp [intOf]; omega
        case pos =>
          have hmj := HMS.out.below hbelj
          obtain ⟨g3, a4, c4, hg3, hg3l, kj, hcj⟩ := hmj.atC (i := j) (by rw [HND.out]; exact hjlt)
          subst hg3
          have h2 := HSK.out j hjlt
          have hst := HQKS.out j hjlt
          have hlen := HLK.out j
          have htwo := HQKT.out j
          obtain ⟨adj, cpj, adt, cpt, rfl, rfl⟩ := hedj.shape
          have hcj := hcj.mono (B' := w.heap.size) (by omega)
          generalize D.getD j [] = x at kj hcj h2 hst
          have P1 := EdR.put1 hedj hcj (by omega) hlen htwo
          have P2 := fun (u : World) (v : Value) (h : EdR w (QK j) v (.slice adt (eF (QK j)).2.length cpt) u) (hb : Below wF.heap.size wF u) => EdR.put2 h (hcj.below hb) (by omega) hlen htwo
          have HOUT := Lib.hid (fun (hn : x ∉ (eF (QK j)).1) w1 v' vs hm hb => EdR.out (w1 := w1) (v' := v') (vs := vs) hedj hn hm hb)
          have HINN := Lib.hid (fun (hn : x ∈ (eF (QK j)).1) w1 w2 v' u' vs us hm hb hm2 hb2 => EdR.inn (w1 := w1) (w2 := w2) (v' := v') (u' := u') (vs := vs) (us := us) hedj hn hm hb hm2 hb2)
          have HLI := Lib.hid (fun (hn : x ∈ (eF (QK j)).1) => insL_len_in (eF_strict (QK j)) hn)
          have HLO := Lib.hid (fun (hn : x ∉ (eF (QK j)).1) => insL_len_out hn)
          have HEDB := Lib.hid (fun u (hb : Below wF.heap.size wF u) => EdR.below hedj hb)
          have hl1 := (eF_len (QK j)).1
          have hl2 := (eF_len (QK j)).2
          have HBJ := Lib.hid (HBE3.out.trans (hbelj.mono HBE3.out.size))
          rw [h2] at kj P1 P2
          obtain ⟨Q2, hQ2⟩ : ∃ z, QK (j + 1) = z := ⟨_, rfl⟩
          rw [hQ2] at hst
          have HST2 := Lib.hid hst
          have HQ2 := Lib.hid hQ2
          clear hQ2
          have P2 := Lib.hid P2
          have y1 : (0 : Int) ≤ (j : Int) := by omega
          have y2 : (j : Int) < (nD : Int) := by omega
          obtain ⟨N1, hN1⟩ : ∃ z, (eF (QK j)).1.length = z := ⟨_, rfl⟩
          obtain ⟨N2, hN2⟩ : ∃ z, (eF (QK j)).2.length = z := ⟨_, rfl⟩
          obtain ⟨N3, hN3⟩ : ∃ z, (LstSort.insL x (eF (QK j)).1).length = z := ⟨_, rfl⟩
          obtain ⟨N4, hN4⟩ : ∃ z, (LstSort.insL x (eF (QK j)).2).length = z := ⟨_, rfl⟩
          unfold PutR at P1 P2
          rw [hN1] at P1 HLI HLO hl1 ⊢
          rw [hN2] at P2 HEDB HOUT hl2 ⊢
          rw [hN3] at P1 HLI HLO
          rw [hN4] at P2
          have P1 := Lib.hid P1
          clear hst hedj hcj h2 hlen htwo hN1 hN2 hN3 hN4
          by_cases hin : x ∈ (eF (QK j)).1
          case pos =>
            obtain rfl : N3 = N1 := HLI.out hin
            have hbe : ((N3 : Int) == (N3 : Int)) = true := by simp
            go_wp2_with fail
            refine P1.out.mono ?_
            rintro e w5 ⟨ad5, cp5, vs5, rfl, hm5, hb5⟩
            have HM5 := Lib.hid hm5; have HB5 := Lib.hid hb5
            have P3 := P2.out w5 _ (HEDB.out w5 hb5) hb5
            have P3 := Lib.hid P3
            clear hm5 hb5 P1
            go_wp2_with fail
            refine P3.out.mono ?_
            rintro e w6 ⟨ad6, cp6, vs6, rfl, hm6, hb6⟩
            have HED6 := Lib.hid (show EdR w Q2 _ _ w6 from by rw [HST2.out]; exact HINN.out hin w5 w6 _ _ _ _ HM5.out HB5.out hm6 hb6)
            have HB6 := Lib.hid (ball (ball hbelj HB5.out) hb6)
            clear hm6 hb6
            go_wp2_with fail
            go_roundw
            case rel => exact ⟨j + 1, by omega, by go_num, by rw [HQ2.out]; exact HED6.out, HB6.out⟩
            case measure => simp [intOf]; omega
          case neg =>
            obtain rfl : N3 = N1 + 1 := HLO.out hin
            have hbe : (((N1 + 1 : Nat) : Int) == (N1 : Int)) = false := beq_eq_false_iff_ne.2 (by omega)
            have hbe2 : ((N1 : Int) + 1 == (N1 : Int)) = false := beq_eq_false_iff_ne.2 (by omega)
            go_wp2_with fail
            refine P1.out.mono ?_
            rintro e w5 ⟨ad5, cp5, vs5, rfl, hm5, hb5⟩
            have HED5 := Lib.hid (show EdR w Q2 _ _ w5 from by rw [HST2.out]; exact HOUT.out hin w5 _ _ hm5 hb5)
            have HB5 := Lib.hid (ball hbelj hb5)
            clear hm5 hb5 P1
            go_wp2_with fail
            go_roundw
            case rel => exact ⟨j + 1, by omega, by go_num, by rw [HQ2.out]; exact HED5.out, HB5.out⟩
            case measure => simp [intOf]; omega
end Go.Proofs.YtbcmnhppodfhpaaGreat

/-
  EdgesOfCells, InnerEdges, EdgeLength: the reference's. By an AI agent.
-/
namespace Go.Proofs.YtbcmnhppodfhpaaGreat
open Go.RowKit

set_option maxHeartbeats 800000 in
theorem sEdgesOfCells_c (ad : Option Addr) (cap : Nat) (L : List Tm) (w : World) (hr : RdT w ad L) (hl : L.length ≤ 1048576) :
    Calls Tryz.prog 7 #[.slice ad L.length cap] w (LstO (planeB L) (edgA L) w) := by
  have CI := Lib.hid (plGood_c ad cap L w hr hl)
  cases hB : planeB L
  case false =>
    rw [hB] at CI
    have HQ := Lib.hid (fun w' (h : Below w.heap.size w w') => LstO.no (M := edgA L) h)
    generalize LstO false (edgA L) w = Q at HQ ⊢
    generalize L.length = n at CI ⊢
    clear hr hB hl
    go_enter Tryz.func7, Tryz.ntmps7
    go_wp2_with fail
    refine CI.out.mono ?_
    rintro e w1 ⟨rfl, hb1⟩
    go_wp2_with fail
    exact HQ.out _ hb1
  case true =>
    rw [hB] at CI
    obtain ⟨h0, h12, hp⟩ := planeB_t hB
    have hd := plane_dist hB
    obtain ⟨bl, ol, rfl, _⟩ := hr 0 h0
    have CE := Lib.hid (fun u (h : Below w.heap.size w u) => show Calls Tryz.prog 28 #[.slice (some ⟨bl, ol, none⟩) L.length cap, .bool false] u fun e w2 => ∃ v, e = .returned v ∧ LstO true (edgA L) w (.returned (.tuple #[v, .bool true])) w2 from by
      refine (ceEdges_c bl ol cap L false u (hr.below h) hp h12 h0 hd).mono ?_
      rintro e w2 ⟨a2, c2, vs, rfl, hm, hb⟩
      exact ⟨_, rfl, LstO.yes hm.rd (ball h hb)⟩)
    generalize LstO true (edgA L) w = Q at CE ⊢
    obtain ⟨n, hn⟩ : ∃ n, L.length = n := ⟨_, rfl⟩
    rw [hn] at CI CE ⊢
    clear hr hB hl hn h0 h12 hp hd
    go_enter Tryz.func7, Tryz.ntmps7
    go_wp2_with fail
    refine CI.out.mono ?_
    rintro e w1 ⟨rfl, hb1⟩
    have CE1 := Lib.hid (CE.out w1 hb1)
    go_wp2_with fail
    refine CE1.out.mono ?_
    rintro e w2 ⟨v, rfl, hq⟩
    have HQ := Lib.hid hq; clear hq
    go_wp2_with fail
    exact HQ.out

set_option maxHeartbeats 800000 in
theorem sInnerEdges_c (ad : Option Addr) (cap : Nat) (L : List Tm) (w : World) (hr : RdT w ad L) (hl : L.length ≤ 1048576) :
    Calls Tryz.prog 9 #[.slice ad L.length cap] w (LstO (planeB L) (innA L) w) := by
  have CI := Lib.hid (plGood_c ad cap L w hr hl)
  cases hB : planeB L
  case false =>
    rw [hB] at CI
    have HQ := Lib.hid (fun w' (h : Below w.heap.size w w') => LstO.no (M := innA L) h)
    generalize LstO false (innA L) w = Q at HQ ⊢
    generalize L.length = n at CI ⊢
    clear hr hB hl
    go_enter Tryz.func9, Tryz.ntmps9
    go_wp2_with fail
    refine CI.out.mono ?_
    rintro e w1 ⟨rfl, hb1⟩
    go_wp2_with fail
    exact HQ.out _ hb1
  case true =>
    rw [hB] at CI
    obtain ⟨h0, h12, hp⟩ := planeB_t hB
    have hd := plane_dist hB
    obtain ⟨bl, ol, rfl, _⟩ := hr 0 h0
    have CE := Lib.hid (fun u (h : Below w.heap.size w u) => show Calls Tryz.prog 28 #[.slice (some ⟨bl, ol, none⟩) L.length cap, .bool true] u fun e w2 => ∃ v, e = .returned v ∧ LstO true (innA L) w (.returned (.tuple #[v, .bool true])) w2 from by
      refine (ceEdges_c bl ol cap L true u (hr.below h) hp h12 h0 hd).mono ?_
      rintro e w2 ⟨a2, c2, vs, rfl, hm, hb⟩
      exact ⟨_, rfl, LstO.yes hm.rd (ball h hb)⟩)
    generalize LstO true (innA L) w = Q at CE ⊢
    obtain ⟨n, hn⟩ : ∃ n, L.length = n := ⟨_, rfl⟩
    rw [hn] at CI CE ⊢
    clear hr hB hl hn h0 h12 hp hd
    go_enter Tryz.func9, Tryz.ntmps9
    go_wp2_with fail
    refine CI.out.mono ?_
    rintro e w1 ⟨rfl, hb1⟩
    have CE1 := Lib.hid (CE.out w1 hb1)
    go_wp2_with fail
    refine CE1.out.mono ?_
    rintro e w2 ⟨v, rfl, hq⟩
    have HQ := Lib.hid hq; clear hq
    go_wp2_with fail
    exact HQ.out

set_option maxHeartbeats 800000 in
theorem stCommonC_c (m n : Nat) (w : World) (hmb : m ≤ 4000000000000000000) (hnb : n ≤ 4000000000000000000) :
    Calls Tryz.prog 58 #[.int .i64 (m : Int), .int .i64 (n : Int)] w fun e w' => e = .returned (.int .i64 (Nat.gcd m n : Nat)) ∧ w = w' := by
  go_enter Tryz.func58, Tryz.ntmps58
  go_wp2_with fail
  go_loopw [0, 1] (fun u v wr => ∃ p q : Nat, u = .int .i64 p ∧ v = .int .i64 q ∧ p ≤ 4000000000000000000 ∧ q ≤ 4000000000000000000 ∧ Nat.gcd p q = Nat.gcd m n ∧ w = wr) (fun _ v _ => (intOf v).toNat)
  case atStart => exact ⟨m, n, rfl, rfl, hmb, hnb, rfl, rfl⟩
  case round =>
    obtain ⟨p, q, rfl, rfl, hp, hq, hgc, rfl⟩ := hrel
    have HGC := Lib.hid hgc; clear hgc
    by_cases h0 : q = 0
    case pos =>
      have h1 : decide (0 < (q : Int)) = false := decide_eq_false (by omega)
      have h2 : ¬ 0 < q := by omega
      have HPG := Lib.hid (show Nat.gcd m n = p by rw [← HGC.out, h0, Nat.gcd_zero_right])
      clear h0 HGC
      go_wp2_with fail
      all_goals first
        | (exfalso; omega)
        | (go_ret; exact ⟨congrArg (fun z : Nat => Ending.returned (.int .i64 (z : Int))) HPG.out.symm, rfl⟩)
    case neg =>
      have h1 : decide (0 < (q : Int)) = true := decide_eq_true (by omega)
      have h2 : ¬ (q : Int) = 0 := by omega
      have h3 : 0 < q := by omega
      obtain ⟨r, hr⟩ : ∃ r, p % q = r := ⟨_, rfl⟩
      have e1 : Int.tmod (p : Int) (q : Int) = (r : Int) := by rw [← hr]; rfl
      have hrq : r < q := by rw [← hr]; exact Nat.mod_lt _ (by omega)
      have hg2 := Lib.hid (show Nat.gcd q r = Nat.gcd m n by rw [← HGC.out, ← hr, Nat.gcd_comm p q, Nat.gcd_rec q p, Nat.gcd_comm])
      clear hr
      go_wp2_with fail
      go_roundw
      case rel => exact ⟨q, r, rfl, rfl, hq, by omega, hg2.out, by trivial⟩
      case measure => simp [intOf]; omega


theorem edgA_len {L : List Tm} (hl : L.length ≤ 12) : (edgA L).length ≤ 50000 := by
  have hB : ∀ x ∈ celA L, (sdsX L x).length ≤ 24 := fun x hx => by
    obtain ⟨_, h2, h3⟩ := celA_in hx
    have h4 := sdsX_len L x
    have h5 := hulX_len L x
    omega
  have h1 := flat_len hB
  have h2 := (eF_len ((celA L).flatMap (sdsX L))).1
  rw [eF_edg] at h2
  have h3 : (celA L).length * 24 ≤ 1728 * 24 := Nat.mul_le_mul_right _ (celA_len L hl)
  omega
theorem hasE_mem {L : List Tm} (hd : Dist L) (a b : Int) : hasE L a b = true ↔ [a, b] ∈ edgA L := by
  unfold hasE edgA
  rw [decide_eq_true_eq, LstSort.putF_mem]
  have h : ([a, b] : List Int) ∈ sdAll L (celA L) ↔ ∃ c ∈ celA L, (a, b) ∈ prX L c := sdAll_mem (a := a) (b := b)
  rw [h]
  have hn : 0 < (sdA L (celA L) (celA L).length a b).length ↔ sdA L (celA L) (celA L).length a b ≠ [] := List.length_pos_iff
  rw [hn]
  exact sdA_ne hd a b
theorem edg_find {L : List Tm} (hd : Dist L) {i k : Int} {j : Nat} (hj : j < (edgA L).length) (h : (edgA L).getD j [] = [i, k]) : hasE L i k = true := by
  rw [hasE_mem hd, ← h, List.getD_eq_getElem?_getD, List.getElem?_eq_getElem hj]
  exact List.getElem_mem hj
theorem edg_none {L : List Tm} (hd : Dist L) {i k : Int} (h : ∀ j, j < (edgA L).length → (edgA L).getD j [] ≠ [i, k]) : hasE L i k = false := by
  rw [Bool.eq_false_iff]
  intro e
  rw [hasE_mem hd] at e
  obtain ⟨j, hj, e⟩ := List.getElem_of_mem e
  exact h j hj (by rw [List.getD_eq_getElem?_getD, List.getElem?_eq_getElem hj]; exact e)

set_option maxHeartbeats 3200000 in
set_option maxRecDepth 100000 in
theorem sEdgeLength_c (ad : Option Addr) (cap : Nat) (L : List Tm) (i k : Int) (w : World) (hr : RdT w ad L) (hl : L.length ≤ 1048576) (_hi : Wf i) (_hk : Wf k) :
    Calls Tryz.prog 24 #[.slice ad L.length cap, .int .i64 i, .int .i64 k] w fun e w' => e = .returned (.tuple #[.int .i64 (if (planeB L && hasE L i k) = true then lenE L i k else 0), .bool (planeB L && hasE L i k)]) ∧ Below w.heap.size w w' := by
  have CI := Lib.hid (plGood_c ad cap L w hr hl)
  cases hB : planeB L
  case false =>
    rw [hB] at CI
    rw [Bool.false_and, if_neg (by simp)]
    generalize L.length = n at CI ⊢
    clear hr hB hl
    go_enter Tryz.func24, Tryz.ntmps24
    go_wp2_with fail
    refine CI.out.mono ?_
    rintro e w1 ⟨rfl, hb1⟩
    go_wp2_with fail
    exact bodyPost_ret (v := .tuple #[.int .i64 0, .bool false]) (by simp [results, Tryz.results24, go_sem]) rfl ⟨rfl, hb1⟩
  case true =>
    rw [hB] at CI
    rw [Bool.true_and]
    obtain ⟨h0, h12, hp⟩ := planeB_t hB
    have hd := plane_dist hB
    obtain ⟨bl, ol, rfl, _⟩ := hr 0 h0
    have HR := Lib.hid hr
    have CE := Lib.hid (fun u (h : Below w.heap.size w u) => show Calls Tryz.prog 28 #[.slice (some ⟨bl, ol, none⟩) L.length cap, .bool false] u (PutR u.heap.size (edgA L) u) from ceEdges_c bl ol cap L false u (hr.below h) hp h12 h0 hd)
    have HFI := Lib.hid (fun j (hj : j < (edgA L).length) (h : (edgA L).getD j [] = [i, k]) => edg_find hd hj h)
    have HNO := Lib.hid (fun h => edg_none (L := L) (i := i) (k := k) hd h)
    have HTW := Lib.hid (fun j (hj : j < (edgA L).length) => edgA_two hd (show (edgA L).getD j [] ∈ edgA L by rw [List.getD_eq_getElem?_getD, List.getElem?_eq_getElem hj]; exact List.getElem_mem _))
    have HTT := Lib.hid (fun j (hj : j < L.length) => termB_t (hp j hj))
    have hel := edgA_len h12
    have HLE := Lib.hid (show lenE L i k = gcdN ((tmAt L k.toNat).i - (tmAt L i.toNat).i) ((tmAt L k.toNat).j - (tmAt L i.toNat).j) from rfl)
    generalize lenE L i k = G at HLE ⊢
    generalize hasE L i k = B at HFI HNO ⊢
    generalize edgA L = E at CE HFI HNO HTW hel
    obtain ⟨m, hm⟩ : ∃ z, E.length = z := ⟨_, rfl⟩
    unfold PutR at CE
    rw [hm] at CE HFI HNO HTW hel
    have HM := Lib.hid hm
    obtain ⟨n, hn⟩ : ∃ n, L.length = n := ⟨_, rfl⟩
    rw [hn] at CI CE HTW HTT ⊢
    have HN := Lib.hid hn
    clear hr hB hl hn hm h0 h12 hp hd
    go_enter Tryz.func24, Tryz.ntmps24
    go_wp2_with fail
    refine CI.out.mono ?_
    rintro e w1 ⟨rfl, hb1⟩
    have CE1 := Lib.hid (CE.out w1 hb1)
    go_wp2_with fail
    refine CE1.out.mono ?_
    rintro e w2 ⟨adE, capE, vsE, rfl, hmE, hb2⟩
    have HRE := Lib.hid hmE.rd
    have HB2 := Lib.hid (ball hb1 hb2)
    clear CE CE1 hmE hb1 hb2
    go_wp2_with fail
    go_loopw [16] (fun q wr => ∃ j : Nat, j ≤ m ∧ q = .int .i64 j ∧ (∀ t, t < j → E.getD t [] ≠ [i, k]) ∧ Below w2.heap.size w2 wr) (fun q _ => m - (intOf q).toNat)
    case atStart => exact ⟨0, Nat.zero_le _, rfl, fun j hj => by omega, Below.refl _ _⟩
    case round =>
      obtain ⟨wE, rfl⟩ : ∃ x : World, x = wr := ⟨_, rfl⟩
      obtain ⟨j, hj, rfl, hnone, hbel⟩ := hrel
      have HF := Lib.hid (ball HB2.out hbel)
      by_cases hlt : j < m
      case neg =>
        obtain rfl : j = m := by omega
        have hR := HNO.out hnone
        subst hR
        clear HFI HTW hnone
        go_wp2_with fail
        exact bodyPost_ret (v := .tuple #[.int .i64 0, .bool false]) (by simp [results, Tryz.results24, go_sem]) rfl ⟨by simp, HF.out⟩
      case pos =>
        obtain ⟨b, o, a, c, rfl, hb, kc, hrx⟩ := (HRE.out.below hbel) j (by rw [HM.out]; exact hlt)
        obtain ⟨x, y, he, hx0, hxy, hyn⟩ := HTW.out j hlt
        have HFJ := Lib.hid (HFI.out j hlt)
        have HNN := Lib.hid (fun (h : E.getD j [] ≠ [i, k]) => show ∀ t, t < j + 1 → E.getD t [] ≠ [i, k] from fun t ht => by
          by_cases e : t = j
          · subst e; exact h
          · exact hnone t (by omega))
        rw [he] at kc hrx HFJ HNN
        have e2 : ([x, y] : List Int).length = 2 := rfl
        rw [e2] at kc
        obtain ⟨g2, o2, rfl, _, q0⟩ := hrx 0 (by simp)
        have q1 := hrx.at (j := 1) (by simp)
        rw [Nat.add_zero] at q0
        have q0 : wE.cell? ⟨g2, o2, none⟩ = some (.int .i64 x) := q0
        have q1 : wE.cell? ⟨g2, o2 + 1, none⟩ = some (.int .i64 y) := q1
        have y1 : (0 : Int) ≤ (j : Int) := by omega
        have y2 : (j : Int) < (m : Int) := by omega
        clear he hrx hnone HNO HFI e2
        by_cases hx : x = i
        case neg =>
          have d1 : (x == i) = false := beq_eq_false_iff_ne.2 hx
          have HN2 := Lib.hid (HNN.out (fun e => hx (by injection e)))
          go_wp2_with fail
          go_roundw
          case rel => exact ⟨j + 1, by omega, by go_num, HN2.out, hbel⟩
          case measure => simp [intOf]; omega
        case pos =>
          subst hx
          by_cases hy : y = k
          case neg =>
            have d1 : (y == k) = false := beq_eq_false_iff_ne.2 hy
            have HN2 := Lib.hid (HNN.out (fun e => hy (by injection e with _ e; injection e)))
            go_wp2_with fail
            go_roundw
            case rel => exact ⟨j + 1, by omega, by go_num, HN2.out, hbel⟩
            case measure => simp [intOf]; omega
          case pos =>
            subst hy
            have hR := HFJ.out rfl
            subst hR
            obtain ⟨u, rfl⟩ : ∃ a : Nat, x = a := ⟨x.toNat, by omega⟩
            obtain ⟨v, rfl⟩ : ∃ a : Nat, y = a := ⟨y.toNat, by omega⟩
            have hg := HLE.out
            simp only [Int.toNat_natCast] at hg
            have hpu := RdT.at (HR.out.below HF.out) (show u < L.length by rw [HN.out]; omega)
            have hpv := RdT.at (HR.out.below HF.out) (show v < L.length by rw [HN.out]; omega)
            have p0 : wE.cell? ⟨bl, ol + u * 3, none⟩ = some (.int .i64 (tmAt L u).i) := hpu.1
            have p1 : wE.cell? ⟨bl, ol + u * 3 + 1, none⟩ = some (.int .i64 (tmAt L u).j) := hpu.2.1
            have p3 : wE.cell? ⟨bl, ol + v * 3, none⟩ = some (.int .i64 (tmAt L v).i) := hpv.1
            have p4 : wE.cell? ⟨bl, ol + v * 3 + 1, none⟩ = some (.int .i64 (tmAt L v).j) := hpv.2.1
            have tu := HTT.out u (by omega)
            have tv := HTT.out v (by omega)
            generalize tmAt L u = U at p0 p1 tu hg
            generalize tmAt L v = V at p3 p4 tv hg
            obtain ⟨ui, uj, uc⟩ := U
            obtain ⟨vi, vj, vc⟩ := V
            simp only at p0 p1 p3 p4 tu tv hg
            have w1' : IntKind.i64.wrap (ui - vi) = ui - vi := i64_small (by omega) (by omega)
            have w2' : IntKind.i64.wrap (uj - vj) = uj - vj := i64_small (by omega) (by omega)
            have hG : ((Nat.gcd (ui - vi).natAbs (uj - vj).natAbs : Nat) : Int) = G := by
              rw [hg]
              unfold gcdN Int.gcd
              have a1 : (ui - vi).natAbs = (vi - ui).natAbs := by omega
              have a2 : (uj - vj).natAbs = (vj - uj).natAbs := by omega
              rw [a1, a2]
            have CA := fun w => l1Abs_c (ui - vi) w (by omega)
            have CB := fun w => l1Abs_c (uj - vj) w (by omega)
            have CG := fun w => stCommonC_c (ui - vi).natAbs (uj - vj).natAbs w (by omega) (by omega)
            simp only [hG] at CG
            have CA := Lib.hid CA; have CB := Lib.hid CB; have CG := Lib.hid CG
            have y3 : (u : Int) < (n : Int) := by omega
            have y4 : (v : Int) < (n : Int) := hyn
            have y5 : (0 : Int) ≤ (u : Int) := by omega
            have y6 : (0 : Int) ≤ (v : Int) := by omega
            generalize (ui - vi).natAbs = ga at CA CG
            generalize (uj - vj).natAbs = gb at CB CG
            clear tu tv hg hG hpu hpv
            go_wp2_with fail
            go_quiet (first
              | ((go_at_call 59; exact Calls.quiet_of_same ((CA.out _).mono (fun e w' h => ⟨h.1, h.2.symm⟩))))
              | ((go_at_call 59; exact Calls.quiet_of_same ((CB.out _).mono (fun e w' h => ⟨h.1, h.2.symm⟩))))
              | ((go_at_call 58; exact Calls.quiet_of_same ((CG.out _).mono (fun e w' h => ⟨h.1, h.2.symm⟩)))))
            have HF2 := Lib.hid (bdrewN HF.out nq)
            go_wp2_with fail
            exact bodyPost_ret (v := .tuple #[.int .i64 G, .bool true]) (by simp [results, Tryz.results24, go_sem]) rfl ⟨by simp, HF2.out⟩
end Go.Proofs.YtbcmnhppodfhpaaGreat
