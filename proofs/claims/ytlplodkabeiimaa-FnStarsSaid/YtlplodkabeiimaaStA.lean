/-
  Stars: the program's sums, directions and balances. By an AI agent.
-/
import Derived.Test.YtlplodkabeiimaaStM
namespace Go.Proofs.Ytlplodkabeiimaa
open Go.RowKit

/-- Two numbers, three numbers in a block of their own. -/
def PtO (w : World) (g : Nat) (x y : Int) : Prop := Own w g 61 [.int .i64 x, .int .i64 y]
def RyO (w : World) (g : Nat) (r : Ry) : Prop := Own w g 35 [.int .i64 r.x, .int .i64 r.y, .int .i64 r.w]
theorem PtO.new (w : World) (a b : Int) {g : Nat} (hg : g = w.heap.size) : PtO (w.alloc (.cells #[.int .i64 a, .int .i64 b] 61)) g a b := by subst hg; exact Own.newA w _ _ rfl
theorem RyO.new (w : World) (a b c : Int) {g : Nat} (hg : g = w.heap.size) : RyO (w.alloc (.cells #[.int .i64 a, .int .i64 b, .int .i64 c] 35)) g ⟨a, b, c⟩ := by subst hg; exact Own.newA w _ _ rfl
theorem PtO.below {w w' : World} {g : Nat} {x y : Int} (h : PtO w g x y) (hb : Below w.heap.size w w') : PtO w' g x y := Own.belowAll h hb
theorem RyO.below {w w' : World} {g : Nat} {r : Ry} (h : RyO w g r) (hb : Below w.heap.size w w') : RyO w' g r := Own.belowAll h hb
theorem PtO.at {w : World} {g : Nat} {x y : Int} (h : PtO w g x y) : w.cell? ⟨g, 0, none⟩ = some (.int .i64 x) ∧ w.cell? ⟨g, 1, none⟩ = some (.int .i64 y) := ⟨Own.cell? h rfl, Own.cell? h rfl⟩
theorem RyO.at {w : World} {g : Nat} {a b c : Int} (h : RyO w g ⟨a, b, c⟩) : w.cell? ⟨g, 0, none⟩ = some (.int .i64 a) ∧ w.cell? ⟨g, 1, none⟩ = some (.int .i64 b) ∧ w.cell? ⟨g, 2, none⟩ = some (.int .i64 c) := ⟨Own.cell? h rfl, Own.cell? h rfl, Own.cell? h rfl⟩
theorem PtO.fr {w : World} {g : Nat} {x y : Int} (h : PtO w g x y) : w.frozen? ⟨g, 0, none⟩ = false ∧ w.frozen? ⟨g, 1, none⟩ = false := ⟨Own.frozen h 0, Own.frozen h 1⟩
theorem RyO.fr {w : World} {g : Nat} {r : Ry} (h : RyO w g r) : w.frozen? ⟨g, 0, none⟩ = false ∧ w.frozen? ⟨g, 1, none⟩ = false ∧ w.frozen? ⟨g, 2, none⟩ = false := ⟨Own.frozen h 0, Own.frozen h 1, Own.frozen h 2⟩
def two (w : World) (g : Nat) (a b : Int) : World := (w.setCell ⟨g, 0, none⟩ (.int .i64 a)).setCell ⟨g, 1, none⟩ (.int .i64 b)
def three (w : World) (g : Nat) (a b c : Int) : World := ((w.setCell ⟨g, 0, none⟩ (.int .i64 a)).setCell ⟨g, 1, none⟩ (.int .i64 b)).setCell ⟨g, 2, none⟩ (.int .i64 c)
theorem PtO.set {w : World} {g : Nat} {x y : Int} (h : PtO w g x y) (a b : Int) : PtO (two w g a b) g a b := (Own.set h 0 (.int .i64 a)).set 1 (.int .i64 b)
theorem RyO.set {w : World} {g : Nat} {r : Ry} (h : RyO w g r) (a b c : Int) : RyO (three w g a b c) g ⟨a, b, c⟩ := ((Own.set h 0 (.int .i64 a)).set 1 (.int .i64 b)).set 2 (.int .i64 c)
theorem two_chg (w : World) (g : Nat) (a b : Int) : Chg g w (two w g a b) := (Chg.set g 0 w (.int .i64 a)).trans (Chg.set g 1 _ (.int .i64 b))
theorem three_chg (w : World) (g : Nat) (a b c : Int) : Chg g w (three w g a b c) := ((Chg.set g 0 w (.int .i64 a)).trans (Chg.set g 1 _ (.int .i64 b))).trans (Chg.set g 2 _ (.int .i64 c))
theorem two_end {u w : World} {g : Nat} {x y a b : Int} (h : PtO w g x y) (hb : Below u.heap.size u w) (hg : u.heap.size ≤ g) : ∃ W, two w g a b = W ∧ (W.cell? ⟨g, 0, none⟩ = some (.int .i64 a) ∧ W.cell? ⟨g, 1, none⟩ = some (.int .i64 b)) ∧ Below u.heap.size u W :=
  ⟨_, rfl, (h.set a b).at, bchg hb (two_chg ..) hg hb.size⟩
theorem three_end {u w : World} {g : Nat} {r : Ry} {a b c : Int} (h : RyO w g r) (hb : Below u.heap.size u w) (hg : u.heap.size ≤ g) : ∃ W, three w g a b c = W ∧ (W.cell? ⟨g, 0, none⟩ = some (.int .i64 a) ∧ W.cell? ⟨g, 1, none⟩ = some (.int .i64 b) ∧ W.cell? ⟨g, 2, none⟩ = some (.int .i64 c)) ∧ Below u.heap.size u W :=
  ⟨_, rfl, (h.set a b c).at, bchg hb (three_chg ..) hg hb.size⟩
theorem PtO.two {w : World} {g h : Nat} {x y : Int} (k : PtO w g x y) (hne : g ≠ h) (a b : Int) : PtO (two w h a b) g x y := Own.chg k (two_chg ..) hne

set_option maxHeartbeats 800000 in
theorem plus_c (a b c d : Int) (w : World) (h1 : -1000000 ≤ a ∧ a ≤ 1000000) (h2 : -1000000 ≤ b ∧ b ≤ 1000000) (h3 : -1000000 ≤ c ∧ c ≤ 1000000) (h4 : -1000000 ≤ d ∧ d ≤ 1000000) :
    Calls Try.prog 62 #[.agg #[.int .i64 a, .int .i64 b], .agg #[.int .i64 c, .int .i64 d]] w fun e w' => e = .returned (.agg #[.int .i64 (a + c), .int .i64 (b + d)]) ∧ Below w.heap.size w w' := by
  have e1 : IntKind.i64.wrap (a + c) = a + c := i64_small (by omega) (by omega)
  have e2 : IntKind.i64.wrap (b + d) = b + d := i64_small (by omega) (by omega)
  go_enter Try.func62, Try.ntmps62
  go_wp2_with fail
  exact bodyPost_ret (v := .agg #[.int .i64 (a + c), .int .i64 (b + d)]) (by simp [results, Try.results62, go_sem]) rfl ⟨rfl, (((Below.refl _ _).alloc (Nat.le_refl _) _).alloc (by simp) _).alloc (by simp; omega) _⟩
set_option maxHeartbeats 800000 in
theorem minusA_c (a b c d : Int) (w : World) (h1 : -1000000 ≤ a ∧ a ≤ 1000000) (h2 : -1000000 ≤ b ∧ b ≤ 1000000) (h3 : -1000000 ≤ c ∧ c ≤ 1000000) (h4 : -1000000 ≤ d ∧ d ≤ 1000000) :
    Calls Try.prog 38 #[.agg #[.int .i64 a, .int .i64 b], .agg #[.int .i64 c, .int .i64 d]] w fun e w' => e = .returned (.agg #[.int .i64 (a - c), .int .i64 (b - d)]) ∧ Below w.heap.size w w' := by
  have e1 : IntKind.i64.wrap (a - c) = a - c := i64_small (by omega) (by omega)
  have e2 : IntKind.i64.wrap (b - d) = b - d := i64_small (by omega) (by omega)
  go_enter Try.func38, Try.ntmps38
  go_wp2_with fail
  exact bodyPost_ret (v := .agg #[.int .i64 (a - c), .int .i64 (b - d)]) (by simp [results, Try.results38, go_sem]) rfl ⟨rfl, (((Below.refl _ _).alloc (Nat.le_refl _) _).alloc (by simp) _).alloc (by simp; omega) _⟩

theorem sum_take (l : List Ry) (k : Nat) (h : k < l.length) : sxR (l.take (k + 1)) = sxR (l.take k) + (l.getD k default).w * (l.getD k default).x ∧ syR (l.take (k + 1)) = syR (l.take k) + (l.getD k default).w * (l.getD k default).y := by
  rw [takeR_snoc l k h, sxR_append, syR_append]
  simp [sxR, syR]
theorem getD_mem {l : List Ry} {k : Nat} (h : k < l.length) : l.getD k default ∈ l := by
  rw [List.getD_eq_getElem?_getD, List.getElem?_eq_getElem h, Option.getD_some]
  exact List.getElem_mem _

set_option maxHeartbeats 1600000 in
set_option maxRecDepth 100000 in
theorem starSum_c (ad : Option Addr) (cap : Nat) (l : List Ry) (w : World) (hr : RdY w ad l) (hs : starB l = true) :
    Calls Try.prog 35 #[.slice ad l.length cap] w fun e w' => e = .returned (.agg #[.int .i64 (sxR l), .int .i64 (syR l)]) ∧ Below w.heap.size w w' := by
  obtain ⟨hl, hry, _⟩ := star_of hs
  have HR := Lib.hid hr; clear hr
  have HY := Lib.hid hry; clear hry
  clear hs
  have hb0 : Below w.heap.size w ((w.alloc (.cells #[.int .i64 0, .int .i64 0] 61)).alloc (.cells #[.int .i64 0, .int .i64 0] 61)) := ((Below.refl _ _).alloc (Nat.le_refl _) _).alloc (by simp) _
  have p0 := (PtO.new w 0 0 rfl).below ((Below.refl _ _).alloc (Nat.le_refl _) (.cells #[.int .i64 0, .int .i64 0] 61))
  have q0 := PtO.new (g := w.heap.size + 1) (w.alloc (.cells #[.int .i64 0, .int .i64 0] 61)) 0 0 (by simp)
  obtain ⟨g0, hg0⟩ : ∃ g, g = w.heap.size := ⟨_, rfl⟩
  go_enter Try.func35, Try.ntmps35
  go_wp2_with fail
  generalize (w.alloc (.cells #[.int .i64 0, .int .i64 0] 61)).alloc (.cells #[.int .i64 0, .int .i64 0] 61) = w1 at hb0 p0 q0 ⊢
  go_loopw [9] (fun i wr => ∃ k : Nat, k ≤ l.length ∧ i = .int .i64 k ∧ PtO wr w.heap.size 0 0 ∧ PtO wr (w.heap.size + 1) (sxR (l.take k)) (syR (l.take k)) ∧ Below w.heap.size w wr) (fun i _ => l.length - (intOf i).toNat)
  case atStart => exact ⟨0, Nat.zero_le _, rfl, p0, by simpa [sxR, syR] using q0, hb0⟩
  case round =>
    obtain ⟨wE, rfl⟩ : ∃ x : World, x = wr := ⟨_, rfl⟩
    obtain ⟨k, hk, rfl, pp, qq, hbel⟩ := hrel
    by_cases hlt : k < l.length
    case neg =>
      obtain rfl : k = l.length := by omega
      rw [List.take_length] at qq
      obtain ⟨c0, c1⟩ := qq.at
      obtain ⟨d0, d1⟩ := pp.at
      obtain ⟨f0, f1⟩ := pp.fr
      go_wp2_with fail
      obtain ⟨W, hW, ⟨r0, r1⟩, hB⟩ := two_end (a := sxR l) (b := syR l) pp hbel (Nat.le_refl _)
      unfold two at hW
      rw [hW]
      exact bodyPost_ret (v := .agg #[.int .i64 (sxR l), .int .i64 (syR l)]) (by simp [results, Try.results35, go_sem, r0, r1]) rfl ⟨rfl, hB⟩
    case pos =>
      obtain ⟨s1, s2⟩ := sum_take l k hlt
      have hsb := sum_b (l := l.take k) (fun r hr => HY.out r (List.mem_of_mem_take hr))
      rw [List.length_take] at hsb
      obtain ⟨r1, r2, r3, _⟩ := ry_of (HY.out _ (getD_mem hlt))
      obtain ⟨b, off, rfl, hb, x0, x1, x2⟩ := HR.out k hlt
      have x0 := bcell hbel hb x0
      have x1 := bcell hbel hb x1
      have x2 := bcell hbel hb x2
      generalize hrr : l.getD k default = r at s1 s2 r1 r2 r3 x0 x1 x2
      clear hrr
      obtain ⟨rx, ry, rw'⟩ := r
      simp only at s1 s2 r1 r2 r3 x0 x1 x2
      have k1 := mulbS (k := rw') (m := rx) (K := 20) (M := 20) (by omega) (by omega) (by omega)
      have k2 := mulbS (k := rw') (m := ry) (K := 20) (M := 20) (by omega) (by omega) (by omega)
      generalize sxR (l.take k) = X at s1 hsb qq
      generalize syR (l.take k) = Y at s2 hsb qq
      have e1 : IntKind.i64.wrap (rw' * rx) = rw' * rx := i64_small (by omega) (by omega)
      have e2 : IntKind.i64.wrap (rw' * ry) = rw' * ry := i64_small (by omega) (by omega)
      have CP := Lib.hid (fun w => plus_c X Y (rw' * rx) (rw' * ry) w (by omega) (by omega) (by omega) (by omega))
      have S1 := Lib.hid s1; have S2 := Lib.hid s2
      clear s1 s2 hsb k1 k2 r1 r2 r3
      have hbE : b < wE.heap.size := Nat.lt_of_lt_of_le hb hbel.size
      have y1 : (0 : Int) ≤ (k : Int) := by omega
      have y2 : (k : Int) < (l.length : Int) := by omega
      obtain ⟨c0, c1⟩ := qq.at
      have c2 := cell_alloc' (o := .cells #[.int .i64 rx, .int .i64 ry, .int .i64 rw'] 35) c0
      have c3 := cell_alloc' (o := .cells #[.int .i64 rx, .int .i64 ry, .int .i64 rw'] 35) c1
      go_wp2_with fail
      have hbA : Below wE.heap.size wE (wE.alloc (.cells #[.int .i64 rx, .int .i64 ry, .int .i64 rw'] 35)) := (Below.refl _ _).alloc (Nat.le_refl _) _
      refine (CP.out _).mono ?_
      rintro e w2 ⟨rfl, hw2⟩
      have qq2 := (qq.below hbA).below hw2
      have pp2 := (pp.below hbA).below hw2
      have hb2 := ball (ball hbel hbA) hw2
      clear qq pp hw2 hbA
      obtain ⟨c0, c1⟩ := qq2.at
      obtain ⟨f0, f1⟩ := qq2.fr
      go_wp2_with fail
      go_roundw
      case rel => exact ⟨k + 1, by omega, by go_num, pp2.two (by omega) _ _, by rw [S1.out, S2.out]; exact qq2.set _ _, bchg hb2 (two_chg ..) (by omega) hb2.size⟩
      case measure => simp [intOf]; omega

end Go.Proofs.Ytlplodkabeiimaa
