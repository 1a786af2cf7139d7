/-
  Fractions' floors, texts, products, means: the program's side. Printed by gen_frK.py.
-/
import Derived.Test.YtekhmjhbdoigoaaFrJ
import Derived.Test.YtekhmjhbdoigoaaAll
import Derived.Test.YtekhmjhbdoigoaaLaidT
namespace Go.Proofs.Ytekhmjhbdoigoaa
open Go.RowKit

theorem bytes3 (A B : List UInt8) (c : UInt8) : (⟨A.toArray⟩ : ByteArray) ++ ⟨#[c]⟩ ++ ⟨B.toArray⟩ = ⟨(A ++ c :: B).toArray⟩ := by
  apply ByteArray.ext
  simp
theorem add_strF (a b : ByteArray) (h : a.size + b.size ≤ 9223372036854775807) (w : World) : (Op.stringOp .add a b).run Try.prog w = .ok (.string (a ++ b)) w := run_string_add_sum w a b h
theorem sizeC (c : UInt8) : (⟨#[c]⟩ : ByteArray).size = 1 := rfl
set_option maxHeartbeats 3200000 in
set_option maxRecDepth 100000 in
theorem floor_c (n d : Int) (w : World) (hd : 1 ≤ d ∧ d ≤ 1000000000) (hn : -1000000000 ≤ n ∧ n ≤ 1000000000) :
    Calls Try.prog 64 #[.agg #[.int .i64 n, .int .i64 d]] w fun e w' => e = .returned (.int .i64 (floZ n d)) ∧ Below w.heap.size w w' := by
  have hv := flo_tdiv (n := n) (d := d) (by omega)
  have x1 := tdiv_bd n d
  have hd0 : ¬ d = 0 := by omega
  have hd1 : (d == 0) = false := beq_eq_false_iff_ne.2 hd0
  generalize floZ n d = Z at hv ⊢
  generalize hT : Int.tdiv n d = T at x1 hv
  generalize hR : Int.tmod n d = R at hv
  have e1 : IntKind.i64.wrap T = T := i64_small (by omega) (by omega)
  have e2 : IntKind.i64.wrap (T - 1) = T - 1 := i64_small (by omega) (by omega)
  have hb0 : Below w.heap.size w (w.alloc (.cells #[.int .i64 n, .int .i64 d] 38)) := (Below.refl _ _).alloc (Nat.le_refl _) _
  clear hd hn x1
  by_cases hr : R < 0
  · rw [if_pos hr] at hv
    have g1 : decide (R < 0) = true := decide_eq_true hr
    clear hr
    have HV := Lib.hid hv; clear hv
    go_enter Try.func64, Try.ntmps64
    go_wp2_with fail
    go_ret
    exact ⟨by rw [HV.out]; rfl, hb0⟩
  · rw [if_neg hr] at hv
    have g1 : decide (R < 0) = false := decide_eq_false hr
    clear hr
    have HV := Lib.hid hv; clear hv
    go_enter Try.func64, Try.ntmps64
    go_wp2_with fail
    go_ret
    exact ⟨by rw [HV.out]; rfl, hb0⟩
set_option maxHeartbeats 3200000 in
set_option maxRecDepth 100000 in
theorem ceil_c (n d : Int) (w : World) (hd : 1 ≤ d ∧ d ≤ 1000000000) (hn : -1000000000 ≤ n ∧ n ≤ 1000000000) :
    Calls Try.prog 26 #[.agg #[.int .i64 n, .int .i64 d]] w fun e w' => e = .returned (.int .i64 (ceiZ n d)) ∧ Below w.heap.size w w' := by
  have c := fun w => floor_c (-n) d w hd (by omega)
  have hf := flo_abs (n := -n) (d := d) (by omega) (by omega)
  unfold ceiZ
  generalize floZ (-n) d = q at c hf ⊢
  have e1 : IntKind.i64.wrap (-n) = -n := i64_small (by omega) (by omega)
  have e2 : IntKind.i64.wrap (-q) = -q := i64_small (by omega) (by omega)
  have hb0 : Below w.heap.size w (w.alloc (.cells #[.int .i64 n, .int .i64 d] 38)) := (Below.refl _ _).alloc (Nat.le_refl _) _
  have C := Lib.hid c; clear c hd hn hf
  go_enter Try.func26, Try.ntmps26
  go_wp2_with fail
  refine (C.out _).mono ?_
  rintro e w1 ⟨rfl, hw1⟩
  go_wp2_with fail
  go_ret
  exact ⟨rfl, hb0.trans (hw1.mono hb0.size)⟩
set_option maxHeartbeats 3200000 in
set_option maxRecDepth 100000 in
theorem iMultiplyFracs_c (f g : Fr) (w : World) :
    Calls Try.prog 50 #[frV f, frV g] w fun e w' => e = .returned (frR (lowF (f.n * g.n) (f.d * g.d)) (mulB f g)) ∧ Below w.heap.size w w' := by
  have ca := fun w k hk => areFracs_n f g k w hk
  have cm := fun w h1 h2 h3 => mul_c f g w h1 h2 h3
  have ct := fun w => toldFrac_c (lowF (f.n * g.n) (f.d * g.d)) w
  have hne := fun (h1 : frB f = true) (h2 : frB g = true) => show True → f.d * g.d ≠ 0 from fun h3 => mul_ne (by have := (frB_t.1 h1).2.1; omega) (by have := (frB_t.1 h2).2.1; omega)
  unfold mulB mkB
  unfold frR at ct ⊢
  generalize frB (lowF (f.n * g.n) (f.d * g.d)) = k at ct ⊢
  generalize lowF (f.n * g.n) (f.d * g.d) = L at cm ct ⊢
  generalize frB f = u at ca cm hne ⊢
  generalize frB g = v at ca cm hne ⊢
  obtain ⟨a, b⟩ := f
  obtain ⟨c', d⟩ := g
  obtain ⟨X, Y⟩ := L
  unfold frV Fr.z at *
  simp only at ca cm ct hne ⊢
  have CA := Lib.hid ca; have CM := Lib.hid cm; have CT := Lib.hid ct; clear ca cm ct
  have hb0 : Below w.heap.size w ((((w.alloc (.cells #[.int .i64 a, .int .i64 b] 38)).alloc (.cells #[.int .i64 c', .int .i64 d] 38)).alloc (.cells #[.int .i64 0, .int .i64 0] 38)).alloc (.cells #[.int .i64 a, .int .i64 b, .int .i64 c', .int .i64 d] 38)) := ((((Below.refl _ _).alloc (Nat.le_refl _) _).alloc (by simp) _).alloc (by simp; omega) _).alloc (by simp; omega) _
  by_cases huv : (u && v) = true
  case neg =>
    have huv' : (u && v) = false := by simpa using huv
    rw [huv'] at CA
    rw [huv']
    simp only [Bool.false_and, Bool.false_eq_true, if_false]
    clear CM CT hne huv huv'
    go_enter Try.func50, Try.ntmps50
    go_wp2_with fail
    refine (CA.out _ _ (by simp)).mono ?_
    rintro e w1 ⟨rfl, hw1⟩
    have o1 := (((FrO.new (g := w.heap.size + 1 + 1) ((w.alloc (.cells #[.int .i64 a, .int .i64 b] 38)).alloc (.cells #[.int .i64 c', .int .i64 d] 38)) 0 0 (by simp)).alloc (.cells #[.int .i64 a, .int .i64 b, .int .i64 c', .int .i64 d] 38))).below hw1
    have p1 := (((((FrO.new w a b rfl).alloc (.cells #[.int .i64 c', .int .i64 d] 38)).alloc (.cells #[.int .i64 0, .int .i64 0] 38)).alloc (.cells #[.int .i64 a, .int .i64 b, .int .i64 c', .int .i64 d] 38))).below hw1
    have r1 := ((((FrO.new (g := w.heap.size + 1) (w.alloc (.cells #[.int .i64 a, .int .i64 b] 38)) c' d (by simp)).alloc (.cells #[.int .i64 0, .int .i64 0] 38)).alloc (.cells #[.int .i64 a, .int .i64 b, .int .i64 c', .int .i64 d] 38))).below hw1
    have hb1 := hb0.trans (hw1.mono hb0.size)
    clear hw1 hb0
    obtain ⟨x0, x1⟩ := o1.at
    obtain ⟨y0, y1⟩ := o1.fr
    obtain ⟨z0, z1⟩ := p1.at
    obtain ⟨u0, u1⟩ := r1.at
    go_wp2_with fail
    obtain ⟨W, hW, ⟨q0, q1⟩, hB⟩ := fr2_end (a := 0) (b := 0) o1 hb1 (by omega)
    unfold fr2 at hW
    rw [hW]
    exact bodyPost_ret (v := .tuple #[.agg #[.int .i64 0, .int .i64 0], .bool false]) (by simp [results, Try.results50, go_sem, q0, q1]) rfl ⟨rfl, hB⟩
  case pos =>
    obtain ⟨rfl, rfl⟩ := Bool.and_eq_true_iff.1 huv
    clear huv
    simp only [Bool.and_self, Bool.true_and] at CA ⊢
    have hn1 := hne rfl rfl trivial
    rw [decide_eq_true hn1]
    simp only [Bool.true_and]
    clear hne
    have CM2 := Lib.hid (fun w => CM.out w rfl rfl hn1); clear CM hn1
    go_enter Try.func50, Try.ntmps50
    go_wp2_with fail
    refine (CA.out _ _ (by simp)).mono ?_
    rintro e w1 ⟨rfl, hw1⟩
    have o1 := (((FrO.new (g := w.heap.size + 1 + 1) ((w.alloc (.cells #[.int .i64 a, .int .i64 b] 38)).alloc (.cells #[.int .i64 c', .int .i64 d] 38)) 0 0 (by simp)).alloc (.cells #[.int .i64 a, .int .i64 b, .int .i64 c', .int .i64 d] 38))).below hw1
    have p1 := (((((FrO.new w a b rfl).alloc (.cells #[.int .i64 c', .int .i64 d] 38)).alloc (.cells #[.int .i64 0, .int .i64 0] 38)).alloc (.cells #[.int .i64 a, .int .i64 b, .int .i64 c', .int .i64 d] 38))).below hw1
    have r1 := ((((FrO.new (g := w.heap.size + 1) (w.alloc (.cells #[.int .i64 a, .int .i64 b] 38)) c' d (by simp)).alloc (.cells #[.int .i64 0, .int .i64 0] 38)).alloc (.cells #[.int .i64 a, .int .i64 b, .int .i64 c', .int .i64 d] 38))).below hw1
    have hb1 := hb0.trans (hw1.mono hb0.size)
    clear hw1 hb0
    obtain ⟨x0, x1⟩ := o1.at
    obtain ⟨y0, y1⟩ := o1.fr
    obtain ⟨z0, z1⟩ := p1.at
    obtain ⟨u0, u1⟩ := r1.at
    go_wp2_with fail
    refine (CM2.out _).mono ?_
    rintro e w2 ⟨rfl, hw2⟩
    go_wp2_with fail
    refine (CT.out _).mono ?_
    rintro e w3 ⟨rfl, hw3⟩
    have o3 := (o1.below hw2).below hw3
    have hb3 := ball (ball hb1 hw2) hw3
    clear o1 p1 r1 hb1 x0 x1 y0 y1 z0 z1 u0 u1 hw2 hw3
    obtain ⟨x0, x1⟩ := o3.at
    obtain ⟨y0, y1⟩ := o3.fr
    cases k
    case false =>
      go_wp2_with fail
      obtain ⟨W, hW, ⟨q0, q1⟩, hB⟩ := fr2_end (a := 0) (b := 0) o3 hb3 (by omega)
      unfold fr2 at hW
      rw [hW]
      exact bodyPost_ret (v := .tuple #[.agg #[.int .i64 0, .int .i64 0], .bool false]) (by simp [results, Try.results50, go_sem, q0, q1]) rfl ⟨rfl, hB⟩
    case true =>
      go_wp2_with fail
      obtain ⟨W, hW, ⟨q0, q1⟩, hB⟩ := fr2_end (a := X) (b := Y) o3 hb3 (by omega)
      unfold fr2 at hW
      rw [hW]
      exact bodyPost_ret (v := .tuple #[.agg #[.int .i64 X, .int .i64 Y], .bool true]) (by simp [results, Try.results50, go_sem, q0, q1]) rfl ⟨rfl, hB⟩
theorem RdI.shape' {w : World} {ad : Option Addr} {xs : List Int} (h : RdI w ad xs) {j : Nat} (hj : j < xs.length) : ∃ b off, ad = some ⟨b, off, none⟩ ∧ b < w.heap.size ∧ w.cell? ⟨b, off + j, none⟩ = some (.int .i64 (xs.getD j 0)) := h j hj
end Go.Proofs.Ytekhmjhbdoigoaa
