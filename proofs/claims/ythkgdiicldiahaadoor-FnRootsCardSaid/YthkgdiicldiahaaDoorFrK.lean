/-
  Fractions' floors, texts, products, means: the program's side. Printed by gen_frK.py.
-/
import Derived.Test.YthkgdiicldiahaaDoorFrJ
import Derived.Test.YthkgdiicldiahaaDoorAll
import Derived.Test.YthkgdiicldiahaaDoorLaidT
namespace Go.Proofs.YthkgdiicldiahaaDoor
open Go.RowKit

theorem bytes3 (A B : List UInt8) (c : UInt8) : (⟨A.toArray⟩ : ByteArray) ++ ⟨#[c]⟩ ++ ⟨B.toArray⟩ = ⟨(A ++ c :: B).toArray⟩ := by
  apply ByteArray.ext
  simp
theorem add_strF (a b : ByteArray) (h : a.size + b.size ≤ 9223372036854775807) (w : World) : (Op.stringOp .add a b).run Tryd.prog w = .ok (.string (a ++ b)) w := run_string_add_sum w a b h
theorem sizeC (c : UInt8) : (⟨#[c]⟩ : ByteArray).size = 1 := rfl
set_option maxHeartbeats 3200000 in
set_option maxRecDepth 100000 in
theorem frText_t (f : Fr) (w : World) (h : frB f = true) (hL : LaidT w) :
    Calls Tryd.prog 28 #[frV f] w fun e w' => e = .returned (strV (frTxt f)) ∧ Below w.heap.size w w' := by
  obtain ⟨a, d⟩ := f
  obtain ⟨h1, h2, _⟩ := frB_t.1 h
  simp only at h1 h2
  clear h
  have HL := Lib.hid hL; clear hL
  have ca := fun w hL => itoaT_c a w (by omega) (by omega) hL
  have cb := fun w hL => itoaT_c d w (by omega) (by omega) hL
  have la := itoa_lenW h1
  have lb := itoa_lenW (n := d) (by omega)
  unfold frV frTxt strV at *
  simp only
  have hb0 : Below w.heap.size w (w.alloc (.cells #[.int .i64 a, .int .i64 d] 35)) := (Below.refl _ _).alloc (Nat.le_refl _) _
  by_cases h3 : d = 1
  case pos =>
    subst h3
    rw [if_pos rfl]
    generalize Lib.itoa a = A at ca ⊢
    have CA := Lib.hid ca; clear ca cb la lb h1 h2
    go_enter Tryd.func28, Tryd.ntmps28
    go_wp2_with fail
    refine (CA.out _ (HL.out.below hb0)).mono ?_
    rintro e w1 ⟨rfl, hw1⟩
    go_wp2_with fail
    go_ret
    exact ⟨rfl, hb0.trans (hw1.mono hb0.size)⟩
  case neg =>
    rw [if_neg h3]
    have g1 : (d == 1) = false := beq_eq_false_iff_ne.2 h3
    have hE := bytes3 (Lib.itoa a) (Lib.itoa d) 47
    have la' : (⟨(Lib.itoa a).toArray⟩ : ByteArray).size ≤ 11 := by simpa [ByteArray.size] using la
    have lb' : (⟨(Lib.itoa d).toArray⟩ : ByteArray).size ≤ 11 := by simpa [ByteArray.size] using lb
    clear la lb
    generalize (⟨(Lib.itoa a ++ 47 :: Lib.itoa d).toArray⟩ : ByteArray) = T at hE ⊢
    generalize (⟨(Lib.itoa a).toArray⟩ : ByteArray) = A at hE ca la'
    generalize (⟨(Lib.itoa d).toArray⟩ : ByteArray) = D at hE cb lb'
    have k1 := fun w => add_strF A ⟨#[47]⟩ (by simp only [sizeC]; omega) w
    have k2 := fun w => add_strF (A ++ ⟨#[47]⟩) D (by simp only [ByteArray.size_append, sizeC]; omega) w
    generalize A ++ ⟨#[47]⟩ ++ D = T2 at hE k2
    generalize A ++ ⟨#[47]⟩ = T1 at k1 k2
    subst hE
    clear la' lb' h1 h2 h3
    have CA := Lib.hid ca; have CB := Lib.hid cb; clear ca cb
    have o0 := FrO.new w a d rfl
    obtain ⟨g, hg⟩ : ∃ g, w.heap.size = g := ⟨_, rfl⟩
    go_enter Tryd.func28, Tryd.ntmps28
    go_wp2_with fail
    rw [hg] at o0
    obtain ⟨x0, x1⟩ := o0.at
    generalize hw0 : w.alloc (.cells #[.int .i64 a, .int .i64 d] 35) = w0 at hb0 o0 x0 x1 ⊢
    clear hw0
    have q0 := o0
    go_region_held3 (fun w' => w'.cell? ⟨g, 0, none⟩ = some (.int .i64 a) ∧ w'.cell? ⟨g, 1, none⟩ = some (.int .i64 d)) (exact ⟨by assumption, by assumption⟩)
      (first
        | (go_at_call 29; (with_reducible refine (CA.out _ (HL.out.below (by with_reducible (first | exact hb0 | exact hb0.drew)))).mono ?_); rintro e W1 ⟨rfl, hw1⟩; have hb1 : Below w.heap.size w W1 := ball (by with_reducible (first | exact hb0 | exact hb0.drew)) hw1; have q1 : FrO W1 g ⟨a, d⟩ := FrO.below (by exact q0) hw1; obtain ⟨x10, x11⟩ := q1.at)
        | (go_at_call 29; (with_reducible refine (CB.out _ (HL.out.below (by with_reducible (first | exact hb1 | exact hb1.drew)))).mono ?_); rintro e W2 ⟨rfl, hw2⟩; have hb2 : Below w.heap.size w W2 := ball (by with_reducible (first | exact hb1 | exact hb1.drew)) hw2; have q2 : FrO W2 g ⟨a, d⟩ := FrO.below (by exact q1) hw2; obtain ⟨x20, x21⟩ := q2.at))
    all_goals
      go_wp2_with fail
      go_ret
      exact ⟨rfl, hb2⟩
set_option maxHeartbeats 3200000 in
set_option maxRecDepth 100000 in
theorem iMultiplyFracs_c (f g : Fr) (w : World) :
    Calls Tryd.prog 43 #[frV f, frV g] w fun e w' => e = .returned (frR (lowF (f.n * g.n) (f.d * g.d)) (mulB f g)) ∧ Below w.heap.size w w' := by
  have ca := fun w k hk => areFracs_n f g k w hk
  have cm := fun w h1 h2 h3 => mul_c f g w h1 h2 h3
  have ct := fun w => toldFrac_c (lowF (f.n * g.n) (f.d * g.d)) w
  have hne := fun (h1 : frB f = true) (h2 : frB g = true) => show True → f.d * g.d ≠ 0 from fun h3 => mul_ne (by have := (frB_t.1 h1).2.1; omega) (by have := (frB_t.1 h2).2.1; omega)
  unfold mulB mkB
  unfold frR at ct ⊢
  generalize frB (lowF (f.n * g.n) (f.d * g.d)) = k at ct ⊢
  generalize lowF (f.n * g.n) (f.d * g.d) = L at cm ct ⊢
  generalize frB f = u at ca cm hne ⊢
  generalize frB g = v at ca cm hne ⊢
  obtain ⟨a, b⟩ := f
  obtain ⟨c', d⟩ := g
  obtain ⟨X, Y⟩ := L
  unfold frV Fr.z at *
  simp only at ca cm ct hne ⊢
  have CA := Lib.hid ca; have CM := Lib.hid cm; have CT := Lib.hid ct; clear ca cm ct
  have hb0 : Below w.heap.size w ((((w.alloc (.cells #[.int .i64 a, .int .i64 b] 35)).alloc (.cells #[.int .i64 c', .int .i64 d] 35)).alloc (.cells #[.int .i64 0, .int .i64 0] 35)).alloc (.cells #[.int .i64 a, .int .i64 b, .int .i64 c', .int .i64 d] 35)) := ((((Below.refl _ _).alloc (Nat.le_refl _) _).alloc (by simp) _).alloc (by simp; omega) _).alloc (by simp; omega) _
  by_cases huv : (u && v) = true
  case neg =>
    have huv' : (u && v) = false := by simpa using huv
    rw [huv'] at CA
    rw [huv']
    simp only [Bool.false_and, Bool.false_eq_true, if_false]
    clear CM CT hne huv huv'
    go_enter Tryd.func43, Tryd.ntmps43
    go_wp2_with fail
    refine (CA.out _ _ (by simp)).mono ?_
    rintro e w1 ⟨rfl, hw1⟩
    have o1 := (((FrO.new (g := w.heap.size + 1 + 1) ((w.alloc (.cells #[.int .i64 a, .int .i64 b] 35)).alloc (.cells #[.int .i64 c', .int .i64 d] 35)) 0 0 (by simp)).alloc (.cells #[.int .i64 a, .int .i64 b, .int .i64 c', .int .i64 d] 35))).below hw1
    have p1 := (((((FrO.new w a b rfl).alloc (.cells #[.int .i64 c', .int .i64 d] 35)).alloc (.cells #[.int .i64 0, .int .i64 0] 35)).alloc (.cells #[.int .i64 a, .int .i64 b, .int .i64 c', .int .i64 d] 35))).below hw1
    have r1 := ((((FrO.new (g := w.heap.size + 1) (w.alloc (.cells #[.int .i64 a, .int .i64 b] 35)) c' d (by simp)).alloc (.cells #[.int .i64 0, .int .i64 0] 35)).alloc (.cells #[.int .i64 a, .int .i64 b, .int .i64 c', .int .i64 d] 35))).below hw1
    have hb1 := hb0.trans (hw1.mono hb0.size)
    clear hw1 hb0
    obtain ⟨x0, x1⟩ := o1.at
    obtain ⟨y0, y1⟩ := o1.fr
    obtain ⟨z0, z1⟩ := p1.at
    obtain ⟨u0, u1⟩ := r1.at
    go_wp2_with fail
    obtain ⟨W, hW, ⟨q0, q1⟩, hB⟩ := fr2_end (a := 0) (b := 0) o1 hb1 (by omega)
    unfold fr2 at hW
    rw [hW]
    exact bodyPost_ret (v := .tuple #[.agg #[.int .i64 0, .int .i64 0], .bool false]) (by simp [results, Tryd.results43, go_sem, q0, q1]) rfl ⟨rfl, hB⟩
  case pos =>
    obtain ⟨rfl, rfl⟩ := Bool.and_eq_true_iff.1 huv
    clear huv
    simp only [Bool.and_self, Bool.true_and] at CA ⊢
    have hn1 := hne rfl rfl trivial
    rw [decide_eq_true hn1]
    simp only [Bool.true_and]
    clear hne
    have CM2 := Lib.hid (fun w => CM.out w rfl rfl hn1); clear CM hn1
    go_enter Tryd.func43, Tryd.ntmps43
    go_wp2_with fail
    refine (CA.out _ _ (by simp)).mono ?_
    rintro e w1 ⟨rfl, hw1⟩
    have o1 := (((FrO.new (g := w.heap.size + 1 + 1) ((w.alloc (.cells #[.int .i64 a, .int .i64 b] 35)).alloc (.cells #[.int .i64 c', .int .i64 d] 35)) 0 0 (by simp)).alloc (.cells #[.int .i64 a, .int .i64 b, .int .i64 c', .int .i64 d] 35))).below hw1
    have p1 := (((((FrO.new w a b rfl).alloc (.cells #[.int .i64 c', .int .i64 d] 35)).alloc (.cells #[.int .i64 0, .int .i64 0] 35)).alloc (.cells #[.int .i64 a, .int .i64 b, .int .i64 c', .int .i64 d] 35))).below hw1
    have r1 := ((((FrO.new (g := w.heap.size + 1) (w.alloc (.cells #[.int .i64 a, .int .i64 b] 35)) c' d (by simp)).alloc (.cells #[.int .i64 0, .int .i64 0] 35)).alloc (.cells #[.int .i64 a, .int .i64 b, .int .i64 c', .int .i64 d] 35))).below hw1
    have hb1 := hb0.trans (hw1.mono hb0.size)
    clear hw1 hb0
    obtain ⟨x0, x1⟩ := o1.at
    obtain ⟨y0, y1⟩ := o1.fr
    obtain ⟨z0, z1⟩ := p1.at
    obtain ⟨u0, u1⟩ := r1.at
    go_wp2_with fail
    refine (CM2.out _).mono ?_
    rintro e w2 ⟨rfl, hw2⟩
    go_wp2_with fail
    refine (CT.out _).mono ?_
    rintro e w3 ⟨rfl, hw3⟩
    have o3 := (o1.below hw2).below hw3
    have hb3 := ball (ball hb1 hw2) hw3
    clear o1 p1 r1 hb1 x0 x1 y0 y1 z0 z1 u0 u1 hw2 hw3
    obtain ⟨x0, x1⟩ := o3.at
    obtain ⟨y0, y1⟩ := o3.fr
    cases k
    case false =>
      go_wp2_with fail
      obtain ⟨W, hW, ⟨q0, q1⟩, hB⟩ := fr2_end (a := 0) (b := 0) o3 hb3 (by omega)
      unfold fr2 at hW
      rw [hW]
      exact bodyPost_ret (v := .tuple #[.agg #[.int .i64 0, .int .i64 0], .bool false]) (by simp [results, Tryd.results43, go_sem, q0, q1]) rfl ⟨rfl, hB⟩
    case true =>
      go_wp2_with fail
      obtain ⟨W, hW, ⟨q0, q1⟩, hB⟩ := fr2_end (a := X) (b := Y) o3 hb3 (by omega)
      unfold fr2 at hW
      rw [hW]
      exact bodyPost_ret (v := .tuple #[.agg #[.int .i64 X, .int .i64 Y], .bool true]) (by simp [results, Tryd.results43, go_sem, q0, q1]) rfl ⟨rfl, hB⟩
theorem RdI.shape' {w : World} {ad : Option Addr} {xs : List Int} (h : RdI w ad xs) {j : Nat} (hj : j < xs.length) : ∃ b off, ad = some ⟨b, off, none⟩ ∧ b < w.heap.size ∧ w.cell? ⟨b, off + j, none⟩ = some (.int .i64 (xs.getD j 0)) := h j hj
end Go.Proofs.YthkgdiicldiahaaDoor
