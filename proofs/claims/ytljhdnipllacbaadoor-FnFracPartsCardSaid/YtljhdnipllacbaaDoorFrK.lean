/-
  Fractions' floors, texts, products, means: the program's side. Printed by gen_frK.py.
-/
import Derived.Test.YtljhdnipllacbaaDoorFrJ
import Derived.Test.YtljhdnipllacbaaDoorAll
namespace Go.Proofs.YtljhdnipllacbaaDoor
open Go.RowKit

theorem bytes3 (A B : List UInt8) (c : UInt8) : (⟨A.toArray⟩ : ByteArray) ++ ⟨#[c]⟩ ++ ⟨B.toArray⟩ = ⟨(A ++ c :: B).toArray⟩ := by
  apply ByteArray.ext
  simp
theorem add_strF (a b : ByteArray) (h : a.size + b.size ≤ 9223372036854775807) (w : World) : (Op.stringOp .add a b).run Tryd.prog w = .ok (.string (a ++ b)) w := run_string_add_sum w a b h
theorem sizeC (c : UInt8) : (⟨#[c]⟩ : ByteArray).size = 1 := rfl
set_option maxHeartbeats 3200000 in
set_option maxRecDepth 100000 in
theorem floor_c (n d : Int) (w : World) (hd : 1 ≤ d ∧ d ≤ 1000000000) (hn : -1000000000 ≤ n ∧ n ≤ 1000000000) :
    Calls Tryd.prog 32 #[.agg #[.int .i64 n, .int .i64 d]] w fun e w' => e = .returned (.int .i64 (floZ n d)) ∧ Below w.heap.size w w' := by
  have hv := flo_tdiv (n := n) (d := d) (by omega)
  have x1 := tdiv_bd n d
  have hd0 : ¬ d = 0 := by omega
  have hd1 : (d == 0) = false := beq_eq_false_iff_ne.2 hd0
  generalize floZ n d = Z at hv ⊢
  generalize hT : Int.tdiv n d = T at x1 hv
  generalize hR : Int.tmod n d = R at hv
  have e1 : IntKind.i64.wrap T = T := i64_small (by omega) (by omega)
  have e2 : IntKind.i64.wrap (T - 1) = T - 1 := i64_small (by omega) (by omega)
  have hb0 : Below w.heap.size w (w.alloc (.cells #[.int .i64 n, .int .i64 d] 24)) := (Below.refl _ _).alloc (Nat.le_refl _) _
  clear hd hn x1
  by_cases hr : R < 0
  · rw [if_pos hr] at hv
    have g1 : decide (R < 0) = true := decide_eq_true hr
    clear hr
    have HV := Lib.hid hv; clear hv
    go_enter Tryd.func32, Tryd.ntmps32
    go_wp2_with fail
    go_ret
    exact ⟨by rw [HV.out]; rfl, hb0⟩
  · rw [if_neg hr] at hv
    have g1 : decide (R < 0) = false := decide_eq_false hr
    clear hr
    have HV := Lib.hid hv; clear hv
    go_enter Tryd.func32, Tryd.ntmps32
    go_wp2_with fail
    go_ret
    exact ⟨by rw [HV.out]; rfl, hb0⟩
set_option maxHeartbeats 3200000 in
set_option maxRecDepth 100000 in
theorem ceil_c (n d : Int) (w : World) (hd : 1 ≤ d ∧ d ≤ 1000000000) (hn : -1000000000 ≤ n ∧ n ≤ 1000000000) :
    Calls Tryd.prog 35 #[.agg #[.int .i64 n, .int .i64 d]] w fun e w' => e = .returned (.int .i64 (ceiZ n d)) ∧ Below w.heap.size w w' := by
  have c := fun w => floor_c (-n) d w hd (by omega)
  have hf := flo_abs (n := -n) (d := d) (by omega) (by omega)
  unfold ceiZ
  generalize floZ (-n) d = q at c hf ⊢
  have e1 : IntKind.i64.wrap (-n) = -n := i64_small (by omega) (by omega)
  have e2 : IntKind.i64.wrap (-q) = -q := i64_small (by omega) (by omega)
  have hb0 : Below w.heap.size w (w.alloc (.cells #[.int .i64 n, .int .i64 d] 24)) := (Below.refl _ _).alloc (Nat.le_refl _) _
  have C := Lib.hid c; clear c hd hn hf
  go_enter Tryd.func35, Tryd.ntmps35
  go_wp2_with fail
  refine (C.out _).mono ?_
  rintro e w1 ⟨rfl, hw1⟩
  go_wp2_with fail
  go_ret
  exact ⟨rfl, hb0.trans (hw1.mono hb0.size)⟩
set_option maxHeartbeats 3200000 in
set_option maxRecDepth 100000 in
theorem frText_i (f : Fr) (w : World) (h : frB f = true) (hL : LaidS w) :
    Calls Tryd.prog 36 #[frV f] w fun e w' => e = .returned (strV (frTxt f)) ∧ Below w.heap.size w w' := by
  obtain ⟨a, d⟩ := f
  obtain ⟨h1, h2, _⟩ := frB_t.1 h
  simp only at h1 h2
  clear h
  have HL := Lib.hid hL; clear hL
  have ca := fun w hL => itoa_c a w (by omega) (by omega) hL
  have cb := fun w hL => itoa_c d w (by omega) (by omega) hL
  have la := itoa_lenW h1
  have lb := itoa_lenW (n := d) (by omega)
  unfold frV frTxt strV at *
  simp only
  have hb0 : Below w.heap.size w (w.alloc (.cells #[.int .i64 a, .int .i64 d] 24)) := (Below.refl _ _).alloc (Nat.le_refl _) _
  by_cases h3 : d = 1
  case pos =>
    subst h3
    rw [if_pos rfl]
    generalize Lib.itoa a = A at ca ⊢
    have CA := Lib.hid ca; clear ca cb la lb h1 h2
    go_enter Tryd.func36, Tryd.ntmps36
    go_wp2_with fail
    refine (CA.out _ (HL.out.below hb0)).mono ?_
    rintro e w1 ⟨rfl, hw1⟩
    go_wp2_with fail
    go_ret
    exact ⟨rfl, hb0.trans (hw1.mono hb0.size)⟩
  case neg =>
    rw [if_neg h3]
    have g1 : (d == 1) = false := beq_eq_false_iff_ne.2 h3
    have hE := bytes3 (Lib.itoa a) (Lib.itoa d) 47
    have la' : (⟨(Lib.itoa a).toArray⟩ : ByteArray).size ≤ 11 := by simpa [ByteArray.size] using la
    have lb' : (⟨(Lib.itoa d).toArray⟩ : ByteArray).size ≤ 11 := by simpa [ByteArray.size] using lb
    clear la lb
    generalize (⟨(Lib.itoa a ++ 47 :: Lib.itoa d).toArray⟩ : ByteArray) = T at hE ⊢
    generalize (⟨(Lib.itoa a).toArray⟩ : ByteArray) = A at hE ca la'
    generalize (⟨(Lib.itoa d).toArray⟩ : ByteArray) = D at hE cb lb'
    have k1 := fun w => add_strF A ⟨#[47]⟩ (by simp only [sizeC]; omega) w
    have k2 := fun w => add_strF (A ++ ⟨#[47]⟩) D (by simp only [ByteArray.size_append, sizeC]; omega) w
    generalize A ++ ⟨#[47]⟩ ++ D = T2 at hE k2
    generalize A ++ ⟨#[47]⟩ = T1 at k1 k2
    subst hE
    clear la' lb' h1 h2 h3
    have CA := Lib.hid ca; have CB := Lib.hid cb; clear ca cb
    have o0 := FrO.new w a d rfl
    obtain ⟨g, hg⟩ : ∃ g, w.heap.size = g := ⟨_, rfl⟩
    go_enter Tryd.func36, Tryd.ntmps36
    go_wp2_with fail
    rw [hg] at o0
    obtain ⟨x0, x1⟩ := o0.at
    generalize hw0 : w.alloc (.cells #[.int .i64 a, .int .i64 d] 24) = w0 at hb0 o0 x0 x1 ⊢
    clear hw0
    have q0 := o0
    go_region_held3 (fun w' => w'.cell? ⟨g, 0, none⟩ = some (.int .i64 a) ∧ w'.cell? ⟨g, 1, none⟩ = some (.int .i64 d)) (exact ⟨by assumption, by assumption⟩)
      (first
        | (go_at_call 56; (with_reducible refine (CA.out _ (HL.out.below (by with_reducible (first | exact hb0 | exact hb0.drew)))).mono ?_); rintro e W1 ⟨rfl, hw1⟩; have hb1 : Below w.heap.size w W1 := ball (by with_reducible (first | exact hb0 | exact hb0.drew)) hw1; have q1 : FrO W1 g ⟨a, d⟩ := FrO.below (by exact q0) hw1; obtain ⟨x10, x11⟩ := q1.at)
        | (go_at_call 56; (with_reducible refine (CB.out _ (HL.out.below (by with_reducible (first | exact hb1 | exact hb1.drew)))).mono ?_); rintro e W2 ⟨rfl, hw2⟩; have hb2 : Below w.heap.size w W2 := ball (by with_reducible (first | exact hb1 | exact hb1.drew)) hw2; have q2 : FrO W2 g ⟨a, d⟩ := FrO.below (by exact q1) hw2; obtain ⟨x20, x21⟩ := q2.at))
    all_goals
      go_wp2_with fail
      go_ret
      exact ⟨rfl, hb2⟩
set_option maxHeartbeats 3200000 in
set_option maxRecDepth 100000 in
theorem iFloorFrac_c (f : Fr) (w : World) :
    Calls Tryd.prog 9 #[frV f] w fun e w' => e = .returned (.tuple #[.int .i64 (if frB f = true then floZ f.n f.d else 0), .bool (frB f)]) ∧ Below w.heap.size w w' := by
  have cf := fun w => isFrac_c f w
  have hbd := fun h => frB_t.1 (show frB f = true from h)
  have ct := fun w (h : frB f = true) => floor_c f.n f.d w (frB_t.1 h).2.1 (frB_t.1 h).1
  generalize frB f = u at cf ct hbd ⊢
  generalize floZ f.n f.d = Z at ct ⊢
  obtain ⟨a, b⟩ := f
  unfold frV at *
  simp only at cf ct hbd ⊢
  have CF := Lib.hid cf; clear cf
  have hb0 : Below w.heap.size w (w.alloc (.cells #[.int .i64 a, .int .i64 b] 24)) := (Below.refl _ _).alloc (Nat.le_refl _) _
  cases u
  case false =>
    clear ct hbd
    rw [if_neg (by simp)]
    go_enter Tryd.func9, Tryd.ntmps9
    go_wp2_with fail
    refine (CF.out _).mono ?_
    rintro e w1 ⟨rfl, hw1⟩
    have hb1 := hb0.trans (hw1.mono hb0.size)
    have o1 := (FrO.new w a b rfl).below hw1
    obtain ⟨x0, x1⟩ := o1.at
    go_wp2_with fail
    go_ret2
    exact ⟨rfl, hb1⟩
  case true =>
    rw [if_pos rfl]
    have CT := Lib.hid ct; clear ct
    have hbd' := hbd rfl
    clear hbd

    go_enter Tryd.func9, Tryd.ntmps9
    go_wp2_with fail
    refine (CF.out _).mono ?_
    rintro e w1 ⟨rfl, hw1⟩
    have hb1 := hb0.trans (hw1.mono hb0.size)
    have o1 := (FrO.new w a b rfl).below hw1
    obtain ⟨x0, x1⟩ := o1.at
    go_wp2_with fail
    refine (CT.out _ trivial).mono ?_
    rintro e w2 ⟨rfl, hw2⟩
    go_wp2_with fail
    go_ret2
    exact ⟨rfl, ball hb1 hw2⟩
set_option maxHeartbeats 3200000 in
set_option maxRecDepth 100000 in
theorem iCeilFrac_c (f : Fr) (w : World) :
    Calls Tryd.prog 11 #[frV f] w fun e w' => e = .returned (.tuple #[.int .i64 (if frB f = true then ceiZ f.n f.d else 0), .bool (frB f)]) ∧ Below w.heap.size w w' := by
  have cf := fun w => isFrac_c f w
  have hbd := fun h => frB_t.1 (show frB f = true from h)
  have ct := fun w (h : frB f = true) => ceil_c f.n f.d w (frB_t.1 h).2.1 (frB_t.1 h).1
  generalize frB f = u at cf ct hbd ⊢
  generalize ceiZ f.n f.d = Z at ct ⊢
  obtain ⟨a, b⟩ := f
  unfold frV at *
  simp only at cf ct hbd ⊢
  have CF := Lib.hid cf; clear cf
  have hb0 : Below w.heap.size w (w.alloc (.cells #[.int .i64 a, .int .i64 b] 24)) := (Below.refl _ _).alloc (Nat.le_refl _) _
  cases u
  case false =>
    clear ct hbd
    rw [if_neg (by simp)]
    go_enter Tryd.func11, Tryd.ntmps11
    go_wp2_with fail
    refine (CF.out _).mono ?_
    rintro e w1 ⟨rfl, hw1⟩
    have hb1 := hb0.trans (hw1.mono hb0.size)
    have o1 := (FrO.new w a b rfl).below hw1
    obtain ⟨x0, x1⟩ := o1.at
    go_wp2_with fail
    go_ret2
    exact ⟨rfl, hb1⟩
  case true =>
    rw [if_pos rfl]
    have CT := Lib.hid ct; clear ct
    have hbd' := hbd rfl
    clear hbd

    go_enter Tryd.func11, Tryd.ntmps11
    go_wp2_with fail
    refine (CF.out _).mono ?_
    rintro e w1 ⟨rfl, hw1⟩
    have hb1 := hb0.trans (hw1.mono hb0.size)
    have o1 := (FrO.new w a b rfl).below hw1
    obtain ⟨x0, x1⟩ := o1.at
    go_wp2_with fail
    refine (CT.out _ trivial).mono ?_
    rintro e w2 ⟨rfl, hw2⟩
    go_wp2_with fail
    go_ret2
    exact ⟨rfl, ball hb1 hw2⟩
set_option maxHeartbeats 3200000 in
set_option maxRecDepth 100000 in
theorem iFracText_c (f : Fr) (w : World) (hL : LaidS w) :
    Calls Tryd.prog 13 #[frV f] w fun e w' => e = .returned (.tuple #[strV (if frB f = true then frTxt f else []), .bool (frB f)]) ∧ Below w.heap.size w w' := by
  have cf := fun w => isFrac_c f w
  have hbd := fun h => frB_t.1 (show frB f = true from h)
  have ct := fun w (h : frB f = true) (hL : LaidS w) => frText_i f w h hL
  generalize frB f = u at cf ct hbd ⊢
  generalize frTxt f = Z at ct ⊢
  have HL := Lib.hid hL; clear hL
  obtain ⟨a, b⟩ := f
  unfold frV at *
  simp only at cf ct hbd ⊢
  unfold strV at *
  have CF := Lib.hid cf; clear cf
  have hb0 : Below w.heap.size w (w.alloc (.cells #[.int .i64 a, .int .i64 b] 24)) := (Below.refl _ _).alloc (Nat.le_refl _) _
  cases u
  case false =>
    clear ct hbd
    rw [if_neg (by simp)]
    go_enter Tryd.func13, Tryd.ntmps13
    go_wp2_with fail
    refine (CF.out _).mono ?_
    rintro e w1 ⟨rfl, hw1⟩
    have hb1 := hb0.trans (hw1.mono hb0.size)
    have o1 := (FrO.new w a b rfl).below hw1
    obtain ⟨x0, x1⟩ := o1.at
    go_wp2_with fail
    go_ret2
    exact ⟨rfl, hb1⟩
  case true =>
    rw [if_pos rfl]
    have CT := Lib.hid ct; clear ct
    have hbd' := hbd rfl
    clear hbd

    go_enter Tryd.func13, Tryd.ntmps13
    go_wp2_with fail
    refine (CF.out _).mono ?_
    rintro e w1 ⟨rfl, hw1⟩
    have hb1 := hb0.trans (hw1.mono hb0.size)
    have o1 := (FrO.new w a b rfl).below hw1
    obtain ⟨x0, x1⟩ := o1.at
    go_wp2_with fail
    refine (CT.out _ trivial (HL.out.below hb1)).mono ?_
    rintro e w2 ⟨rfl, hw2⟩
    go_wp2_with fail
    go_ret2
    exact ⟨rfl, ball hb1 hw2⟩
set_option maxHeartbeats 3200000 in
set_option maxRecDepth 100000 in
theorem iMultiplyFracs_c (f g : Fr) (w : World) :
    Calls Tryd.prog 5 #[frV f, frV g] w fun e w' => e = .returned (frR (lowF (f.n * g.n) (f.d * g.d)) (mulB f g)) ∧ Below w.heap.size w w' := by
  have ca := fun w k hk => areFracs_n f g k w hk
  have cm := fun w h1 h2 h3 => mul_c f g w h1 h2 h3
  have ct := fun w => toldFrac_c (lowF (f.n * g.n) (f.d * g.d)) w
  have hne := fun (h1 : frB f = true) (h2 : frB g = true) => show True → f.d * g.d ≠ 0 from fun h3 => mul_ne (by have := (frB_t.1 h1).2.1; omega) (by have := (frB_t.1 h2).2.1; omega)
  unfold mulB mkB
  unfold frR at ct ⊢
  generalize frB (lowF (f.n * g.n) (f.d * g.d)) = k at ct ⊢
  generalize lowF (f.n * g.n) (f.d * g.d) = L at cm ct ⊢
  generalize frB f = u at ca cm hne ⊢
  generalize frB g = v at ca cm hne ⊢
  obtain ⟨a, b⟩ := f
  obtain ⟨c', d⟩ := g
  obtain ⟨X, Y⟩ := L
  unfold frV Fr.z at *
  simp only at ca cm ct hne ⊢
  have CA := Lib.hid ca; have CM := Lib.hid cm; have CT := Lib.hid ct; clear ca cm ct
  have hb0 : Below w.heap.size w ((((w.alloc (.cells #[.int .i64 a, .int .i64 b] 24)).alloc (.cells #[.int .i64 c', .int .i64 d] 24)).alloc (.cells #[.int .i64 0, .int .i64 0] 24)).alloc (.cells #[.int .i64 a, .int .i64 b, .int .i64 c', .int .i64 d] 24)) := ((((Below.refl _ _).alloc (Nat.le_refl _) _).alloc (by simp) _).alloc (by simp; omega) _).alloc (by simp; omega) _
  by_cases huv : (u && v) = true
  case neg =>
    have huv' : (u && v) = false := by simpa using huv
    rw [huv'] at CA
    rw [huv']
    simp only [Bool.false_and, Bool.false_eq_true, if_false]
    clear CM CT hne huv huv'
    go_enter Tryd.func5, Tryd.ntmps5
    go_wp2_with fail
    refine (CA.out _ _ (by simp)).mono ?_
    rintro e w1 ⟨rfl, hw1⟩
    have o1 := (((FrO.new (g := w.heap.size + 1 + 1) ((w.alloc (.cells #[.int .i64 a, .int .i64 b] 24)).alloc (.cells #[.int .i64 c', .int .i64 d] 24)) 0 0 (by simp)).alloc (.cells #[.int .i64 a, .int .i64 b, .int .i64 c', .int .i64 d] 24))).below hw1
    have p1 := (((((FrO.new w a b rfl).alloc (.cells #[.int .i64 c', .int .i64 d] 24)).alloc (.cells #[.int .i64 0, .int .i64 0] 24)).alloc (.cells #[.int .i64 a, .int .i64 b, .int .i64 c', .int .i64 d] 24))).below hw1
    have r1 := ((((FrO.new (g := w.heap.size + 1) (w.alloc (.cells #[.int .i64 a, .int .i64 b] 24)) c' d (by simp)).alloc (.cells #[.int .i64 0, .int .i64 0] 24)).alloc (.cells #[.int .i64 a, .int .i64 b, .int .i64 c', .int .i64 d] 24))).below hw1
    have hb1 := hb0.trans (hw1.mono hb0.size)
    clear hw1 hb0
    obtain ⟨x0, x1⟩ := o1.at
    obtain ⟨y0, y1⟩ := o1.fr
    obtain ⟨z0, z1⟩ := p1.at
    obtain ⟨u0, u1⟩ := r1.at
    go_wp2_with fail
    obtain ⟨W, hW, ⟨q0, q1⟩, hB⟩ := fr2_end (a := 0) (b := 0) o1 hb1 (by omega)
    unfold fr2 at hW
    rw [hW]
    exact bodyPost_ret (v := .tuple #[.agg #[.int .i64 0, .int .i64 0], .bool false]) (by simp [results, Tryd.results5, go_sem, q0, q1]) rfl ⟨rfl, hB⟩
  case pos =>
    obtain ⟨rfl, rfl⟩ := Bool.and_eq_true_iff.1 huv
    clear huv
    simp only [Bool.and_self, Bool.true_and] at CA ⊢
    have hn1 := hne rfl rfl trivial
    rw [decide_eq_true hn1]
    simp only [Bool.true_and]
    clear hne
    have CM2 := Lib.hid (fun w => CM.out w rfl rfl hn1); clear CM hn1
    go_enter Tryd.func5, Tryd.ntmps5
    go_wp2_with fail
    refine (CA.out _ _ (by simp)).mono ?_
    rintro e w1 ⟨rfl, hw1⟩
    have o1 := (((FrO.new (g := w.heap.size + 1 + 1) ((w.alloc (.cells #[.int .i64 a, .int .i64 b] 24)).alloc (.cells #[.int .i64 c', .int .i64 d] 24)) 0 0 (by simp)).alloc (.cells #[.int .i64 a, .int .i64 b, .int .i64 c', .int .i64 d] 24))).below hw1
    have p1 := (((((FrO.new w a b rfl).alloc (.cells #[.int .i64 c', .int .i64 d] 24)).alloc (.cells #[.int .i64 0, .int .i64 0] 24)).alloc (.cells #[.int .i64 a, .int .i64 b, .int .i64 c', .int .i64 d] 24))).below hw1
    have r1 := ((((FrO.new (g := w.heap.size + 1) (w.alloc (.cells #[.int .i64 a, .int .i64 b] 24)) c' d (by simp)).alloc (.cells #[.int .i64 0, .int .i64 0] 24)).alloc (.cells #[.int .i64 a, .int .i64 b, .int .i64 c', .int .i64 d] 24))).below hw1
    have hb1 := hb0.trans (hw1.mono hb0.size)
    clear hw1 hb0
    obtain ⟨x0, x1⟩ := o1.at
    obtain ⟨y0, y1⟩ := o1.fr
    obtain ⟨z0, z1⟩ := p1.at
    obtain ⟨u0, u1⟩ := r1.at
    go_wp2_with fail
    refine (CM2.out _).mono ?_
    rintro e w2 ⟨rfl, hw2⟩
    go_wp2_with fail
    refine (CT.out _).mono ?_
    rintro e w3 ⟨rfl, hw3⟩
    have o3 := (o1.below hw2).below hw3
    have hb3 := ball (ball hb1 hw2) hw3
    clear o1 p1 r1 hb1 x0 x1 y0 y1 z0 z1 u0 u1 hw2 hw3
    obtain ⟨x0, x1⟩ := o3.at
    obtain ⟨y0, y1⟩ := o3.fr
    cases k
    case false =>
      go_wp2_with fail
      obtain ⟨W, hW, ⟨q0, q1⟩, hB⟩ := fr2_end (a := 0) (b := 0) o3 hb3 (by omega)
      unfold fr2 at hW
      rw [hW]
      exact bodyPost_ret (v := .tuple #[.agg #[.int .i64 0, .int .i64 0], .bool false]) (by simp [results, Tryd.results5, go_sem, q0, q1]) rfl ⟨rfl, hB⟩
    case true =>
      go_wp2_with fail
      obtain ⟨W, hW, ⟨q0, q1⟩, hB⟩ := fr2_end (a := X) (b := Y) o3 hb3 (by omega)
      unfold fr2 at hW
      rw [hW]
      exact bodyPost_ret (v := .tuple #[.agg #[.int .i64 X, .int .i64 Y], .bool true]) (by simp [results, Tryd.results5, go_sem, q0, q1]) rfl ⟨rfl, hB⟩
set_option maxHeartbeats 3200000 in
set_option maxRecDepth 100000 in
theorem iDivideFracs_c (f g : Fr) (w : World) :
    Calls Tryd.prog 7 #[frV f, frV g] w fun e w' => e = .returned (frR (lowF (f.n * g.d) (f.d * g.n)) (divB f g)) ∧ Below w.heap.size w w' := by
  have ca := fun w k hk => areFracs_n f g k w hk
  have cm := fun w h1 h2 h3 => div_c f g w h1 h2 h3
  have ct := fun w => toldFrac_c (lowF (f.n * g.d) (f.d * g.n)) w
  have hne := fun (h1 : frB f = true) (h2 : frB g = true) => show g.n ≠ 0 → f.d * g.n ≠ 0 from fun h3 => mul_ne (by have := (frB_t.1 h1).2.1; omega) h3
  unfold divB mkB
  unfold frR at ct ⊢
  generalize frB (lowF (f.n * g.d) (f.d * g.n)) = k at ct ⊢
  generalize lowF (f.n * g.d) (f.d * g.n) = L at cm ct ⊢
  generalize frB f = u at ca cm hne ⊢
  generalize frB g = v at ca cm hne ⊢
  obtain ⟨a, b⟩ := f
  obtain ⟨c', d⟩ := g
  obtain ⟨X, Y⟩ := L
  unfold frV Fr.z at *
  simp only at ca cm ct hne ⊢
  have CA := Lib.hid ca; have CM := Lib.hid cm; have CT := Lib.hid ct; clear ca cm ct
  have hb0 : Below w.heap.size w ((((w.alloc (.cells #[.int .i64 a, .int .i64 b] 24)).alloc (.cells #[.int .i64 c', .int .i64 d] 24)).alloc (.cells #[.int .i64 0, .int .i64 0] 24)).alloc (.cells #[.int .i64 a, .int .i64 b, .int .i64 c', .int .i64 d] 24)) := ((((Below.refl _ _).alloc (Nat.le_refl _) _).alloc (by simp) _).alloc (by simp; omega) _).alloc (by simp; omega) _
  by_cases huv : (u && v) = true
  case neg =>
    have huv' : (u && v) = false := by simpa using huv
    rw [huv'] at CA
    rw [huv']
    simp only [Bool.false_and, Bool.false_eq_true, if_false]
    clear CM CT hne huv huv'
    go_enter Tryd.func7, Tryd.ntmps7
    go_wp2_with fail
    refine (CA.out _ _ (by simp)).mono ?_
    rintro e w1 ⟨rfl, hw1⟩
    have o1 := (((FrO.new (g := w.heap.size + 1 + 1) ((w.alloc (.cells #[.int .i64 a, .int .i64 b] 24)).alloc (.cells #[.int .i64 c', .int .i64 d] 24)) 0 0 (by simp)).alloc (.cells #[.int .i64 a, .int .i64 b, .int .i64 c', .int .i64 d] 24))).below hw1
    have p1 := (((((FrO.new w a b rfl).alloc (.cells #[.int .i64 c', .int .i64 d] 24)).alloc (.cells #[.int .i64 0, .int .i64 0] 24)).alloc (.cells #[.int .i64 a, .int .i64 b, .int .i64 c', .int .i64 d] 24))).below hw1
    have r1 := ((((FrO.new (g := w.heap.size + 1) (w.alloc (.cells #[.int .i64 a, .int .i64 b] 24)) c' d (by simp)).alloc (.cells #[.int .i64 0, .int .i64 0] 24)).alloc (.cells #[.int .i64 a, .int .i64 b, .int .i64 c', .int .i64 d] 24))).below hw1
    have hb1 := hb0.trans (hw1.mono hb0.size)
    clear hw1 hb0
    obtain ⟨x0, x1⟩ := o1.at
    obtain ⟨y0, y1⟩ := o1.fr
    obtain ⟨z0, z1⟩ := p1.at
    obtain ⟨u0, u1⟩ := r1.at
    go_wp2_with fail
    obtain ⟨W, hW, ⟨q0, q1⟩, hB⟩ := fr2_end (a := 0) (b := 0) o1 hb1 (by omega)
    unfold fr2 at hW
    rw [hW]
    exact bodyPost_ret (v := .tuple #[.agg #[.int .i64 0, .int .i64 0], .bool false]) (by simp [results, Tryd.results7, go_sem, q0, q1]) rfl ⟨rfl, hB⟩
  case pos =>
    obtain ⟨rfl, rfl⟩ := Bool.and_eq_true_iff.1 huv
    clear huv
    simp only [Bool.and_self, Bool.true_and] at CA ⊢
    by_cases hz : c' = 0
    case pos =>
      subst hz
      clear CM CT hne
      simp only [Int.mul_zero, ne_eq, not_true_eq_false, decide_false, Bool.false_and, Bool.false_eq_true, if_false]
      go_enter Tryd.func7, Tryd.ntmps7
      go_wp2_with fail
      refine (CA.out _ _ (by simp)).mono ?_
      rintro e w1 ⟨rfl, hw1⟩
      have o1 := (((FrO.new (g := w.heap.size + 1 + 1) ((w.alloc (.cells #[.int .i64 a, .int .i64 b] 24)).alloc (.cells #[.int .i64 0, .int .i64 d] 24)) 0 0 (by simp)).alloc (.cells #[.int .i64 a, .int .i64 b, .int .i64 0, .int .i64 d] 24))).below hw1
      have p1 := (((((FrO.new w a b rfl).alloc (.cells #[.int .i64 0, .int .i64 d] 24)).alloc (.cells #[.int .i64 0, .int .i64 0] 24)).alloc (.cells #[.int .i64 a, .int .i64 b, .int .i64 0, .int .i64 d] 24))).below hw1
      have r1 := ((((FrO.new (g := w.heap.size + 1) (w.alloc (.cells #[.int .i64 a, .int .i64 b] 24)) 0 d (by simp)).alloc (.cells #[.int .i64 0, .int .i64 0] 24)).alloc (.cells #[.int .i64 a, .int .i64 b, .int .i64 0, .int .i64 d] 24))).below hw1
      have hb1 := hb0.trans (hw1.mono hb0.size)
      clear hw1 hb0
      obtain ⟨x0, x1⟩ := o1.at
      obtain ⟨y0, y1⟩ := o1.fr
      obtain ⟨z0, z1⟩ := p1.at
      obtain ⟨u0, u1⟩ := r1.at
      go_wp2_with fail
      obtain ⟨W, hW, ⟨q0, q1⟩, hB⟩ := fr2_end (a := 0) (b := 0) o1 hb1 (by omega)
      unfold fr2 at hW
      rw [hW]
      exact bodyPost_ret (v := .tuple #[.agg #[.int .i64 0, .int .i64 0], .bool false]) (by simp [results, Tryd.results7, go_sem, q0, q1]) rfl ⟨rfl, hB⟩
    case neg =>
      have hn1 := hne rfl rfl hz
      have hq : (c' == 0) = false := beq_eq_false_iff_ne.2 hz
      rw [decide_eq_true hn1]
      simp only [Bool.true_and]
      clear hne
      have CM2 := Lib.hid (fun w => CM.out w rfl rfl hn1); clear CM hn1 hz
      go_enter Tryd.func7, Tryd.ntmps7
      go_wp2_with fail
      refine (CA.out _ _ (by simp)).mono ?_
      rintro e w1 ⟨rfl, hw1⟩
      have o1 := (((FrO.new (g := w.heap.size + 1 + 1) ((w.alloc (.cells #[.int .i64 a, .int .i64 b] 24)).alloc (.cells #[.int .i64 c', .int .i64 d] 24)) 0 0 (by simp)).alloc (.cells #[.int .i64 a, .int .i64 b, .int .i64 c', .int .i64 d] 24))).below hw1
      have p1 := (((((FrO.new w a b rfl).alloc (.cells #[.int .i64 c', .int .i64 d] 24)).alloc (.cells #[.int .i64 0, .int .i64 0] 24)).alloc (.cells #[.int .i64 a, .int .i64 b, .int .i64 c', .int .i64 d] 24))).below hw1
      have r1 := ((((FrO.new (g := w.heap.size + 1) (w.alloc (.cells #[.int .i64 a, .int .i64 b] 24)) c' d (by simp)).alloc (.cells #[.int .i64 0, .int .i64 0] 24)).alloc (.cells #[.int .i64 a, .int .i64 b, .int .i64 c', .int .i64 d] 24))).below hw1
      have hb1 := hb0.trans (hw1.mono hb0.size)
      clear hw1 hb0
      obtain ⟨x0, x1⟩ := o1.at
      obtain ⟨y0, y1⟩ := o1.fr
      obtain ⟨z0, z1⟩ := p1.at
      obtain ⟨u0, u1⟩ := r1.at
      go_wp2_with fail
      refine (CM2.out _).mono ?_
      rintro e w2 ⟨rfl, hw2⟩
      go_wp2_with fail
      refine (CT.out _).mono ?_
      rintro e w3 ⟨rfl, hw3⟩
      have o3 := (o1.below hw2).below hw3
      have hb3 := ball (ball hb1 hw2) hw3
      clear o1 p1 r1 hb1 x0 x1 y0 y1 z0 z1 u0 u1 hw2 hw3
      obtain ⟨x0, x1⟩ := o3.at
      obtain ⟨y0, y1⟩ := o3.fr
      cases k
      case false =>
        go_wp2_with fail
        obtain ⟨W, hW, ⟨q0, q1⟩, hB⟩ := fr2_end (a := 0) (b := 0) o3 hb3 (by omega)
        unfold fr2 at hW
        rw [hW]
        exact bodyPost_ret (v := .tuple #[.agg #[.int .i64 0, .int .i64 0], .bool false]) (by simp [results, Tryd.results7, go_sem, q0, q1]) rfl ⟨rfl, hB⟩
      case true =>
        go_wp2_with fail
        obtain ⟨W, hW, ⟨q0, q1⟩, hB⟩ := fr2_end (a := X) (b := Y) o3 hb3 (by omega)
        unfold fr2 at hW
        rw [hW]
        exact bodyPost_ret (v := .tuple #[.agg #[.int .i64 X, .int .i64 Y], .bool true]) (by simp [results, Tryd.results7, go_sem, q0, q1]) rfl ⟨rfl, hB⟩
theorem RdI.shape' {w : World} {ad : Option Addr} {xs : List Int} (h : RdI w ad xs) {j : Nat} (hj : j < xs.length) : ∃ b off, ad = some ⟨b, off, none⟩ ∧ b < w.heap.size ∧ w.cell? ⟨b, off + j, none⟩ = some (.int .i64 (xs.getD j 0)) := h j hj
set_option maxHeartbeats 3200000 in
set_option maxRecDepth 100000 in
theorem iMeanOfNumbers_c (ad : Option Addr) (cap : Nat) (xs : List Int) (w : World) (hr : RdI w ad xs) (hl : xs.length ≤ 1048576) :
    Calls Tryd.prog 18 #[.slice ad xs.length cap] w fun e w' => e = .returned (frR (lowF (isum xs) xs.length) (meanB xs)) ∧ Below w.heap.size w w' := by
  have cw := fun w => within_any (xs.length : Int) 1 40 w
  have hw0 := fun h => inB_t.1 (show inB (xs.length : Int) 1 40 = true from h)
  have ca := fun w h => areFinite_c ad cap xs w h hl
  have hab := fun (h : xs.all finB' = true) k => show -1000000000 ≤ isum (xs.take k) ∧ isum (xs.take k) ≤ 1000000000 ∨ 40 < xs.length from by
    have h1 := isum_bd (xs := xs.take k) (List.all_eq_true.2 (fun x hx => List.all_eq_true.1 h x (List.mem_of_mem_take hx)))
    have h2 : (xs.take k).length ≤ xs.length := by rw [List.length_take]; omega
    omega
  have hff : xs.all finB = xs.all finB' := rfl
  rw [hff] at ca
  unfold meanB
  generalize inB (xs.length : Int) 1 40 = u at cw hw0 ⊢
  generalize xs.all finB' = v at ca hab ⊢
  have CW := Lib.hid cw; have CA := Lib.hid ca; have HR := Lib.hid hr; clear cw ca hr
  have hb0 : Below w.heap.size w (w.alloc (.cells #[.int .i64 0, .int .i64 0] 24)) := (Below.refl _ _).alloc (Nat.le_refl _) _
  have hr0 := Lib.hid (HR.out.below hb0)
  have o0 := FrO.new w 0 0 rfl
  unfold frR frV Fr.z
  cases u
  case false =>
    clear hab hw0
    simp only [Bool.false_and, Bool.false_eq_true, if_false]
    go_enter Tryd.func18, Tryd.ntmps18
    go_wp2_with fail
    refine (CW.out _).mono ?_
    rintro e w1 ⟨rfl, rfl⟩
    obtain ⟨x0, x1⟩ := o0.at
    obtain ⟨y0, y1⟩ := o0.fr
    go_wp2_with fail
    exact bodyPost_ret (v := .tuple #[.agg #[.int .i64 0, .int .i64 0], .bool false]) (by simp [results, Tryd.results18, go_sem]) rfl ⟨rfl, hb0⟩
  case true =>
    cases v
    case false =>
      clear hab
      simp only [Bool.true_and, Bool.false_and, Bool.false_eq_true, if_false]
      go_enter Tryd.func18, Tryd.ntmps18
      go_wp2_with fail
      refine (CW.out _).mono ?_
      rintro e w1 ⟨rfl, rfl⟩
      go_wp2_with fail
      refine (CA.out _ hr0.out).mono ?_
      rintro e w1 ⟨rfl, rfl⟩
      obtain ⟨x0, x1⟩ := o0.at
      obtain ⟨y0, y1⟩ := o0.fr
      go_wp2_with fail
      exact bodyPost_ret (v := .tuple #[.agg #[.int .i64 0, .int .i64 0], .bool false]) (by simp [results, Tryd.results18, go_sem]) rfl ⟨rfl, hb0⟩
    case true =>
      have hlen := hw0 rfl
      have hab' := Lib.hid (fun k => (hab rfl k).resolve_right (by omega)); clear hab hw0
      simp only [Bool.and_self, Bool.true_and]
      have hs := hab'.out xs.length
      rw [List.take_length] at hs
      have c1 := fun w => lowest_c (isum xs) xs.length w (by omega) (by omega) (by omega)
      have c2 := fun w => toldFrac_c (lowF (isum xs) xs.length) w
      have hmk : mkB (isum xs) xs.length = frB (lowF (isum xs) xs.length) := by unfold mkB; rw [decide_eq_true (show ((xs.length : Int)) ≠ 0 by omega)]; rfl
      rw [hmk]
      unfold frR at c2
      generalize frB (lowF (isum xs) xs.length) = k at c2 ⊢
      generalize lowF (isum xs) xs.length = L at c1 c2 ⊢
      obtain ⟨X, Y⟩ := L
      unfold frV Fr.z at *
      try simp only at c1
      try simp only at c2
      try simp only
      have C1 := Lib.hid c1; have C2 := Lib.hid c2; clear c1 c2 hs hmk
      go_enter Tryd.func18, Tryd.ntmps18
      go_wp2_with fail
      refine (CW.out _).mono ?_
      rintro e w1 ⟨rfl, rfl⟩
      go_wp2_with fail
      refine (CA.out _ hr0.out).mono ?_
      rintro e w1 ⟨rfl, rfl⟩
      go_wp2_with fail
      obtain ⟨wX, hwX⟩ : ∃ x, w.alloc (.cells #[.int .i64 0, .int .i64 0] 24) = x := ⟨_, rfl⟩
      rw [hwX] at hb0 hr0 o0 ⊢
      clear hwX
      go_loopw [4, 19] (fun s i wr => ∃ j : Nat, j ≤ xs.length ∧ i = .int .i64 j ∧ s = .int .i64 (isum (xs.take j)) ∧ Below wX.heap.size wX wr) (fun _ i _ => xs.length - (intOf i).toNat)
      case atStart => exact ⟨0, Nat.zero_le _, rfl, rfl, Below.refl _ _⟩
      case round =>
        obtain ⟨j, hj, rfl, rfl, hbel⟩ := hrel
        by_cases hlt : j < xs.length
        case pos =>
          obtain ⟨b, off, rfl, hbb, c0⟩ := (hr0.out.below hbel).shape' hlt
          have hsn : isum (xs.take (j + 1)) = isum (xs.take j) + xs.getD j 0 := by rw [take_snoc xs j 0 (by omega), isum_snoc]
          have hb1 := hab'.out (j + 1)
          rw [hsn] at hb1
          have HS := Lib.hid hsn; clear hsn
          generalize xs.getD j 0 = x at c0 hb1 HS
          generalize isum (xs.take j) = y at hb1 HS ⊢
          have e1 : IntKind.i64.wrap (y + x) = y + x := i64_small (by omega) (by omega)
          go_wp2_with fail
          go_roundw
          case rel => exact ⟨j + 1, by omega, by go_num, by rw [HS.out], hbel⟩
          case measure => simp [intOf]; omega
        case neg =>
          obtain rfl : j = xs.length := by omega
          rw [List.take_length]
          go_wp2_with fail
          refine (C1.out _).mono ?_
          rintro e w2 ⟨rfl, hw2⟩
          go_wp2_with fail
          refine (C2.out _).mono ?_
          rintro e w3 ⟨rfl, hw3⟩
          have o3 := ((o0.below hbel).below hw2).below hw3
          have hb3 := ball (ball (hb0.trans (hbel.mono hb0.size)) hw2) hw3
          clear hw2 hw3
          obtain ⟨x0, x1⟩ := o3.at
          obtain ⟨y0, y1⟩ := o3.fr
          cases k
          case false =>
            go_wp2_with fail
            obtain ⟨W, hW, ⟨q0, q1⟩, hB⟩ := fr2_end (a := 0) (b := 0) o3 hb3 (by omega)
            unfold fr2 at hW
            rw [hW]
            exact bodyPost_ret (v := .tuple #[.agg #[.int .i64 0, .int .i64 0], .bool false]) (by simp [results, Tryd.results18, go_sem, q0, q1]) rfl ⟨rfl, hB⟩
          case true =>
            go_wp2_with fail
            obtain ⟨W, hW, ⟨q0, q1⟩, hB⟩ := fr2_end (a := X) (b := Y) o3 hb3 (by omega)
            unfold fr2 at hW
            rw [hW]
            exact bodyPost_ret (v := .tuple #[.agg #[.int .i64 X, .int .i64 Y], .bool true]) (by simp [results, Tryd.results18, go_sem, q0, q1]) rfl ⟨rfl, hB⟩

end Go.Proofs.YtljhdnipllacbaaDoor
