/-
  Fractions: the reference's side. Printed by gen_frK.py.
-/
import Derived.Test.YthkgdiicldiahaaDoorFrK
namespace Go.Proofs.YthkgdiicldiahaaDoor
open Go.RowKit
set_option maxHeartbeats 3200000 in
set_option maxRecDepth 100000 in
theorem frMake_c (n d : Int) (w : World) (hn : -2000000000000000000 ≤ n ∧ n ≤ 2000000000000000000) (hdb : -2000000000000000000 ≤ d ∧ d ≤ 2000000000000000000) :
    Calls Tryd.prog 60 #[.int .i64 n, .int .i64 d] w fun e w' => e = .returned (frR (lowF n d) (mkB n d)) ∧ Below w.heap.size w w' := by
  have hb0 : Below w.heap.size w (w.alloc (.cells #[.int .i64 0, .int .i64 0] 35)) := (Below.refl _ _).alloc (Nat.le_refl _) _
  have o0 := FrO.new w 0 0 rfl
  by_cases hd : d = 0
  case pos =>
    subst hd
    have hm : mkB n 0 = false := rfl
    rw [hm, frR_f]
    unfold frV Fr.z
    simp only
    clear hn hdb
    obtain ⟨x0, x1⟩ := o0.at
    obtain ⟨y0, y1⟩ := o0.fr
    go_enter Tryd.func60, Tryd.ntmps60
    go_wp2_with fail
    exact bodyPost_ret (v := .tuple #[.agg #[.int .i64 0, .int .i64 0], .bool false]) (by simp [results, Tryd.results60, go_sem]) rfl ⟨rfl, hb0⟩
  case neg =>
    have c := fun w => frGcdW_c n d w (by omega) (by omega)
    have cg := fun w => frGood_c (lowF n d) w
    have hg := gcdN_bd (n := n) hd
    have hS : sgG n d = if d < 0 then -gcdN n d else gcdN n d := rfl
    have x1 := tdiv_bd n (sgG n d)
    have x2 := tdiv_bd d (sgG n d)
    have hd0 : (d == 0) = false := beq_eq_false_iff_ne.2 hd
    have hmk : mkB n d = frB (lowF n d) := by unfold mkB; rw [decide_eq_true hd]; rfl
    rw [hmk]
    clear hmk
    generalize frB (lowF n d) = k at cg ⊢
    unfold frR frV lowF Fr.z at *
    simp only at cg ⊢
    generalize gcdN n d = G at c hg hS
    generalize sgG n d = S at hS x1 x2 cg ⊢
    have hS0 : ¬ S = 0 := by rw [hS]; split <;> omega
    have hS1 : (S == 0) = false := beq_eq_false_iff_ne.2 hS0
    generalize hX : Int.tdiv n S = X at x1 cg ⊢
    generalize hY : Int.tdiv d S = Y at x2 cg ⊢
    have e1 : IntKind.i64.wrap X = X := i64_small (by omega) (by omega)
    have e2 : IntKind.i64.wrap Y = Y := i64_small (by omega) (by omega)
    have hng : IntKind.i64.wrap (-G) = -G := i64_small (by omega) (by omega)
    have HNG := Lib.hid hng; clear hng
    have C := Lib.hid c; have CG := Lib.hid cg; clear c cg hg x1 x2
    by_cases hneg : d < 0
    · rw [if_pos hneg] at hS
      have g1 : decide (d < 0) = true := decide_eq_true hneg
      have hng : IntKind.i64.wrap (-G) = S := by rw [HNG.out, hS]
      clear hS
      have HN := Lib.hid hneg; clear hneg hn hdb hd
      go_enter Tryd.func60, Tryd.ntmps60
      go_wp2_with fail
      refine (C.out _).mono ?_
      rintro e w1 ⟨rfl, hw1⟩
      have o1 := o0.below hw1
      have hb1 := hb0.trans (hw1.mono hb0.size)
      clear hw1 hb0 o0
      obtain ⟨x0, x1⟩ := o1.at
      go_wp2_with fail
      go_region_held3 (fun w' => w'.cell? ⟨w.heap.size, 0, none⟩ = some (.int .i64 0) ∧ w'.cell? ⟨w.heap.size, 1, none⟩ = some (.int .i64 0)) (go_keep) (fail)
      have o3 : FrO (w1.alloc (.cells #[.int .i64 X, .int .i64 Y] 35)).drew _ _ := o1.alloc (.cells #[.int .i64 X, .int .i64 Y] 35)
      have r3 : FrO (w1.alloc (.cells #[.int .i64 X, .int .i64 Y] 35)).drew _ _ := FrO.new w1 X Y rfl
      have hb3 := (bal_alloc (o := (.cells #[.int .i64 X, .int .i64 Y] 35)) hb1).drew
      clear o1 hb1 x0 x1
      go_wp2_with fail
      refine (CG.out _).mono ?_
      rintro e w4 ⟨rfl, hw4⟩
      have o4 := o3.below hw4
      have r4 := r3.below hw4
      have hb4 := ball hb3 hw4
      clear o3 r3 hw4 hb3
      obtain ⟨x0, x1⟩ := o4.at
      obtain ⟨y0, y1⟩ := o4.fr
      obtain ⟨z0, z1⟩ := r4.at
      cases k
      case false =>
        go_wp2_with fail
        obtain ⟨W, hW, ⟨q0, q1⟩, hB⟩ := fr2_end (a := 0) (b := 0) o4 hb4 (by omega)
        unfold fr2 at hW
        rw [hW]
        exact bodyPost_ret (v := .tuple #[.agg #[.int .i64 0, .int .i64 0], .bool false]) (by simp [results, Tryd.results60, go_sem, q0, q1]) rfl ⟨rfl, hB⟩
      case true =>
        go_wp2_with fail
        obtain ⟨W, hW, ⟨q0, q1⟩, hB⟩ := fr2_end (a := X) (b := Y) o4 hb4 (by omega)
        unfold fr2 at hW
        rw [hW]
        exact bodyPost_ret (v := .tuple #[.agg #[.int .i64 X, .int .i64 Y], .bool true]) (by simp [results, Tryd.results60, go_sem, q0, q1]) rfl ⟨rfl, hB⟩
    · rw [if_neg hneg] at hS
      have g1 : decide (d < 0) = false := decide_eq_false hneg
      subst hS
      have HN := Lib.hid hneg; clear hneg hn hdb hd
      go_enter Tryd.func60, Tryd.ntmps60
      go_wp2_with fail
      refine (C.out _).mono ?_
      rintro e w1 ⟨rfl, hw1⟩
      have o1 := o0.below hw1
      have hb1 := hb0.trans (hw1.mono hb0.size)
      clear hw1 hb0 o0
      obtain ⟨x0, x1⟩ := o1.at
      go_wp2_with fail
      go_region_held3 (fun w' => w'.cell? ⟨w.heap.size, 0, none⟩ = some (.int .i64 0) ∧ w'.cell? ⟨w.heap.size, 1, none⟩ = some (.int .i64 0)) (go_keep) (fail)
      have o3 : FrO (w1.alloc (.cells #[.int .i64 X, .int .i64 Y] 35)).drew _ _ := o1.alloc (.cells #[.int .i64 X, .int .i64 Y] 35)
      have r3 : FrO (w1.alloc (.cells #[.int .i64 X, .int .i64 Y] 35)).drew _ _ := FrO.new w1 X Y rfl
      have hb3 := (bal_alloc (o := (.cells #[.int .i64 X, .int .i64 Y] 35)) hb1).drew
      clear o1 hb1 x0 x1
      go_wp2_with fail
      refine (CG.out _).mono ?_
      rintro e w4 ⟨rfl, hw4⟩
      have o4 := o3.below hw4
      have r4 := r3.below hw4
      have hb4 := ball hb3 hw4
      clear o3 r3 hw4 hb3
      obtain ⟨x0, x1⟩ := o4.at
      obtain ⟨y0, y1⟩ := o4.fr
      obtain ⟨z0, z1⟩ := r4.at
      cases k
      case false =>
        go_wp2_with fail
        obtain ⟨W, hW, ⟨q0, q1⟩, hB⟩ := fr2_end (a := 0) (b := 0) o4 hb4 (by omega)
        unfold fr2 at hW
        rw [hW]
        exact bodyPost_ret (v := .tuple #[.agg #[.int .i64 0, .int .i64 0], .bool false]) (by simp [results, Tryd.results60, go_sem, q0, q1]) rfl ⟨rfl, hB⟩
      case true =>
        go_wp2_with fail
        obtain ⟨W, hW, ⟨q0, q1⟩, hB⟩ := fr2_end (a := X) (b := Y) o4 hb4 (by omega)
        unfold fr2 at hW
        rw [hW]
        exact bodyPost_ret (v := .tuple #[.agg #[.int .i64 X, .int .i64 Y], .bool true]) (by simp [results, Tryd.results60, go_sem, q0, q1]) rfl ⟨rfl, hB⟩
set_option maxHeartbeats 3200000 in
set_option maxRecDepth 100000 in
theorem frMul_c (f g : Fr) (w : World) (hf : frB f = true) (hg : frB g = true) :
    Calls Tryd.prog 49 #[frV f, frV g] w fun e w' => e = .returned (frR (lowF (f.n * g.n) (f.d * g.d)) (mkB (f.n * g.n) (f.d * g.d))) ∧ Below w.heap.size w w' := by
  have hf1 := frB_t.1 hf
  have hg1 := frB_t.1 hg
  have m1 := mulb9 (k := f.n) (m := g.n) (by omega) (by omega)
  have m2 := mulb9 (k := f.d) (m := g.d) (by omega) (by omega)
  have c := fun w => frMake_c (f.n * g.n) (f.d * g.d) w (by omega) (by omega)
  unfold frR at c ⊢
  generalize mkB (f.n * g.n) (f.d * g.d) = k at c ⊢
  generalize lowF (f.n * g.n) (f.d * g.d) = L at c ⊢
  obtain ⟨a, b⟩ := f
  obtain ⟨c', d⟩ := g
  obtain ⟨X, Y⟩ := L
  unfold frV Fr.z at *
  simp only at c m1 m2 ⊢
  have e1 : IntKind.i64.wrap (a * c') = a * c' := i64_small (by omega) (by omega)
  have e2 : IntKind.i64.wrap (b * d) = b * d := i64_small (by omega) (by omega)
  obtain ⟨N, hN⟩ : ∃ N, a * c' = N := ⟨_, rfl⟩
  obtain ⟨D, hD⟩ : ∃ D, b * d = D := ⟨_, rfl⟩
  rw [hN, hD] at c
  have e3 := e1.trans hN
  have e4 := e2.trans hD
  clear e1 e2 hN hD
  have C := Lib.hid c; clear c m1 m2 hf hg hf1 hg1
  have hb0 : Below w.heap.size w (((w.alloc (.cells #[.int .i64 a, .int .i64 b] 35)).alloc (.cells #[.int .i64 c', .int .i64 d] 35)).alloc (.cells #[.int .i64 0, .int .i64 0] 35)) := (((Below.refl _ _).alloc (Nat.le_refl _) _).alloc (by simp) _).alloc (by simp; omega) _
  go_enter Tryd.func49, Tryd.ntmps49
  go_wp2_with fail
  refine (C.out _).mono ?_
  rintro e w1 ⟨rfl, hw1⟩
  have o1 := (FrO.new (g := w.heap.size + 1 + 1) ((w.alloc (.cells #[.int .i64 a, .int .i64 b] 35)).alloc (.cells #[.int .i64 c', .int .i64 d] 35)) 0 0 (by simp)).below hw1
  have hb1 := hb0.trans (hw1.mono hb0.size)
  clear hw1 hb0
  obtain ⟨x0, x1⟩ := o1.at
  obtain ⟨y0, y1⟩ := o1.fr
  cases k
  case false =>
    go_wp2_with fail
    obtain ⟨W, hW, ⟨q0, q1⟩, hB⟩ := fr2_end (a := 0) (b := 0) o1 hb1 (by omega)
    unfold fr2 at hW
    rw [hW]
    exact bodyPost_ret (v := .tuple #[.agg #[.int .i64 0, .int .i64 0], .bool false]) (by simp [results, Tryd.results49, go_sem, q0, q1]) rfl ⟨rfl, hB⟩
  case true =>
    go_wp2_with fail
    obtain ⟨W, hW, ⟨q0, q1⟩, hB⟩ := fr2_end (a := X) (b := Y) o1 hb1 (by omega)
    unfold fr2 at hW
    rw [hW]
    exact bodyPost_ret (v := .tuple #[.agg #[.int .i64 X, .int .i64 Y], .bool true]) (by simp [results, Tryd.results49, go_sem, q0, q1]) rfl ⟨rfl, hB⟩
set_option maxHeartbeats 3200000 in
set_option maxRecDepth 100000 in
theorem frText_s (f : Fr) (w : World) (h : frB f = true) :
    Calls Tryd.prog 30 #[frV f] w fun e w' => e = .returned (strV (frTxt f)) ∧ Below w.heap.size w w' := by
  obtain ⟨a, d⟩ := f
  obtain ⟨h1, h2, _⟩ := frB_t.1 h
  simp only at h1 h2
  clear h
  have ca := fun w => l1Int_c a w (by omega) (by omega)
  have cb := fun w => l1Num_c d.toNat (by omega) w
  rw [← itoa_pos (show 0 ≤ d by omega), show ((d.toNat : Nat) : Int) = d by omega] at cb
  have la := itoa_lenW h1
  have lb := itoa_lenW (n := d) (by omega)
  unfold frV frTxt strV at *
  simp only
  have hb0 : Below w.heap.size w (w.alloc (.cells #[.int .i64 a, .int .i64 d] 35)) := (Below.refl _ _).alloc (Nat.le_refl _) _
  by_cases h3 : d = 1
  case pos =>
    subst h3
    rw [if_pos rfl]
    generalize Lib.itoa a = A at ca ⊢
    have CA := Lib.hid ca; clear ca cb la lb h1 h2
    go_enter Tryd.func30, Tryd.ntmps30
    go_wp2_with fail
    refine (CA.out _).mono ?_
    rintro e w1 ⟨rfl, hw1⟩
    go_wp2_with fail
    go_ret
    exact ⟨rfl, hb0.trans (hw1.mono hb0.size)⟩
  case neg =>
    rw [if_neg h3]
    have g1 : (d == 1) = false := beq_eq_false_iff_ne.2 h3
    have hE := bytes3 (Lib.itoa a) (Lib.itoa d) 47
    have la' : (⟨(Lib.itoa a).toArray⟩ : ByteArray).size ≤ 11 := by simpa [ByteArray.size] using la
    have lb' : (⟨(Lib.itoa d).toArray⟩ : ByteArray).size ≤ 11 := by simpa [ByteArray.size] using lb
    clear la lb
    generalize (⟨(Lib.itoa a ++ 47 :: Lib.itoa d).toArray⟩ : ByteArray) = T at hE ⊢
    generalize (⟨(Lib.itoa a).toArray⟩ : ByteArray) = A at hE ca la'
    generalize (⟨(Lib.itoa d).toArray⟩ : ByteArray) = D at hE cb lb'
    have k1 := fun w => add_strF A ⟨#[47]⟩ (by simp only [sizeC]; omega) w
    have k2 := fun w => add_strF (A ++ ⟨#[47]⟩) D (by simp only [ByteArray.size_append, sizeC]; omega) w
    generalize A ++ ⟨#[47]⟩ ++ D = T2 at hE k2
    generalize A ++ ⟨#[47]⟩ = T1 at k1 k2
    subst hE
    clear la' lb' h1 h2 h3
    have CA := Lib.hid ca; have CB := Lib.hid cb; clear ca cb
    have o0 := FrO.new w a d rfl
    obtain ⟨g, hg⟩ : ∃ g, w.heap.size = g := ⟨_, rfl⟩
    go_enter Tryd.func30, Tryd.ntmps30
    go_wp2_with fail
    rw [hg] at o0
    obtain ⟨x0, x1⟩ := o0.at
    generalize hw0 : w.alloc (.cells #[.int .i64 a, .int .i64 d] 35) = w0 at hb0 o0 x0 x1 ⊢
    clear hw0
    have q0 := o0
    go_region_held3 (fun w' => w'.cell? ⟨g, 0, none⟩ = some (.int .i64 a) ∧ w'.cell? ⟨g, 1, none⟩ = some (.int .i64 d)) (exact ⟨by assumption, by assumption⟩)
      (first
        | (go_at_call 63; (with_reducible refine (CA.out _).mono ?_); rintro e W1 ⟨rfl, hw1⟩; have hb1 : Below w.heap.size w W1 := ball (by with_reducible (first | exact hb0 | exact hb0.drew)) hw1; have q1 : FrO W1 g ⟨a, d⟩ := FrO.below (by exact q0) hw1; obtain ⟨x10, x11⟩ := q1.at)
        | (go_at_call 31; (with_reducible refine (CB.out _).mono ?_); rintro e W2 ⟨rfl, hw2⟩; have hb2 : Below w.heap.size w W2 := ball (by with_reducible (first | exact hb1 | exact hb1.drew)) hw2; have q2 : FrO W2 g ⟨a, d⟩ := FrO.below (by exact q1) hw2; obtain ⟨x20, x21⟩ := q2.at))
    all_goals
      go_wp2_with fail
      go_ret
      exact ⟨rfl, hb2⟩
end Go.Proofs.YthkgdiicldiahaaDoor
