/-
  Stars: sums, balances, directions, missing rays of the reference. By an AI agent.
-/
import Derived.Test.YtlplodkabeiimaaStC
namespace Go.Proofs.Ytlplodkabeiimaa
open Go.RowKit

set_option maxHeartbeats 1600000 in
set_option maxRecDepth 100000 in
theorem stSum_c (ad : Option Addr) (cap : Nat) (l : List Ry) (w : World) (hr : RdY w ad l) (hs : starB l = true) :
    Calls Try.prog 41 #[.slice ad l.length cap] w fun e w' => e = .returned (.tuple #[.int .i64 (sxR l), .int .i64 (syR l)]) ∧ Below w.heap.size w w' := by
  obtain ⟨hl, hry, _⟩ := star_of hs
  have HR := Lib.hid hr; clear hr
  have HY := Lib.hid hry; clear hry
  clear hs
  go_enter Try.func41, Try.ntmps41
  go_wp2_with fail
  go_loopw [4, 5, 10] (fun xx yy i wr => ∃ k : Nat, k ≤ l.length ∧ i = .int .i64 k ∧ xx = .int .i64 (sxR (l.take k)) ∧ yy = .int .i64 (syR (l.take k)) ∧ Below w.heap.size w wr) (fun _ _ i _ => l.length - (intOf i).toNat)
  case atStart => exact ⟨0, Nat.zero_le _, rfl, by simp [sxR], by simp [syR], Below.refl _ _⟩
  case round =>
    obtain ⟨wE, rfl⟩ : ∃ x : World, x = wr := ⟨_, rfl⟩
    obtain ⟨k, hk, rfl, rfl, rfl, hbel⟩ := hrel
    by_cases hlt : k < l.length
    case neg =>
      obtain rfl : k = l.length := by omega
      rw [List.take_length]
      go_wp2_with fail
      exact bodyPost_ret (v := .tuple #[.int .i64 (sxR l), .int .i64 (syR l)]) (by simp [results, Try.results41, go_sem]) rfl ⟨rfl, hbel⟩
    case pos =>
      obtain ⟨s1, s2⟩ := sum_take l k hlt
      have hsb := sum_b (l := l.take k) (fun r hr => HY.out r (List.mem_of_mem_take hr))
      rw [List.length_take] at hsb
      obtain ⟨r1, r2, r3, _⟩ := ry_of (HY.out _ (getD_mem hlt))
      obtain ⟨b, off, rfl, hb, x0, x1, x2⟩ := HR.out k hlt
      have x0 := bcell hbel hb x0
      have x1 := bcell hbel hb x1
      have x2 := bcell hbel hb x2
      generalize hrr : l.getD k default = r at s1 s2 r1 r2 r3 x0 x1 x2
      clear hrr
      obtain ⟨rx, ry, rw'⟩ := r
      simp only at s1 s2 r1 r2 r3 x0 x1 x2
      have k1 := mulbS (k := rw') (m := rx) (K := 20) (M := 20) (by omega) (by omega) (by omega)
      have k2 := mulbS (k := rw') (m := ry) (K := 20) (M := 20) (by omega) (by omega) (by omega)
      generalize hX : sxR (l.take k) = X at s1 hsb ⊢
      generalize hY : syR (l.take k) = Y at s2 hsb ⊢
      have e1 : IntKind.i64.wrap (rw' * rx) = rw' * rx := i64_small (by omega) (by omega)
      have e2 : IntKind.i64.wrap (rw' * ry) = rw' * ry := i64_small (by omega) (by omega)
      have e3 : IntKind.i64.wrap (X + rw' * rx) = X + rw' * rx := i64_small (by omega) (by omega)
      have e4 : IntKind.i64.wrap (Y + rw' * ry) = Y + rw' * ry := i64_small (by omega) (by omega)
      have S1 := Lib.hid s1; have S2 := Lib.hid s2
      clear s1 s2 hsb k1 k2 r1 r2 r3 hX hY
      have hbE : b < wE.heap.size := Nat.lt_of_lt_of_le hb hbel.size
      have y1 : (0 : Int) ≤ (k : Int) := by omega
      have y2 : (k : Int) < (l.length : Int) := by omega
      go_wp2_with fail
      go_roundw
      case rel => exact ⟨k + 1, by omega, by go_num, by rw [S1.out], by rw [S2.out], bal_alloc hbel⟩
      case measure => simp [intOf]; omega

set_option maxHeartbeats 800000 in
theorem stBalanced_c (ad : Option Addr) (cap : Nat) (l : List Ry) (w : World) (hr : RdY w ad l) (hs : starB l = true) :
    Calls Try.prog 40 #[.slice ad l.length cap] w fun e w' => e = .returned (.bool (balB l)) ∧ Below w.heap.size w w' := by
  have CT := Lib.hid (stSum_c ad cap l w hr hs)
  clear hr hs
  unfold balB
  generalize sxR l = X at CT ⊢
  generalize syR l = Y at CT ⊢
  by_cases hx : X = 0
  · subst hx
    by_cases hy : Y = 0
    · subst hy
      go_enter Try.func40, Try.ntmps40
      go_wp2_with fail
      refine (CT.out).mono ?_
      rintro e w1 ⟨rfl, hw1⟩
      go_wp2_with fail
      go_ret
      exact ⟨ret_bool (by simp), hw1⟩
    · have hy' : (Y == 0) = false := by simpa using hy
      go_enter Try.func40, Try.ntmps40
      go_wp2_with fail
      refine (CT.out).mono ?_
      rintro e w1 ⟨rfl, hw1⟩
      go_wp2_with fail
      go_ret
      exact ⟨ret_bool (by simp [hy]), hw1⟩
  · have hx' : (X == 0) = false := by simpa using hx
    go_enter Try.func40, Try.ntmps40
    go_wp2_with fail
    refine (CT.out).mono ?_
    rintro e w1 ⟨rfl, hw1⟩
    go_wp2_with fail
    go_ret
    exact ⟨ret_bool (by simp [hx]), hw1⟩

set_option maxHeartbeats 800000 in
theorem sIsBalanced_c (ad : Option Addr) (cap : Nat) (l : List Ry) (w : World) (hr : RdY w ad l) (hl : l.length ≤ 1048576) :
    Calls Try.prog 15 #[.slice ad l.length cap] w fun e w' => e = .returned (.tuple #[.bool (starB l && balB l), .bool (starB l)]) ∧ Below w.heap.size w w' := by
  have CS := Lib.hid (stGood_c ad cap l w hr hl)
  have CB := Lib.hid (fun w' (hs : starB l = true) (hw : Below w.heap.size w w') => stBalanced_c ad cap l w' (hr.below hw) hs)
  clear hr
  generalize starB l = u at CS CB ⊢
  generalize balB l = v at CB ⊢
  cases u
  · go_enter Try.func15, Try.ntmps15
    go_wp2_with fail
    refine (CS.out).mono ?_
    rintro e w1 ⟨rfl, hw1⟩
    go_wp2_with fail
    exact bodyPost_ret (v := .tuple #[.bool false, .bool false]) (by simp [results, Try.results15, go_sem]) rfl ⟨rfl, hw1⟩
  · go_enter Try.func15, Try.ntmps15
    go_wp2_with fail
    refine (CS.out).mono ?_
    rintro e w1 ⟨rfl, hw1⟩
    go_wp2_with fail
    refine (CB.out _ (by trivial) hw1).mono ?_
    rintro e w2 ⟨rfl, hw2⟩
    go_wp2_with fail
    exact bodyPost_ret (v := .tuple #[.bool v, .bool true]) (by simp [results, Try.results15, go_sem]) rfl ⟨rfl, ball hw1 hw2⟩

theorem stIf_c (ad : Option Addr) (cap : Nat) (l : List Ry) (w : World) (hr : RdY w ad l) (hl : l.length ≤ 1048576) :
    Calls Try.prog 34 #[.slice ad l.length cap] w fun e w' => e = .returned (toldV (starB l) (.slice ad l.length cap)) ∧ Below w.heap.size w w' := by
  have CS := Lib.hid (stGood_c ad cap l w hr hl)
  clear hr
  unfold toldV
  generalize starB l = u at CS ⊢
  cases u
  · go_enter Try.func34, Try.ntmps34
    go_wp2_with fail
    refine (CS.out).mono ?_
    rintro e w1 ⟨rfl, hw1⟩
    go_wp2_with fail
    exact bodyPost_ret (v := .tuple #[.slice none 0 0, .bool false]) (by simp [results, Try.results34, go_sem]) rfl ⟨rfl, hw1⟩
  · go_enter Try.func34, Try.ntmps34
    go_wp2_with fail
    refine (CS.out).mono ?_
    rintro e w1 ⟨rfl, hw1⟩
    go_wp2_with fail
    exact bodyPost_ret (v := .tuple #[.slice ad l.length cap, .bool true]) (by simp [results, Try.results34, go_sem]) rfl ⟨rfl, hw1⟩

set_option maxHeartbeats 1600000 in
set_option maxRecDepth 100000 in
theorem sPrimitiveRay_c (a b : Int) (w : World) :
    Calls Try.prog 24 #[.int .i64 a, .int .i64 b] w fun e w' => e = .returned (rayR (stepsB a b) (primR a b)) ∧ Below w.heap.size w w' := by
  have CS := Lib.hid (fun w => stSteps_c a b w)
  have hst : stepsB a b = true → (a ≠ 0 ∨ b ≠ 0) ∧ (-20 ≤ a ∧ a ≤ 20) ∧ -20 ≤ b ∧ b ≤ 20 := fun h => by
    have := steps_of h
    unfold stepsB at h
    simp only [Bool.and_eq_true, Bool.or_eq_true, decide_eq_true_eq] at h
    omega
  have hb0 : Below w.heap.size w (w.alloc (.cells #[.int .i64 0, .int .i64 0, .int .i64 0] 35)) := (Below.refl _ _).alloc (Nat.le_refl _) _
  have q0 := RyO.new w 0 0 0 rfl
  unfold rayR
  cases hu : stepsB a b
  · rw [hu] at CS
    clear hst hu
    go_enter Try.func24, Try.ntmps24
    go_wp2_with fail
    refine (CS.out _).mono ?_
    rintro e w1 ⟨rfl, rfl⟩
    generalize w.alloc (.cells #[.int .i64 0, .int .i64 0, .int .i64 0] 35) = w1 at hb0 q0 ⊢
    obtain ⟨c0, c1, c2⟩ := q0.at
    obtain ⟨f0, f1, f2⟩ := q0.fr
    go_wp2_with fail
    obtain ⟨W, hW, ⟨r0, r1, r2⟩, hB⟩ := three_end (a := 0) (b := 0) (c := 0) q0 hb0 (Nat.le_refl _)
    unfold three at hW
    rw [hW]
    exact bodyPost_ret (v := .tuple #[.agg #[.int .i64 0, .int .i64 0, .int .i64 0], .bool false]) (by simp [results, Try.results24, go_sem, r0, r1, r2]) rfl ⟨rfl, hB⟩
  · rw [hu] at CS
    obtain ⟨hne, ha, hbb⟩ := hst hu
    clear hst hu
    have AX := Lib.hid (fun w => l1AbsW_c a w (by omega))
    have AY := Lib.hid (fun w => l1AbsW_c b w (by omega))
    have CG := Lib.hid (fun w => stCommon_c a.natAbs b.natAbs w (by omega) (by omega))
    have eg : (Nat.gcd a.natAbs b.natAbs : Nat) = gcdN a b := rfl
    rw [eg] at CG
    clear eg
    have hg := gcdN_ne hne
    have x1 := tdiv_in a (gcdN a b)
    have x2 := tdiv_in b (gcdN a b)
    unfold ryV primR
    simp only
    generalize gcdN a b = G at CG hg x1 x2 ⊢
    have hG0 : ¬ G = 0 := by omega
    have hG1 : (G == 0) = false := beq_eq_false_iff_ne.2 hG0
    generalize hX : Int.tdiv a G = X at x1 ⊢
    generalize hY : Int.tdiv b G = Y at x2 ⊢
    have e1 : IntKind.i64.wrap X = X := i64_small (by omega) (by omega)
    have e2 : IntKind.i64.wrap Y = Y := i64_small (by omega) (by omega)
    generalize (a.natAbs : Int) = na at AX CG x1
    generalize (b.natAbs : Int) = nb at AY CG x2
    clear hg x1 x2 hne ha hbb
    go_enter Try.func24, Try.ntmps24
    go_wp2_with fail
    refine (CS.out _).mono ?_
    rintro e w1 ⟨rfl, rfl⟩
    generalize w.alloc (.cells #[.int .i64 0, .int .i64 0, .int .i64 0] 35) = w1 at hb0 q0 ⊢
    go_wp2_with fail
    refine (AX.out _).mono ?_
    rintro e w2 ⟨rfl, rfl⟩
    go_wp2_with fail
    refine (AY.out _).mono ?_
    rintro e w2 ⟨rfl, rfl⟩
    go_wp2_with fail
    refine (CG.out _).mono ?_
    rintro e w2 ⟨rfl, rfl⟩
    go_wp2_with fail
    go_still_tail 8, (by kernel_rfl)
    change wpList _ _ _ _ _ w1.drew
    have q2 : RyO w1.drew _ _ := q0
    have hb2 := hb0.drew
    generalize w1.drew = w2 at q2 hb2 ⊢
    obtain ⟨f0, f1, f2⟩ := q2.fr
    obtain ⟨c0, c1, c2⟩ := q2.at
    go_wp2_with fail
    obtain ⟨W, hW, ⟨r0, r1, r2⟩, hB⟩ := three_end (a := X) (b := Y) (c := G) q2 hb2 (Nat.le_refl _)
    unfold three at hW
    rw [hW]
    exact bodyPost_ret (v := .tuple #[.agg #[.int .i64 X, .int .i64 Y, .int .i64 G], .bool true]) (by simp [results, Try.results24, go_sem, r0, r1, r2]) rfl ⟨rfl, hB⟩

set_option maxHeartbeats 3200000 in
set_option maxRecDepth 100000 in
theorem sMissingRay_c (ad : Option Addr) (cap : Nat) (l : List Ry) (w : World) (hr : RdY w ad l) (hl : l.length ≤ 1048576) :
    Calls Try.prog 13 #[.slice ad l.length cap] w fun e w' => e = .returned (rayR (missB l) (missR l)) ∧ Below w.heap.size w w' := by
  have CS := Lib.hid (fun w' (hw : Below w.heap.size w w') => stGood_c ad cap l w' (hr.below hw) hl)
  have CB := Lib.hid (fun w' (hs : starB l = true) (hw : Below w.heap.size w w') => stBalanced_c ad cap l w' (hr.below hw) hs)
  have CT := Lib.hid (fun w' (hs : starB l = true) (hw : Below w.heap.size w w') => stSum_c ad cap l w' (hr.below hw) hs)
  have hsb : starB l = true → (-4000 ≤ sxR l ∧ sxR l ≤ 4000) ∧ -4000 ≤ syR l ∧ syR l ≤ 4000 := fun hs => by
    obtain ⟨h1, h2, _⟩ := star_of hs
    have := sum_b h2
    omega
  have CR := Lib.hid (fun w => stRay_c (missR l) w)
  clear hr
  have hb0 : Below w.heap.size w (w.alloc (.cells #[.int .i64 0, .int .i64 0, .int .i64 0] 35)) := (Below.refl _ _).alloc (Nat.le_refl _) _
  have q0 := RyO.new w 0 0 0 rfl
  unfold missB rayR
  cases hu : starB l
  case false =>
    rw [hu] at CS
    clear hsb CB CT hu CR
    go_enter Try.func13, Try.ntmps13
    go_wp2_with fail
    generalize w.alloc (.cells #[.int .i64 0, .int .i64 0, .int .i64 0] 35) = w1 at hb0 q0 ⊢
    refine (CS.out _ hb0).mono ?_
    rintro e w2 ⟨rfl, hw2⟩
    have q2 := q0.below hw2
    have hb2 := ball hb0 hw2
    clear q0 hw2 hb0
    obtain ⟨c0, c1, c2⟩ := q2.at
    obtain ⟨f0, f1, f2⟩ := q2.fr
    go_wp2_with fail
    obtain ⟨W, hW, ⟨r0, r1, r2⟩, hB⟩ := three_end (a := 0) (b := 0) (c := 0) q2 hb2 (Nat.le_refl _)
    unfold three at hW
    rw [hW]
    exact bodyPost_ret (v := .tuple #[.agg #[.int .i64 0, .int .i64 0, .int .i64 0], .bool false]) (by simp [results, Try.results13, go_sem, r0, r1, r2]) rfl ⟨rfl, hB⟩
  case true =>
    rw [hu] at CS
    have CB := Lib.hid (fun w' hw => CB.out w' hu hw)
    have CT := Lib.hid (fun w' hw => CT.out w' hu hw)
    cases hv : balB l
    case true =>
      rw [hv] at CB
      clear hsb hu hv CR
      go_enter Try.func13, Try.ntmps13
      go_wp2_with fail
      generalize w.alloc (.cells #[.int .i64 0, .int .i64 0, .int .i64 0] 35) = w1 at hb0 q0 ⊢
      refine (CS.out _ hb0).mono ?_
      rintro e w2 ⟨rfl, hw2⟩
      have q2 := q0.below hw2
      have hb2 := ball hb0 hw2
      clear q0 hw2 hb0
      go_wp2_with fail
      refine (CB.out _ hb2).mono ?_
      rintro e w3 ⟨rfl, hw3⟩
      have q3 := q2.below hw3
      have hb3 := ball hb2 hw3
      clear q2 hw3 hb2
      obtain ⟨c0, c1, c2⟩ := q3.at
      obtain ⟨f0, f1, f2⟩ := q3.fr
      go_wp2_with fail
      obtain ⟨W, hW, ⟨r0, r1, r2⟩, hB⟩ := three_end (a := 0) (b := 0) (c := 0) q3 hb3 (Nat.le_refl _)
      unfold three at hW
      rw [hW]
      exact bodyPost_ret (v := .tuple #[.agg #[.int .i64 0, .int .i64 0, .int .i64 0], .bool false]) (by simp [results, Try.results13, go_sem, r0, r1, r2]) rfl ⟨rfl, hB⟩
    case false =>
      rw [hv] at CB
      obtain ⟨hbx, hby⟩ := hsb hu
      have hne := bal_ne hv
      have e0 : missR l = ⟨Int.tdiv (-(sxR l)) (gcdN (sxR l) (syR l)), Int.tdiv (-(syR l)) (gcdN (sxR l) (syR l)), gcdN (sxR l) (syR l)⟩ := by
        unfold missR primR
        rw [gcdN_neg]
      have hg := gcdN_ne hne
      rw [gcdN_neg] at hg
      rw [e0] at CR ⊢
      generalize sxR l = A at CT hbx hg CR ⊢
      generalize syR l = B at CT hby hg CR ⊢
      clear hsb hu hv hne e0
      have AX := Lib.hid (fun w => l1AbsW_c A w (by omega))
      have AY := Lib.hid (fun w => l1AbsW_c B w (by omega))
      have CG := Lib.hid (fun w => stCommon_c A.natAbs B.natAbs w (by omega) (by omega))
      have eg : (Nat.gcd A.natAbs B.natAbs : Nat) = gcdN A B := rfl
      rw [eg] at CG
      clear eg
      have x1 := tdiv_in (-A) (gcdN A B)
      have x2 := tdiv_in (-B) (gcdN A B)
      unfold ryV at CR ⊢
      simp only at CR ⊢
      generalize gcdN A B = G at CG hg x1 x2 CR ⊢
      have hG0 : ¬ G = 0 := by omega
      have hG1 : (G == 0) = false := beq_eq_false_iff_ne.2 hG0
      generalize hX : Int.tdiv (-A) G = X at x1 CR ⊢
      generalize hY : Int.tdiv (-B) G = Y at x2 CR ⊢
      have e1 : IntKind.i64.wrap X = X := i64_small (by omega) (by omega)
      have e2 : IntKind.i64.wrap Y = Y := i64_small (by omega) (by omega)
      have e3 : IntKind.i64.wrap (-A) = -A := i64_small (by omega) (by omega)
      have e4 : IntKind.i64.wrap (-B) = -B := i64_small (by omega) (by omega)
      generalize ryB ⟨X, Y, G⟩ = z at CR ⊢
      generalize (A.natAbs : Int) = na at AX CG x1
      generalize (B.natAbs : Int) = nb at AY CG x2
      clear hg x1 x2 hbx hby
      go_enter Try.func13, Try.ntmps13
      go_wp2_with fail
      generalize w.alloc (.cells #[.int .i64 0, .int .i64 0, .int .i64 0] 35) = w1 at hb0 q0 ⊢
      refine (CS.out _ hb0).mono ?_
      rintro e w2 ⟨rfl, hw2⟩
      have q2 := q0.below hw2
      have hb2 := ball hb0 hw2
      clear q0 hw2 hb0
      go_wp2_with fail
      refine (CB.out _ hb2).mono ?_
      rintro e w3 ⟨rfl, hw3⟩
      have q3 := q2.below hw3
      have hb3 := ball hb2 hw3
      clear q2 hw3 hb2
      go_wp2_with fail
      refine (CT.out _ hb3).mono ?_
      rintro e w4 ⟨rfl, hw4⟩
      have q4 := q3.below hw4
      have hb4 := ball hb3 hw4
      clear q3 hw4 hb3
      go_wp2_with fail
      refine (AX.out _).mono ?_
      rintro e w5 ⟨rfl, rfl⟩
      go_wp2_with fail
      refine (AY.out _).mono ?_
      rintro e w5 ⟨rfl, rfl⟩
      go_wp2_with fail
      refine (CG.out _).mono ?_
      rintro e w5 ⟨rfl, rfl⟩
      go_wp2_with fail
      go_region_with (fail)
      have q7 := q4.below ((Below.refl _ _).alloc (Nat.le_refl _) (.cells #[.int .i64 X, .int .i64 Y, .int .i64 G] 35)).drew
      have p7 : RyO (w4.alloc (.cells #[.int .i64 X, .int .i64 Y, .int .i64 G] 35)).drew w4.heap.size ⟨X, Y, G⟩ := RyO.new w4 X Y G rfl
      have hb7 := (bal_alloc (o := .cells #[.int .i64 X, .int .i64 Y, .int .i64 G] 35) hb4).drew
      generalize (w4.alloc (.cells #[.int .i64 X, .int .i64 Y, .int .i64 G] 35)).drew = w7 at q7 p7 hb7 ⊢
      obtain ⟨g6, hg6⟩ : ∃ g, w4.heap.size = g := ⟨_, rfl⟩
      rw [hg6] at p7 ⊢
      clear q4 hb4
      obtain ⟨d0, d1, d2⟩ := p7.at
      go_wp2_with fail
      refine (CR.out _).mono ?_
      rintro e w8 ⟨rfl, hw8⟩
      have q8 := q7.below hw8
      have p8 := p7.below hw8
      have hb8 := ball hb7 hw8
      clear q7 p7 hb7 hw8
      obtain ⟨c0, c1, c2⟩ := q8.at
      obtain ⟨f0, f1, f2⟩ := q8.fr
      obtain ⟨d0, d1, d2⟩ := p8.at
      cases z
      case false =>
        go_wp2_with fail
        obtain ⟨W, hW, ⟨r0, r1, r2⟩, hB⟩ := three_end (a := 0) (b := 0) (c := 0) q8 hb8 (Nat.le_refl _)
        unfold three at hW
        rw [hW]
        exact bodyPost_ret (v := .tuple #[.agg #[.int .i64 0, .int .i64 0, .int .i64 0], .bool false]) (by simp [results, Try.results13, go_sem, r0, r1, r2]) rfl ⟨rfl, hB⟩
      case true =>
        go_wp2_with fail
        obtain ⟨W, hW, ⟨r0, r1, r2⟩, hB⟩ := three_end (a := X) (b := Y) (c := G) q8 hb8 (Nat.le_refl _)
        unfold three at hW
        rw [hW]
        exact bodyPost_ret (v := .tuple #[.agg #[.int .i64 X, .int .i64 Y, .int .i64 G], .bool true]) (by simp [results, Try.results13, go_sem, r0, r1, r2]) rfl ⟨rfl, hB⟩

end Go.Proofs.Ytlplodkabeiimaa
