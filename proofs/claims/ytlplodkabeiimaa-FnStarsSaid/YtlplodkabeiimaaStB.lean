/-
  Stars: the program's balances, directions, missing rays. By an AI agent.
-/
import Derived.Test.YtlplodkabeiimaaStA
namespace Go.Proofs.Ytlplodkabeiimaa
open Go.RowKit

theorem gcdN_ne {a b : Int} (h : a ≠ 0 ∨ b ≠ 0) : 0 < gcdN a b := by
  unfold gcdN
  have : 0 < Int.gcd a b := Int.gcd_pos_iff.2 h
  omega
theorem tdiv_in (n s : Int) : -(n.natAbs : Int) ≤ Int.tdiv n s ∧ Int.tdiv n s ≤ (n.natAbs : Int) := by
  have := Int.natAbs_tdiv_le_natAbs n s
  omega
def balB (l : List Ry) : Bool := sxR l == 0 && syR l == 0

set_option maxHeartbeats 1600000 in
set_option maxRecDepth 100000 in
theorem primitive_c (a b : Int) (w : World) (h : a ≠ 0 ∨ b ≠ 0) (ha : -1000000 ≤ a ∧ a ≤ 1000000) (hb : -1000000 ≤ b ∧ b ≤ 1000000) :
    Calls Try.prog 37 #[.agg #[.int .i64 a, .int .i64 b]] w fun e w' => e = .returned (ryV (primR a b)) ∧ Below w.heap.size w w' := by
  have C := Lib.hid (fun w => gcdW_c a b w (by omega) (by omega))
  have hg := gcdN_ne h
  have x1 := tdiv_in a (gcdN a b)
  have x2 := tdiv_in b (gcdN a b)
  unfold ryV primR
  simp only
  generalize gcdN a b = G at C hg x1 x2 ⊢
  have hG0 : ¬ G = 0 := by omega
  have hG1 : (G == 0) = false := beq_eq_false_iff_ne.2 hG0
  generalize hX : Int.tdiv a G = X at x1 ⊢
  generalize hY : Int.tdiv b G = Y at x2 ⊢
  have e1 : IntKind.i64.wrap X = X := i64_small (by omega) (by omega)
  have e2 : IntKind.i64.wrap Y = Y := i64_small (by omega) (by omega)
  have hb0 : Below w.heap.size w ((w.alloc (.cells #[.int .i64 a, .int .i64 b] 61)).alloc (.cells #[.int .i64 0, .int .i64 0, .int .i64 0] 35)) := ((Below.refl _ _).alloc (Nat.le_refl _) _).alloc (by simp) _
  have p0 := (PtO.new w a b rfl).below ((Below.refl _ _).alloc (Nat.le_refl _) (.cells #[.int .i64 0, .int .i64 0, .int .i64 0] 35))
  have q0 := RyO.new (g := w.heap.size + 1) (w.alloc (.cells #[.int .i64 a, .int .i64 b] 61)) 0 0 0 (by simp)
  clear hg x1 x2 h ha hb
  go_enter Try.func37, Try.ntmps37
  go_wp2_with fail
  generalize (w.alloc (.cells #[.int .i64 a, .int .i64 b] 61)).alloc (.cells #[.int .i64 0, .int .i64 0, .int .i64 0] 35) = w0 at hb0 p0 q0 ⊢
  refine (C.out _).mono ?_
  rintro e w1 ⟨rfl, hw1⟩
  have p1 := p0.below hw1
  have q1 := q0.below hw1
  have hb1 := ball hb0 hw1
  clear p0 q0 hw1 hb0
  obtain ⟨c0, c1⟩ := p1.at
  go_wp2_with fail
  go_still_tail 10, (by kernel_rfl)
  change wpList _ _ _ _ _ w1.drew
  have q2 : RyO w1.drew _ _ := q1
  have hb2 := hb1.drew
  generalize w1.drew = w2 at q2 hb2 ⊢
  obtain ⟨y0, y1, y2⟩ := q2.fr
  obtain ⟨x0, x1, x2⟩ := q2.at
  go_wp2_with fail
  obtain ⟨W, hW, ⟨r0, r1, r2⟩, hB⟩ := three_end (a := X) (b := Y) (c := G) q2 hb2 (by omega)
  unfold three at hW
  rw [hW]
  exact bodyPost_ret (v := .agg #[.int .i64 X, .int .i64 Y, .int .i64 G]) (by simp [results, Try.results37, go_sem, r0, r1, r2]) rfl ⟨rfl, hB⟩

set_option maxHeartbeats 1600000 in
set_option maxRecDepth 100000 in
theorem isBalanced_c (ad : Option Addr) (cap : Nat) (l : List Ry) (w : World) (hr : RdY w ad l) (hl : l.length ≤ 1048576) :
    Calls Try.prog 36 #[.slice ad l.length cap] w fun e w' => e = .returned (.bool (starB l && balB l)) ∧ Below w.heap.size w w' := by
  have CS := Lib.hid (isStar_c ad cap l w hr hl)
  have CT := Lib.hid (fun w' (hs : starB l = true) (hw : Below w.heap.size w w') => starSum_c ad cap l w' (hr.below hw) hs)
  clear hr
  unfold balB
  generalize starB l = u at CS CT ⊢
  generalize sxR l = X at CT ⊢
  generalize syR l = Y at CT ⊢
  cases u
  · go_enter Try.func36, Try.ntmps36
    go_wp2_with fail
    refine (CS.out).mono ?_
    rintro e w1 ⟨rfl, hw1⟩
    go_wp2_with fail
    go_ret
    exact ⟨rfl, hw1⟩
  · by_cases hx : X = 0
    · by_cases hy : Y = 0
      · subst hx; subst hy
        go_enter Try.func36, Try.ntmps36
        go_wp2_with fail
        refine (CS.out).mono ?_
        rintro e w1 ⟨rfl, hw1⟩
        go_wp2_with fail
        refine (CT.out _ (by trivial) hw1).mono ?_
        rintro e w2 ⟨rfl, hw2⟩
        go_wp2_with fail
        go_ret
        exact ⟨ret_bool (by simp), ball hw1 hw2⟩
      · subst hx
        have hy' : (Y == 0) = false := by simpa using hy
        go_enter Try.func36, Try.ntmps36
        go_wp2_with fail
        refine (CS.out).mono ?_
        rintro e w1 ⟨rfl, hw1⟩
        go_wp2_with fail
        refine (CT.out _ (by trivial) hw1).mono ?_
        rintro e w2 ⟨rfl, hw2⟩
        go_wp2_with fail
        go_ret
        exact ⟨ret_bool (by simp [hy]), ball hw1 hw2⟩
    · have hx' : (X == 0) = false := by simpa using hx
      go_enter Try.func36, Try.ntmps36
      go_wp2_with fail
      refine (CS.out).mono ?_
      rintro e w1 ⟨rfl, hw1⟩
      go_wp2_with fail
      refine (CT.out _ (by trivial) hw1).mono ?_
      rintro e w2 ⟨rfl, hw2⟩
      go_wp2_with fail
      go_ret
      exact ⟨ret_bool (by simp [hx]), ball hw1 hw2⟩

theorem isStarI_c (ad : Option Addr) (cap : Nat) (l : List Ry) (w : World) (hr : RdY w ad l) (hl : l.length ≤ 1048576) :
    Calls Try.prog 10 #[.slice ad l.length cap] w fun e w' => e = .returned (.bool (starB l)) ∧ Below w.heap.size w w' := by
  have CS := Lib.hid (isStar_c ad cap l w hr hl)
  clear hr
  go_enter Try.func10, Try.ntmps10
  go_wp2_with fail
  refine (CS.out).mono ?_
  rintro e w1 ⟨rfl, hw1⟩
  go_wp2_with fail
  go_ret
  exact ⟨rfl, hw1⟩

/-- A star that is told: the row itself, or nothing. -/
def toldV (B : Bool) (v : Value) : Value := .tuple #[if B = true then v else .slice none 0 0, .bool B]
theorem toldStar_c (ad : Option Addr) (cap : Nat) (l : List Ry) (w : World) (hr : RdY w ad l) (hl : l.length ≤ 1048576) :
    Calls Try.prog 31 #[.slice ad l.length cap] w fun e w' => e = .returned (toldV (starB l) (.slice ad l.length cap)) ∧ Below w.heap.size w w' := by
  have CS := Lib.hid (isStar_c ad cap l w hr hl)
  clear hr
  unfold toldV
  generalize starB l = u at CS ⊢
  cases u
  · go_enter Try.func31, Try.ntmps31
    go_wp2_with fail
    refine (CS.out).mono ?_
    rintro e w1 ⟨rfl, hw1⟩
    go_wp2_with fail
    exact bodyPost_ret (v := .tuple #[.slice none 0 0, .bool false]) (by simp [results, Try.results31, go_sem]) rfl ⟨rfl, hw1⟩
  · go_enter Try.func31, Try.ntmps31
    go_wp2_with fail
    refine (CS.out).mono ?_
    rintro e w1 ⟨rfl, hw1⟩
    go_wp2_with fail
    exact bodyPost_ret (v := .tuple #[.slice ad l.length cap, .bool true]) (by simp [results, Try.results31, go_sem]) rfl ⟨rfl, hw1⟩

theorem isBalancedI_c (ad : Option Addr) (cap : Nat) (l : List Ry) (w : World) (hr : RdY w ad l) (hl : l.length ≤ 1048576) :
    Calls Try.prog 14 #[.slice ad l.length cap] w fun e w' => e = .returned (.tuple #[.bool (starB l && balB l), .bool (starB l)]) ∧ Below w.heap.size w w' := by
  have CS := Lib.hid (isStar_c ad cap l w hr hl)
  have CB := Lib.hid (fun w' (hw : Below w.heap.size w w') => isBalanced_c ad cap l w' (hr.below hw) hl)
  clear hr
  generalize starB l = u at CS CB ⊢
  generalize balB l = v at CB ⊢
  cases u
  · go_enter Try.func14, Try.ntmps14
    go_wp2_with fail
    refine (CS.out).mono ?_
    rintro e w1 ⟨rfl, hw1⟩
    go_wp2_with fail
    exact bodyPost_ret (v := .tuple #[.bool false, .bool false]) (by simp [results, Try.results14, go_sem]) rfl ⟨rfl, hw1⟩
  · go_enter Try.func14, Try.ntmps14
    go_wp2_with fail
    refine (CS.out).mono ?_
    rintro e w1 ⟨rfl, hw1⟩
    go_wp2_with fail
    refine (CB.out _ hw1).mono ?_
    rintro e w2 ⟨rfl, hw2⟩
    go_wp2_with fail
    exact bodyPost_ret (v := .tuple #[.bool v, .bool true]) (by simp [results, Try.results14, go_sem]) rfl ⟨rfl, ball hw1 hw2⟩

set_option maxHeartbeats 800000 in
set_option maxRecDepth 100000 in
theorem starSumI_c (ad : Option Addr) (cap : Nat) (l : List Ry) (w : World) (hr : RdY w ad l) (hl : l.length ≤ 1048576) :
    Calls Try.prog 9 #[.slice ad l.length cap] w fun e w' => e = .returned (.tuple #[.int .i64 (if starB l = true then sxR l else 0), .int .i64 (if starB l = true then syR l else 0), .bool (starB l)]) ∧ Below w.heap.size w w' := by
  have CS := Lib.hid (isStar_c ad cap l w hr hl)
  have CT := Lib.hid (fun w' (hs : starB l = true) (hw : Below w.heap.size w w') => starSum_c ad cap l w' (hr.below hw) hs)
  clear hr
  generalize starB l = u at CS CT ⊢
  generalize sxR l = X at CT ⊢
  generalize syR l = Y at CT ⊢
  cases u
  · go_enter Try.func9, Try.ntmps9
    go_wp2_with fail
    refine (CS.out).mono ?_
    rintro e w1 ⟨rfl, hw1⟩
    go_wp2_with fail
    exact bodyPost_ret (v := .tuple #[.int .i64 0, .int .i64 0, .bool false]) (by simp [results, Try.results9, go_sem]) rfl ⟨rfl, hw1⟩
  · go_enter Try.func9, Try.ntmps9
    go_wp2_with fail
    refine (CS.out).mono ?_
    rintro e w1 ⟨rfl, hw1⟩
    go_wp2_with fail
    refine (CT.out _ (by trivial) hw1).mono ?_
    rintro e w2 ⟨rfl, hw2⟩
    go_wp2_with fail
    have hb := bal_alloc (o := .cells #[.int .i64 X, .int .i64 Y] 61) (ball hw1 hw2)
    have pp := PtO.new w2 X Y rfl
    generalize w2.alloc (.cells #[.int .i64 X, .int .i64 Y] 61) = w3 at hb pp ⊢
    obtain ⟨c0, c1⟩ := pp.at
    go_quiet (fail)
    go_wp2_with fail
    exact bodyPost_ret (v := .tuple #[.int .i64 X, .int .i64 Y, .bool true]) (by simp [results, Try.results9, go_sem]) rfl ⟨rfl, bdrewN hb nq⟩

def rayR (B : Bool) (r : Ry) : Value := .tuple #[ryV (if B = true then r else Ry.z), .bool B]
set_option maxHeartbeats 800000 in
set_option maxRecDepth 100000 in
theorem primitiveRay_c (a b : Int) (w : World) :
    Calls Try.prog 23 #[.int .i64 a, .int .i64 b] w fun e w' => e = .returned (rayR (stepsB a b) (primR a b)) ∧ Below w.heap.size w w' := by
  have CS := Lib.hid (fun w => areSteps_c a b w)
  have hst : stepsB a b = true → (a ≠ 0 ∨ b ≠ 0) ∧ (-20 ≤ a ∧ a ≤ 20) ∧ -20 ≤ b ∧ b ≤ 20 := fun h => by
    have := steps_of h
    unfold stepsB at h
    simp only [Bool.and_eq_true, Bool.or_eq_true, decide_eq_true_eq] at h
    omega
  have CP := Lib.hid (fun w (h : stepsB a b = true) => primitive_c a b w (hst h).1 (by have := hst h; omega) (by have := hst h; omega))
  clear hst
  unfold rayR
  generalize stepsB a b = u at CS CP ⊢
  generalize primR a b = r at CP ⊢
  obtain ⟨x, y, z⟩ := r
  unfold ryV at CP ⊢
  have hb0 : Below w.heap.size w (w.alloc (.cells #[.int .i64 0, .int .i64 0, .int .i64 0] 35)) := (Below.refl _ _).alloc (Nat.le_refl _) _
  have q0 := RyO.new w 0 0 0 rfl
  cases u
  · go_enter Try.func23, Try.ntmps23
    go_wp2_with fail
    refine (CS.out _).mono ?_
    rintro e w1 ⟨rfl, rfl⟩
    generalize w.alloc (.cells #[.int .i64 0, .int .i64 0, .int .i64 0] 35) = w1 at hb0 q0 ⊢
    obtain ⟨c0, c1, c2⟩ := q0.at
    obtain ⟨f0, f1, f2⟩ := q0.fr
    go_wp2_with fail
    obtain ⟨W, hW, ⟨r0, r1, r2⟩, hB⟩ := three_end (a := 0) (b := 0) (c := 0) q0 hb0 (Nat.le_refl _)
    unfold three at hW
    rw [hW]
    exact bodyPost_ret (v := .tuple #[.agg #[.int .i64 0, .int .i64 0, .int .i64 0], .bool false]) (by simp [results, Try.results23, go_sem, r0, r1, r2]) rfl ⟨rfl, hB⟩
  · go_enter Try.func23, Try.ntmps23
    go_wp2_with fail
    refine (CS.out _).mono ?_
    rintro e w1 ⟨rfl, rfl⟩
    generalize w.alloc (.cells #[.int .i64 0, .int .i64 0, .int .i64 0] 35) = w1 at hb0 q0 ⊢
    go_wp2_with fail
    refine (CP.out _ (by trivial)).mono ?_
    rintro e w2 ⟨rfl, hw2⟩
    have q2 := q0.below hw2
    have hb2 := ball hb0 hw2
    clear q0 hw2 hb0
    obtain ⟨c0, c1, c2⟩ := q2.at
    obtain ⟨f0, f1, f2⟩ := q2.fr
    go_wp2_with fail
    obtain ⟨W, hW, ⟨r0, r1, r2⟩, hB⟩ := three_end (a := x) (b := y) (c := z) q2 hb2 (Nat.le_refl _)
    unfold three at hW
    rw [hW]
    exact bodyPost_ret (v := .tuple #[.agg #[.int .i64 x, .int .i64 y, .int .i64 z], .bool true]) (by simp [results, Try.results23, go_sem, r0, r1, r2]) rfl ⟨rfl, hB⟩

end Go.Proofs.Ytlplodkabeiimaa
