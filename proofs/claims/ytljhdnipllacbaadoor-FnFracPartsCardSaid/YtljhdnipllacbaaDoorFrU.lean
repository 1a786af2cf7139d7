/-
  A fraction read: the reference's and the program's. Printed by gen_frT.py.
-/
import Derived.Test.YtljhdnipllacbaaDoorFrT
namespace Go.Proofs.YtljhdnipllacbaaDoor
open Go.RowKit
set_option maxHeartbeats 800000 in
theorem sParseFrac_c (s : ByteArray) (w : World) (hs : s.size ≤ 1000) :
    Calls Tryd.prog 21 #[.string s] w fun e w' => e = .returned (frR (parW s.toList) (fparW s.toList)) ∧ Below w.heap.size w w' := by
  have c := fun w => frParse_c s w hs
  unfold frR frV at c ⊢
  generalize (if fparW s.toList = true then parW s.toList else Fr.z) = P at c ⊢
  generalize fparW s.toList = K at c ⊢
  obtain ⟨X, Y⟩ := P
  simp only at c ⊢
  have C := Lib.hid c; clear c
  have hb0 : Below w.heap.size w (w.alloc (.cells #[.int .i64 0, .int .i64 0] 24)) := (Below.refl _ _).alloc (Nat.le_refl _) _
  have o0 := FrO.new w 0 0 rfl
  go_enter Tryd.func21, Tryd.ntmps21
  go_wp2_with fail
  refine (C.out _).mono ?_
  rintro e w1 ⟨rfl, hw1⟩
  have o1 := o0.below hw1
  have hb1 := hb0.trans (hw1.mono hb0.size)
  obtain ⟨x0, x1⟩ := o1.at
  obtain ⟨y0, y1⟩ := o1.fr
  clear hw1
  go_wp2_with fail
  obtain ⟨W, hW, ⟨q0, q1⟩, hB⟩ := fr2_end (a := X) (b := Y) o1 hb1 (by omega)
  unfold fr2 at hW
  rw [hW]
  exact bodyPost_ret (v := .tuple #[.agg #[.int .i64 X, .int .i64 Y], .bool K]) (by simp [results, Tryd.results21, go_sem, q0, q1]) rfl ⟨rfl, hB⟩
theorem fpar_none {l : List UInt8} (h : Lib.atoi (cutP l) = none) : fparB l = false := by
  unfold fparB parA
  rw [h]
theorem fpar_noD {l : List UInt8} {n : Int} (h : Lib.atoi (cutP l) = some n) (hk : cutK l = true) (h2 : Lib.atoi (cutR l) = none) : fparB l = false := by
  unfold fparB parA denA
  rw [h, if_pos hk, h2]
theorem fpar_one {l : List UInt8} {n : Int} (h : Lib.atoi (cutP l) = some n) (hk : cutK l = false) : fparB l = fitB l ⟨n, 1⟩ ∧ fparF l = ⟨n, 1⟩ := by
  unfold fparB fparF parA denA
  rw [h, if_neg (by rw [hk]; simp)]
  exact ⟨rfl, rfl⟩
theorem fpar_two {l : List UInt8} {n d : Int} (h : Lib.atoi (cutP l) = some n) (hk : cutK l = true) (h2 : Lib.atoi (cutR l) = some d) : fparB l = fitB l ⟨n, d⟩ ∧ fparF l = ⟨n, d⟩ := by
  unfold fparB fparF parA denA
  rw [h, if_pos hk, h2]
  exact ⟨rfl, rfl⟩

set_option maxHeartbeats 2400000 in
set_option maxRecDepth 100000 in
theorem iParseFrac_c (l : List UInt8) (w : World) (hp : PF l) (hL : LaidL w) :
    Calls Tryd.prog 16 #[.string ⟨l.toArray⟩] w fun e w' => e = .returned (frR (fparF l) (fparB l)) ∧ Below w.heap.size w w' := by
  have hb0 : Below w.heap.size w (w.alloc (.cells #[.int .i64 0, .int .i64 0] 24)) := (Below.refl _ _).alloc (Nat.le_refl _) _
  have o0 := FrO.new w 0 0 rfl
  have HL := Lib.hid hL; clear hL
  have cc := fun w hL => cut_g l [47] w hp.1 hL
  have ca := fun w hL => atoi_e (cutP l) w hp.2.1 hL
  have cb := fun w hL => atoi_e (cutR l) w hp.2.2 hL
  rw [show (Lib.cut l [47]).1 = cutP l from rfl, show (Lib.cut l [47]).2.1 = cutR l from rfl, show (Lib.cut l [47]).2.2 = cutK l from rfl] at cc
  have q1 := fun h => fpar_none (l := l) h
  have q2 := fun n h hk h2 => fpar_noD (l := l) (n := n) h hk h2
  have q3 := fun n h hk => fpar_one (l := l) (n := n) h hk
  have q4 := fun n d h hk h2 => fpar_two (l := l) (n := n) (d := d) h hk h2
  unfold fitB at q3 q4
  unfold AtoiV at ca cb
  generalize fparB l = K at q1 q2 q3 q4 ⊢
  generalize fparF l = P at q3 q4 ⊢
  generalize cutP l = p at cc ca q1 q2 q3 q4
  generalize cutR l = r at cc cb q2 q4
  generalize cutK l = k at cc q2 q3 q4
  obtain ⟨X, Y⟩ := P
  unfold frR frV Fr.z
  have CC := Lib.hid cc; clear cc
  cases ho : Lib.atoi p with
  | none =>
    obtain rfl := q1 ho
    rw [ho] at ca
    have CA := Lib.hid ca
    clear ca cb q1 q2 q3 q4 ho
    cases k
    all_goals
      go_enter Tryd.func16, Tryd.ntmps16
      go_wp2_with fail
      refine (CC.out _ (HL.out.below hb0)).mono ?_
      rintro e w1 ⟨rfl, hw1⟩
      have o1 := o0.below hw1
      have hb1 := hb0.trans (hw1.mono hb0.size)
      clear hw1
      go_wp2_with fail
      refine (CA.out _ (HL.out.below hb1)).mono ?_
      rintro e w2 ⟨⟨v, rfl, tp, pp, rfl⟩, hw2⟩
      have o2 := o1.below hw2
      have hb2 := ball hb1 hw2
      clear hw2 o1 hb1
      have f2 := FrO.new w2 0 1 rfl
      have o3 := o2.alloc (.cells #[.int .i64 0, .int .i64 1] 24)
      have hb3 := bal_alloc (o := (.cells #[.int .i64 0, .int .i64 1] 24)) hb2
      have hz2 := hb2.size
      have hlt2 := o2.lt
      obtain ⟨g9, hg9⟩ : ∃ g, w2.heap.size = g := ⟨_, rfl⟩
      rw [hg9] at f2
      have m1 : w.heap.size ≠ g9 := by omega
      have m2 : w.heap.size ≤ g9 := by omega
      clear o2 hb2
      obtain ⟨x0, x1⟩ := o3.at
      obtain ⟨y0, y1⟩ := o3.fr
      obtain ⟨z0, z1⟩ := f2.at
      obtain ⟨u0, u1⟩ := f2.fr
      go_wp2_with fail
      obtain ⟨W, hW, ⟨q0, q1⟩, hB⟩ := fr2_end (a := 0) (b := 0) o3 hb3 (by omega)
      unfold fr2 at hW
      rw [hW]
      exact bodyPost_ret (v := .tuple #[.agg #[.int .i64 0, .int .i64 0], .bool false]) (by simp [results, Tryd.results16, go_sem, q0, q1]) rfl ⟨rfl, hB⟩
  | some n =>
    rw [ho] at ca
    have CA := Lib.hid ca; clear ca
    cases k
    case false =>
      obtain ⟨hK, hP⟩ := q3 n ho rfl
      clear q1 q2 q3 q4 cb
      have e1 : n = X := (congrArg Fr.n hP).symm
      have e2 : (1 : Int) = Y := (congrArg Fr.d hP).symm
      clear hP
      subst e1
      subst e2
      have cg := fun w => isFrac_c ⟨n, 1⟩ w
      have ct := fun w h hL => frText_i ⟨n, 1⟩ w h hL
      generalize frB ⟨n, 1⟩ = u at cg ct hK
      generalize frTxt ⟨n, 1⟩ = T at ct hK
      unfold frV strV at *
      simp only at cg ct
      have hneq : (T == l) = decide (T = l) := Bool.eq_iff_iff.2 (by rw [beq_iff_eq, decide_eq_true_iff])
      generalize decide (T = l) = Q at hK hneq
      have CG := Lib.hid cg; have CT := Lib.hid ct; have HK := Lib.hid hK; clear cg ct hK
      go_enter Tryd.func16, Tryd.ntmps16
      go_wp2_with fail
      refine (CC.out _ (HL.out.below hb0)).mono ?_
      rintro e w1 ⟨rfl, hw1⟩
      have o1 := o0.below hw1
      have hb1 := hb0.trans (hw1.mono hb0.size)
      clear hw1
      go_wp2_with fail
      refine (CA.out _ (HL.out.below hb1)).mono ?_
      rintro e w2 ⟨⟨v, rfl, rfl⟩, hw2⟩
      have o2 := o1.below hw2
      have hb2 := ball hb1 hw2
      clear hw2 o1 hb1
      have f2 := FrO.new w2 n 1 rfl
      have o3 := o2.alloc (.cells #[.int .i64 n, .int .i64 1] 24)
      have hb3 := bal_alloc (o := (.cells #[.int .i64 n, .int .i64 1] 24)) hb2
      have hz2 := hb2.size
      have hlt2 := o2.lt
      obtain ⟨g9, hg9⟩ : ∃ g, w2.heap.size = g := ⟨_, rfl⟩
      rw [hg9] at f2
      have m1 : w.heap.size ≠ g9 := by omega
      have m2 : w.heap.size ≤ g9 := by omega
      clear o2 hb2
      obtain ⟨x0, x1⟩ := o3.at
      obtain ⟨y0, y1⟩ := o3.fr
      obtain ⟨z0, z1⟩ := f2.at
      obtain ⟨u0, u1⟩ := f2.fr
      go_wp2_with fail
      refine (CG.out _).mono ?_
      rintro e w5 ⟨rfl, hw5⟩
      have o6 := o3.below hw5
      have f6 := f2.below hw5
      have hb6 := ball hb3 hw5
      clear hw5 o3 f2 hb3
      obtain ⟨x0, x1⟩ := o6.at
      obtain ⟨y0, y1⟩ := o6.fr
      obtain ⟨z0, z1⟩ := f6.at
      cases u
      case false =>
        obtain rfl : K = false := by rw [HK.out]; simp
        go_wp2_with fail
        obtain ⟨W, hW, ⟨q0, q1⟩, hB⟩ := fr2_end (a := 0) (b := 0) o6 hb6 (by omega)
        unfold fr2 at hW
        rw [hW]
        exact bodyPost_ret (v := .tuple #[.agg #[.int .i64 0, .int .i64 0], .bool false]) (by simp [results, Tryd.results16, go_sem, q0, q1]) rfl ⟨rfl, hB⟩
      case true =>
        go_wp2_with fail
        refine (CT.out _ trivial (HL.out.below hb6).s).mono ?_
        rintro e w7 ⟨rfl, hw7⟩
        have o7 := o6.below hw7
        have f7 := f6.below hw7
        have hb7 := ball hb6 hw7
        clear hw7 o6 f6 hb6 x0 x1 y0 y1 z0 z1
        obtain ⟨x0, x1⟩ := o7.at
        obtain ⟨y0, y1⟩ := o7.fr
        obtain ⟨z0, z1⟩ := f7.at
        cases Q
        case false =>
          obtain rfl : K = false := by rw [HK.out]; simp
          go_wp2_with fail
          obtain ⟨W, hW, ⟨q0, q1⟩, hB⟩ := fr2_end (a := 0) (b := 0) o7 hb7 (by omega)
          unfold fr2 at hW
          rw [hW]
          exact bodyPost_ret (v := .tuple #[.agg #[.int .i64 0, .int .i64 0], .bool false]) (by simp [results, Tryd.results16, go_sem, q0, q1]) rfl ⟨rfl, hB⟩
        case true =>
          obtain rfl : K = true := by rw [HK.out]; simp
          go_wp2_with fail
          obtain ⟨W, hW, ⟨q0, q1⟩, hB⟩ := fr2_end (a := n) (b := 1) o7 hb7 (by omega)
          unfold fr2 at hW
          rw [hW]
          exact bodyPost_ret (v := .tuple #[.agg #[.int .i64 n, .int .i64 1], .bool true]) (by simp [results, Tryd.results16, go_sem, q0, q1]) rfl ⟨rfl, hB⟩
    case true =>
      cases ho2 : Lib.atoi r with
      | none =>
        obtain rfl := q2 n ho rfl ho2
        rw [ho2] at cb
        have CB := Lib.hid cb
        clear cb q1 q2 q3 q4 ho ho2
        go_enter Tryd.func16, Tryd.ntmps16
        go_wp2_with fail
        refine (CC.out _ (HL.out.below hb0)).mono ?_
        rintro e w1 ⟨rfl, hw1⟩
        have o1 := o0.below hw1
        have hb1 := hb0.trans (hw1.mono hb0.size)
        clear hw1
        go_wp2_with fail
        refine (CA.out _ (HL.out.below hb1)).mono ?_
        rintro e w2 ⟨⟨v, rfl, rfl⟩, hw2⟩
        have o2 := o1.below hw2
        have hb2 := ball hb1 hw2
        clear hw2 o1 hb1
        have f2 := FrO.new w2 n 1 rfl
        have o3 := o2.alloc (.cells #[.int .i64 n, .int .i64 1] 24)
        have hb3 := bal_alloc (o := (.cells #[.int .i64 n, .int .i64 1] 24)) hb2
        have hz2 := hb2.size
        have hlt2 := o2.lt
        obtain ⟨g9, hg9⟩ : ∃ g, w2.heap.size = g := ⟨_, rfl⟩
        rw [hg9] at f2
        have m1 : w.heap.size ≠ g9 := by omega
        have m2 : w.heap.size ≤ g9 := by omega
        clear o2 hb2
        obtain ⟨x0, x1⟩ := o3.at
        obtain ⟨y0, y1⟩ := o3.fr
        obtain ⟨z0, z1⟩ := f2.at
        obtain ⟨u0, u1⟩ := f2.fr
        go_wp2_with fail
        refine (CB.out _ (HL.out.below hb3)).mono ?_
        rintro e w4 ⟨⟨v, rfl, tp, pp, rfl⟩, hw4⟩
        have o4 := (o3.below hw4).setO (a := ⟨g9, 1, none⟩) m1 (.int .i64 0)
        have f3 := f2.below hw4
        have hb4 := below_set (a := ⟨g9, 1, none⟩) (ball hb3 hw4) m2 (ball hb3 hw4).size (.int .i64 0)
        clear o3 f2 hb3 hw4 x0 x1 y0 y1 z0 z1 u0 u1
        obtain ⟨x0, x1⟩ := o4.at
        obtain ⟨y0, y1⟩ := o4.fr
        obtain ⟨z0, z1⟩ := f3.at
        obtain ⟨u0, u1⟩ := f3.fr
        go_wp2_with fail
        obtain ⟨W, hW, ⟨q0, q1⟩, hB⟩ := fr2_end (a := 0) (b := 0) o4 hb4 (by omega)
        unfold fr2 at hW
        rw [hW]
        exact bodyPost_ret (v := .tuple #[.agg #[.int .i64 0, .int .i64 0], .bool false]) (by simp [results, Tryd.results16, go_sem, q0, q1]) rfl ⟨rfl, hB⟩
      | some d =>
        obtain ⟨hK, hP⟩ := q4 n d ho rfl ho2
        rw [ho2] at cb
        have CB := Lib.hid cb
        clear cb q1 q2 q3 q4 ho ho2
        have e1 : n = X := (congrArg Fr.n hP).symm
        have e2 : d = Y := (congrArg Fr.d hP).symm
        clear hP
        subst e1
        subst e2
        have cg := fun w => isFrac_c ⟨n, d⟩ w
        have ct := fun w h hL => frText_i ⟨n, d⟩ w h hL
        generalize frB ⟨n, d⟩ = u at cg ct hK
        generalize frTxt ⟨n, d⟩ = T at ct hK
        unfold frV strV at *
        simp only at cg ct
        have hneq : (T == l) = decide (T = l) := Bool.eq_iff_iff.2 (by rw [beq_iff_eq, decide_eq_true_iff])
        generalize decide (T = l) = Q at hK hneq
        have CG := Lib.hid cg; have CT := Lib.hid ct; have HK := Lib.hid hK; clear cg ct hK
        go_enter Tryd.func16, Tryd.ntmps16
        go_wp2_with fail
        refine (CC.out _ (HL.out.below hb0)).mono ?_
        rintro e w1 ⟨rfl, hw1⟩
        have o1 := o0.below hw1
        have hb1 := hb0.trans (hw1.mono hb0.size)
        clear hw1
        go_wp2_with fail
        refine (CA.out _ (HL.out.below hb1)).mono ?_
        rintro e w2 ⟨⟨v, rfl, rfl⟩, hw2⟩
        have o2 := o1.below hw2
        have hb2 := ball hb1 hw2
        clear hw2 o1 hb1
        have f2 := FrO.new w2 n 1 rfl
        have o3 := o2.alloc (.cells #[.int .i64 n, .int .i64 1] 24)
        have hb3 := bal_alloc (o := (.cells #[.int .i64 n, .int .i64 1] 24)) hb2
        have hz2 := hb2.size
        have hlt2 := o2.lt
        obtain ⟨g9, hg9⟩ : ∃ g, w2.heap.size = g := ⟨_, rfl⟩
        rw [hg9] at f2
        have m1 : w.heap.size ≠ g9 := by omega
        have m2 : w.heap.size ≤ g9 := by omega
        clear o2 hb2
        obtain ⟨x0, x1⟩ := o3.at
        obtain ⟨y0, y1⟩ := o3.fr
        obtain ⟨z0, z1⟩ := f2.at
        obtain ⟨u0, u1⟩ := f2.fr
        go_wp2_with fail
        refine (CB.out _ (HL.out.below hb3)).mono ?_
        rintro e w4 ⟨⟨v, rfl, rfl⟩, hw4⟩
        have o4 := (o3.below hw4).setO (a := ⟨g9, 1, none⟩) m1 (.int .i64 d)
        have f3 := f2.below hw4
        have f4 := f3.set1 d
        simp only at f4
        have hb4 := below_set (a := ⟨g9, 1, none⟩) (ball hb3 hw4) m2 (ball hb3 hw4).size (.int .i64 d)
        clear o3 f2 hb3 hw4 x0 x1 y0 y1 z0 z1 u0 u1
        obtain ⟨z0, z1⟩ := f3.at
        obtain ⟨u0, u1⟩ := f3.fr
        obtain ⟨v0, v1⟩ := f4.at
        go_wp2_with fail
        generalize hwB : w4.setCell ⟨g9, 1, none⟩ (.int .i64 d) = wB at o4 f4 hb4 v0 v1 ⊢
        clear hwB v0 v1 z0 z1 u0 u1 f3
        have o3 := o4
        have f2 := f4
        have hb3 := hb4
        clear o4 f4 hb4
        refine (CG.out _).mono ?_
        rintro e w5 ⟨rfl, hw5⟩
        have o6 := o3.below hw5
        have f6 := f2.below hw5
        have hb6 := ball hb3 hw5
        clear hw5 o3 f2 hb3
        obtain ⟨x0, x1⟩ := o6.at
        obtain ⟨y0, y1⟩ := o6.fr
        obtain ⟨z0, z1⟩ := f6.at
        cases u
        case false =>
          obtain rfl : K = false := by rw [HK.out]; simp
          go_wp2_with fail
          obtain ⟨W, hW, ⟨q0, q1⟩, hB⟩ := fr2_end (a := 0) (b := 0) o6 hb6 (by omega)
          unfold fr2 at hW
          rw [hW]
          exact bodyPost_ret (v := .tuple #[.agg #[.int .i64 0, .int .i64 0], .bool false]) (by simp [results, Tryd.results16, go_sem, q0, q1]) rfl ⟨rfl, hB⟩
        case true =>
          go_wp2_with fail
          refine (CT.out _ trivial (HL.out.below hb6).s).mono ?_
          rintro e w7 ⟨rfl, hw7⟩
          have o7 := o6.below hw7
          have f7 := f6.below hw7
          have hb7 := ball hb6 hw7
          clear hw7 o6 f6 hb6 x0 x1 y0 y1 z0 z1
          obtain ⟨x0, x1⟩ := o7.at
          obtain ⟨y0, y1⟩ := o7.fr
          obtain ⟨z0, z1⟩ := f7.at
          cases Q
          case false =>
            obtain rfl : K = false := by rw [HK.out]; simp
            go_wp2_with fail
            obtain ⟨W, hW, ⟨q0, q1⟩, hB⟩ := fr2_end (a := 0) (b := 0) o7 hb7 (by omega)
            unfold fr2 at hW
            rw [hW]
            exact bodyPost_ret (v := .tuple #[.agg #[.int .i64 0, .int .i64 0], .bool false]) (by simp [results, Tryd.results16, go_sem, q0, q1]) rfl ⟨rfl, hB⟩
          case true =>
            obtain rfl : K = true := by rw [HK.out]; simp
            go_wp2_with fail
            obtain ⟨W, hW, ⟨q0, q1⟩, hB⟩ := fr2_end (a := n) (b := d) o7 hb7 (by omega)
            unfold fr2 at hW
            rw [hW]
            exact bodyPost_ret (v := .tuple #[.agg #[.int .i64 n, .int .i64 d], .bool true]) (by simp [results, Tryd.results16, go_sem, q0, q1]) rfl ⟨rfl, hB⟩

end Go.Proofs.YtljhdnipllacbaaDoor
