/-
  Some texts of this proof in one: HuH HuI HuJ. Each part tells what it proves. By an AI agent.
-/
import Derived.Test.YtnapcjfemlhkmaaGreatDoorHuG

/-
  HasPoint of the reference. By an AI agent.
-/
namespace Go.Proofs.YtnapcjfemlhkmaaGreatDoor
open Go.RowKit

theorem rep (l : List Pt) (b off : Nat) {w : World} (h : RdP w (some ⟨b, off, none⟩) l) {m : List Pt} (e : l = m) : RdP w (some ⟨b, off, none⟩) m := by subst e; exact h

set_option maxHeartbeats 3200000 in
set_option maxRecDepth 100000 in
theorem pyHas_c (ad : Option Addr) (cap : Nat) (l : List Pt) (px py : Int) (w : World) (hr : RdP w ad l) (h0 : 0 < l.length) (hl : l.length ≤ 40) (hs : AllSh l) (hp : ptB ⟨px, py⟩ = true) :
    Calls Tryz.prog 52 #[.slice ad l.length cap, .agg #[.int .i64 px, .int .i64 py]] w fun e w' => e = .returned (.bool (Geo.hasB l ⟨px, py⟩)) ∧ Below w.heap.size w w' := by
  have hpb := ptB_bdH hp
  simp only at hpb
  have hps : Sh ⟨px, py⟩ := ptB_sh hp
  obtain ⟨b, off, rfl, hb⟩ := hr.some h0
  by_cases hl1 : l.length = 1
  case pos =>
    obtain ⟨q, rfl⟩ : ∃ q, l = [q] := by
      match l, hl1 with
      | [q], _ => exact ⟨q, rfl⟩
    obtain ⟨qx, qy⟩ := q
    obtain ⟨c0, c1⟩ := hr.at (j := 0) (by simp)
    simp only [List.getD_cons_zero, Nat.zero_mul, Nat.add_zero] at c0 c1
    have hv : Geo.hasB [⟨qx, qy⟩] ⟨px, py⟩ = decide ((⟨qx, qy⟩ : Pt) = ⟨px, py⟩) := rfl
    rw [hv]
    have hb0 : Below w.heap.size w (w.alloc (.cells #[.int .i64 px, .int .i64 py] 30)) := (Below.refl _ _).alloc (Nat.le_refl _) _
    have d0 := bcell hb0 hb c0
    have d1 := bcell hb0 hb c1
    have o0 := PtO.new w px py rfl
    obtain ⟨x0, x1⟩ := o0.at
    clear c0 c1 o0 hr hs hps hpb hp hv
    simp only [List.length_cons, List.length_nil, Nat.zero_add]
    obtain ⟨R, hR⟩ : ∃ R, decide ((⟨qx, qy⟩ : Pt) = ⟨px, py⟩) = R := ⟨_, rfl⟩
    rw [hR]
    have HR := Lib.hid hR; clear hR
    by_cases hx : qx = px
    · subst hx
      by_cases hy : qy = py
      · subst hy
        obtain rfl : R = true := HR.out.symm.trans (decide_eq_true rfl)
        go_enter Tryz.func52, Tryz.ntmps52
        go_wp2_with fail
        go_quiet (fail)
        go_wp2_with fail
        go_ret
        exact ⟨rfl, bdrewN hb0 _⟩
      · obtain rfl : R = false := HR.out.symm.trans (decide_eq_false (fun e => hy (by injection e)))
        go_enter Tryz.func52, Tryz.ntmps52
        go_wp2_with fail
        go_quiet (fail)
        go_wp2_with fail
        go_ret
        exact ⟨rfl, bdrewN hb0 _⟩
    · obtain rfl : R = false := HR.out.symm.trans (decide_eq_false (fun e => hx (by injection e)))
      go_enter Tryz.func52, Tryz.ntmps52
      go_wp2_with fail
      go_quiet (fail)
      go_wp2_with fail
      go_ret
      exact ⟨rfl, bdrewN hb0 _⟩
  case neg =>
    by_cases hl2 : l.length = 2
    case pos =>
      obtain ⟨a, c, rfl⟩ : ∃ a c, l = [a, c] := by
        match l, hl2 with
        | [a, c], _ => exact ⟨a, c, rfl⟩
      obtain ⟨ax, ay⟩ := a
      obtain ⟨cx, cy⟩ := c
      have hsa : Sh ⟨ax, ay⟩ := hs _ (by simp)
      have hsc : Sh ⟨cx, cy⟩ := hs _ (by simp)
      have hv : Geo.hasB [⟨ax, ay⟩, ⟨cx, cy⟩] ⟨px, py⟩ = Geo.segB ⟨ax, ay⟩ ⟨cx, cy⟩ ⟨px, py⟩ := rfl
      rw [hv]
      unfold Geo.segB
      have ct := fun w => pyTurn_c ⟨ax, ay⟩ ⟨cx, cy⟩ ⟨px, py⟩ w hsa.sm hsc.sm hps.sm
      unfold ptV at ct
      simp only at ct ⊢
      obtain ⟨a1, a2, a3, a4⟩ := hsa
      obtain ⟨b1, b2, b3, b4⟩ := hsc
      simp only at a1 a2 a3 a4 b1 b2 b3 b4
      have e1 : IntKind.i64.wrap (px - ax) = px - ax := i64_small (by omega) (by omega)
      have e2 : IntKind.i64.wrap (px - cx) = px - cx := i64_small (by omega) (by omega)
      have e5 : IntKind.i64.wrap (py - ay) = py - ay := i64_small (by omega) (by omega)
      have e6 : IntKind.i64.wrap (py - cy) = py - cy := i64_small (by omega) (by omega)
      have m1 := mulb (K := 600000) (M := 600000) (by omega) (show -600000 ≤ px - ax ∧ px - ax ≤ 600000 by omega) (show -600000 ≤ px - cx ∧ px - cx ≤ 600000 by omega)
      have m2 := mulb (K := 600000) (M := 600000) (by omega) (show -600000 ≤ py - ay ∧ py - ay ≤ 600000 by omega) (show -600000 ≤ py - cy ∧ py - cy ≤ 600000 by omega)
      have e3 : IntKind.i64.wrap ((px - ax) * (px - cx)) = (px - ax) * (px - cx) := i64_small (by omega) (by omega)
      have e7 : IntKind.i64.wrap ((py - ay) * (py - cy)) = (py - ay) * (py - cy) := i64_small (by omega) (by omega)
      generalize turnZ ⟨ax, ay⟩ ⟨cx, cy⟩ ⟨px, py⟩ = T at ct ⊢
      simp only [List.length_cons, List.length_nil, Nat.zero_add]
      have ht : (T == 0) = decide (T = 0) := by rw [Bool.eq_iff_iff, beq_iff_eq, decide_eq_true_iff]
      cases hu1 : decide (T = 0)
      case false =>
        rw [hu1] at ht
        exact pyHas_Hp b off cap ax ay cx cy px py T _ _ _ _ _ _ false _ _ w hr ct ht e1 e2 e3 rfl e5 e6 e7 rfl
      case true =>
        rw [hu1] at ht
        rw [Bool.true_and]
        cases hu2 : decide ((px - ax) * (px - cx) ≤ 0)
        case false => exact pyHas_Hq b off cap ax ay cx cy px py T _ _ _ _ _ _ true false _ w hr ct ht e1 e2 e3 hu2 e5 e6 e7 rfl
        case true =>
          rw [Bool.true_and]
          exact pyHas_Hr b off cap ax ay cx cy px py T _ _ _ _ _ _ true true _ w hr ct ht e1 e2 e3 hu2 e5 e6 e7 rfl
    case neg =>
      have hv : Geo.hasB l ⟨px, py⟩ = (List.range l.length).all fun i => decide (0 ≤ turnZ (l.getD i default) (nextP l i) ⟨px, py⟩) := by unfold Geo.hasB; rw [if_neg hl1, if_neg hl2]
      have hvt : (∀ k, k < l.length → 0 ≤ turnZ (l.getD k default) (nextP l k) ⟨px, py⟩) → Geo.hasB l ⟨px, py⟩ = true := fun h => by
        rw [hv, List.all_eq_true]
        exact fun k hk => decide_eq_true (h k (List.mem_range.1 hk))
      have hvf : ∀ k, k < l.length → ¬ 0 ≤ turnZ (l.getD k default) (nextP l k) ⟨px, py⟩ → Geo.hasB l ⟨px, py⟩ = false := fun k hk h => by
        cases e : Geo.hasB l ⟨px, py⟩
        · rfl
        · rw [hv, List.all_eq_true] at e
          exact absurd (of_decide_eq_true (e k (List.mem_range.2 hk))) h
      obtain ⟨R, hR⟩ : ∃ R, Geo.hasB l ⟨px, py⟩ = R := ⟨_, rfl⟩
      rw [hR] at hvt hvf ⊢
      have HVT := Lib.hid hvt; have HVF := Lib.hid hvf; clear hv hvt hvf hR
      have g1 : ((l.length : Int) == 1) = false := beq_eq_false_iff_ne.2 (by omega)
      have g2 : ((l.length : Int) == 2) = false := beq_eq_false_iff_ne.2 (by omega)
      have HR := Lib.hid hr; clear hr
      have hb0 : Below w.heap.size w (w.alloc (.cells #[.int .i64 px, .int .i64 py] 30)) := (Below.refl _ _).alloc (Nat.le_refl _) _
      obtain ⟨g, hg⟩ : ∃ g, w.heap.size = g := ⟨_, rfl⟩
      have o0 := PtO.new w px py hg.symm
      have HG := Lib.hid hg
      have HO := Lib.hid o0; have HB0 := Lib.hid hb0; clear o0 hb0 hpb hp
      go_enter Tryz.func52, Tryz.ntmps52
      go_wp2_with fail
      clear g1 g2
      try simp only [hg]
      generalize w.alloc (.cells #[.int .i64 px, .int .i64 py] 30) = W at HO HB0 ⊢
      clear hg
      go_loopw [65] (fun i wr => ∃ k : Nat, k ≤ l.length ∧ i = .int .i64 k ∧ (∀ j, j < k → 0 ≤ turnZ (l.getD j default) (nextP l j) ⟨px, py⟩) ∧ PtO wr g ⟨px, py⟩ ∧ Below w.heap.size w wr) (fun i _ => l.length - (intOf i).toNat)
      case atStart => exact ⟨0, Nat.zero_le _, rfl, fun j hj => absurd hj (by omega), HO.out, HB0.out⟩
      case round =>
        obtain ⟨wE, rfl⟩ : ∃ x : World, x = wr := ⟨_, rfl⟩
        obtain ⟨k, hk, rfl, hal, hog, hbel⟩ := hrel
        have HAL := Lib.hid hal; clear hal
        by_cases hlt : k < l.length
        case neg =>
          obtain rfl : k = l.length := by omega
          obtain rfl : R = true := HVT.out HAL.out
          clear hog
          go_wp2_with fail
          go_ret
          exact ⟨rfl, hbel⟩
        case pos =>
          obtain ⟨c0, c1⟩ := HR.out.at hlt
          have d0 := bcell hbel hb c0
          have d1 := bcell hbel hb c1
          clear c0 c1
          have hjl : (k + 1) % l.length < l.length := Nat.mod_lt _ (by omega)
          have hrem := rem_next (i := k) (n := l.length)
          have ct := fun w => pyTurn_c (l.getD k default) (nextP l k) ⟨px, py⟩ w (hs.at hlt).sm (nextP_sh hs (i := k) (by omega)).sm hps.sm
          have hvf := HVF.out k hlt
          have hal2 := HAL.out
          obtain ⟨T, hT⟩ : ∃ T, turnZ (l.getD k default) (nextP l k) ⟨px, py⟩ = T := ⟨_, rfl⟩
          rw [hT] at ct hvf
          have HT := Lib.hid hT; clear hT hal2
          unfold nextP at ct
          generalize (k + 1) % l.length = j at hrem hjl ct
          obtain ⟨f0, f1⟩ := HR.out.at hjl
          have g0 := bcell hbel hb f0
          have g1 := bcell hbel hb f1
          clear f0 f1
          generalize l.getD j default = q at g0 g1 ct
          generalize l.getD k default = p at d0 d1 ct
          obtain ⟨ax, ay⟩ := p
          obtain ⟨cx, cy⟩ := q
          unfold ptV at ct
          simp only at d0 d1 g0 g1 ct
          have CT := Lib.hid ct; clear ct
          have e1 : IntKind.i64.wrap ((k : Int) + 1) = (k : Int) + 1 := i64_small (by omega) (by omega)
          have zz : ((l.length : Int) == 0) = false := beq_eq_false_iff_ne.2 (by omega)
          have zi : ¬ ((l.length : Int) = 0) := by omega
          have zn : ¬ (l.length = 0) := by omega
          have zl : ¬ (l = []) := fun e => by rw [e] at h0; simp at h0
          have wj : IntKind.i64.wrap (j : Int) = (j : Int) := i64_small (by omega) (by omega)
          have x1 : (0 : Int) ≤ (j : Int) := by omega
          have x2 : (j : Int) < (l.length : Int) := by omega
          have hz := hbel.size
          obtain ⟨wB, hwB⟩ : ∃ x, wE.alloc (.cells #[.int .i64 ax, .int .i64 ay] 30) = x := ⟨_, rfl⟩
          have hEB : Below wE.heap.size wE wB := by rw [← hwB]; exact (Below.refl _ _).alloc (Nat.le_refl _) _
          have b0 : wB.cell? ⟨wE.heap.size, 0, none⟩ = some (.int .i64 ax) := by rw [← hwB]; simp [go_sem]
          have b1 : wB.cell? ⟨wE.heap.size, 1, none⟩ = some (.int .i64 ay) := by rw [← hwB]; simp [go_sem]
          have bl : wE.heap.size < wB.heap.size := by rw [← hwB]; simp
          have hbE : b < wE.heap.size := Nat.lt_of_lt_of_le hb hz
          have q0 := bcell hEB hbE g0
          have q1 := bcell hEB hbE g1
          have hbE2 : b < wB.heap.size := Nat.lt_of_lt_of_le hbE hEB.size
          have og2 := hog.below hEB
          obtain ⟨p0, p1⟩ := og2.at
          have hgl := og2.lt
          have HOG := Lib.hid og2
          have hbB := ball hbel hEB
          clear g0 g1 og2 hog
          by_cases hneg : T < 0
          case pos =>
            obtain rfl : R = false := hvf (by omega)
            have n1 : decide (T < 0) = true := decide_eq_true hneg
            clear hneg hvf
            go_wp2_with fail
            try rw [hwB]
            clear hwB d0 d1
            go_region_held3 (fun w' => (w'.cell? ⟨wE.heap.size, 0, none⟩ = some (.int .i64 ax) ∧ w'.cell? ⟨wE.heap.size, 1, none⟩ = some (.int .i64 ay)) ∧ (w'.cell? ⟨g, 0, none⟩ = some (.int .i64 px) ∧ w'.cell? ⟨g, 1, none⟩ = some (.int .i64 py)) ∧ w'.cell? ⟨b, off + j * 2, none⟩ = some (.int .i64 cx) ∧ w'.cell? ⟨b, off + j * 2 + 1, none⟩ = some (.int .i64 cy)) (exact ⟨⟨by assumption, by assumption⟩, ⟨by assumption, by assumption⟩, by assumption, by assumption⟩)
              (first | (go_at_call 77; (with_reducible refine (CT.out _).mono ?_); rintro e W1 ⟨rfl, hw1⟩; have r0 := bcell hw1 bl b0; have r1 := bcell hw1 bl b1; have r2 := bcell hw1 hgl p0; have r3 := bcell hw1 hgl p1; have r4 := bcell hw1 hbE2 q0; have r5 := bcell hw1 hbE2 q1))
            go_wp2_with fail
            go_ret
            exact ⟨rfl, ball (hbB.trans (Below.refl _ _).drew) hw1⟩
          case neg =>
            have n1 : decide (T < 0) = false := decide_eq_false hneg
            have HT0 := Lib.hid (show 0 ≤ T by omega)
            clear hneg hvf
            go_wp2_with fail
            try rw [hwB]
            clear hwB d0 d1
            go_region_held3 (fun w' => (w'.cell? ⟨wE.heap.size, 0, none⟩ = some (.int .i64 ax) ∧ w'.cell? ⟨wE.heap.size, 1, none⟩ = some (.int .i64 ay)) ∧ (w'.cell? ⟨g, 0, none⟩ = some (.int .i64 px) ∧ w'.cell? ⟨g, 1, none⟩ = some (.int .i64 py)) ∧ w'.cell? ⟨b, off + j * 2, none⟩ = some (.int .i64 cx) ∧ w'.cell? ⟨b, off + j * 2 + 1, none⟩ = some (.int .i64 cy)) (exact ⟨⟨by assumption, by assumption⟩, ⟨by assumption, by assumption⟩, by assumption, by assumption⟩)
              (first | (go_at_call 77; (with_reducible refine (CT.out _).mono ?_); rintro e W1 ⟨rfl, hw1⟩; have r0 := bcell hw1 bl b0; have r1 := bcell hw1 bl b1; have r2 := bcell hw1 hgl p0; have r3 := bcell hw1 hgl p1; have r4 := bcell hw1 hbE2 q0; have r5 := bcell hw1 hbE2 q1))
            go_wp2_with fail
            go_roundw
            case rel => exact ⟨k + 1, by omega, by go_num, fun i hi => by
              by_cases hik : i = k
              · subst hik; rw [HT.out]; exact HT0.out
              · exact HAL.out i (by omega), PtO.below (w := wB.drew) HOG.out hw1, ball (hbB.trans (Below.refl _ _).drew) hw1⟩
            case measure => simp [intOf]; omega
/-- What HasPoint gives. -/
def hasK (l : List Pt) (p : Pt) : Bool := polyB l && ptB p
def hasV (l : List Pt) (p : Pt) : Bool := hasK l p && Geo.hasB l p

set_option maxHeartbeats 1600000 in
theorem sHasPoint_c (ad : Option Addr) (cap : Nat) (l : List Pt) (px py : Int) (w : World) (hr : RdP w ad l) (hl : l.length ≤ 1048576) :
    Calls Tryz.prog 21 #[.slice ad l.length cap, .agg #[.int .i64 px, .int .i64 py]] w fun e w' => e = .returned (.tuple #[.bool (hasV l ⟨px, py⟩), .bool (hasK l ⟨px, py⟩)]) ∧ Below w.heap.size w w' := by
  have c1 := fun w hr => pyGood_c ad cap l w hr hl
  have c2 := fun w => pyOne_c ⟨px, py⟩ w
  unfold ptV at c2
  simp only at c2
  have c3 := fun (h : polyB l = true) (h2 : ptB ⟨px, py⟩ = true) w hr => pyHas_c ad cap l px py w hr (by have := (ptsB_t (polyB_ptsH h)).1; omega) (ptsB_t (polyB_ptsH h)).2.1 (ptsB_t (polyB_ptsH h)).2.2 h2
  have hK : hasK l ⟨px, py⟩ = (polyB l && ptB ⟨px, py⟩) := rfl
  have hV : hasV l ⟨px, py⟩ = (hasK l ⟨px, py⟩ && Geo.hasB l ⟨px, py⟩) := rfl
  generalize hasV l ⟨px, py⟩ = V at hV ⊢
  generalize hasK l ⟨px, py⟩ = K at hK hV ⊢
  generalize Geo.hasB l ⟨px, py⟩ = H at c3 hV
  generalize polyB l = u at c1 c3 hK
  generalize ptB ⟨px, py⟩ = v at c2 c3 hK
  have C1 := Lib.hid c1; have C2 := Lib.hid c2; have C3 := Lib.hid c3
  have HR := Lib.hid hr; clear hr c1 c2 c3
  have hb0 : Below w.heap.size w (w.alloc (.cells #[.int .i64 px, .int .i64 py] 30)) := (Below.refl _ _).alloc (Nat.le_refl _) _
  have o0 := PtO.new w px py rfl
  have HR0 := Lib.hid (HR.out.below hb0)
  cases u
  case false =>
    obtain rfl : K = false := hK
    obtain rfl : V = false := hV
    clear o0
    go_enter Tryz.func21, Tryz.ntmps21
    go_wp2_with fail
    refine (C1.out _ HR0.out).mono ?_
    rintro e w1 ⟨rfl, hw1⟩
    go_wp2_with fail
    go_ret2
    exact ⟨rfl, ball hb0 hw1⟩
  case true =>
    cases v
    case false =>
      obtain rfl : K = false := hK
      obtain rfl : V = false := hV
      go_enter Tryz.func21, Tryz.ntmps21
      go_wp2_with fail
      refine (C1.out _ HR0.out).mono ?_
      rintro e w1 ⟨rfl, hw1⟩
      have o1 := o0.below hw1
      obtain ⟨x0, x1⟩ := o1.at
      go_wp2_with fail
      refine (C2.out _).mono ?_
      rintro e w2 ⟨rfl, hw2⟩
      go_wp2_with fail
      go_ret2
      exact ⟨rfl, ball (ball hb0 hw1) hw2⟩
    case true =>
      obtain rfl : K = true := hK
      obtain rfl : V = H := hV
      go_enter Tryz.func21, Tryz.ntmps21
      go_wp2_with fail
      refine (C1.out _ HR0.out).mono ?_
      rintro e w1 ⟨rfl, hw1⟩
      have o1 := o0.below hw1
      obtain ⟨x0, x1⟩ := o1.at
      have HR1 := Lib.hid (HR0.out.below hw1)
      go_wp2_with fail
      refine (C2.out _).mono ?_
      rintro e w2 ⟨rfl, hw2⟩
      have o2 := o1.below hw2
      obtain ⟨y0, y1⟩ := o2.at
      clear x0 x1
      have HR2 := Lib.hid (HR1.out.below hw2)
      go_wp2_with fail
      refine (C3.out trivial trivial _ HR2.out).mono ?_
      rintro e w3 ⟨rfl, hw3⟩
      go_wp2_with fail
      go_ret2
      exact ⟨rfl, ball (ball (ball hb0 hw1) hw2) hw3⟩
end Go.Proofs.YtnapcjfemlhkmaaGreatDoor

/-
  HasPoint of the program. Printed by gen_huI.py. By an AI agent.
-/
namespace Go.Proofs.YtnapcjfemlhkmaaGreatDoor
open Go.RowKit

structure HiI (b off cap g : Nat) (ax ay cx cy px py i1 j1 i2 j2 : Int) (W : World) (L : Nat → Bool) (w : World) (s6 s7 s29 s30 s31 s32 s33 s34 s35 s36 s37 s38 : Value) : Prop where
  bel : Below W.heap.size W w
  p0 : L 0 = true → s29 = .agg #[.int .i64 px, .int .i64 py]
  p1 : L 1 = true → s30 = .slice (some ⟨b, off, none⟩) 2 cap
  p2 : L 2 = true → s31 = .pointer (some ⟨b, off, none⟩)
  p3 : L 3 = true → s32 = .agg #[.int .i64 ax, .int .i64 ay]
  p4 : L 4 = true → s33 = .agg #[.int .i64 i1, .int .i64 j1]
  p5 : L 5 = true → s34 = .agg #[.int .i64 px, .int .i64 py]
  p6 : L 6 = true → s35 = .slice (some ⟨b, off, none⟩) 2 cap
  p7 : L 7 = true → s36 = .pointer (some ⟨b, off + 2, none⟩)
  p8 : L 8 = true → s37 = .agg #[.int .i64 cx, .int .i64 cy]
  p9 : L 9 = true → s38 = .agg #[.int .i64 i2, .int .i64 j2]
  a0 : L 10 = true → ∃ (T : Nat) (x0 x1 : Int), s6 = .pointer (some ⟨T, 0, none⟩) ∧ W.heap.size ≤ T ∧ Own w T 30 [.int .i64 x0, .int .i64 x1] ∧ (L 12 = true → x0 = i1 ∧ x1 = j1)
  c0 : L 12 = true → L 10 = true
  a1 : L 11 = true → ∃ (T : Nat) (x0 x1 : Int), s7 = .pointer (some ⟨T, 0, none⟩) ∧ W.heap.size ≤ T ∧ Own w T 30 [.int .i64 x0, .int .i64 x1] ∧ (L 13 = true → x0 = i2 ∧ x1 = j2)
  c1 : L 13 = true → L 11 = true
  d01 : L 10 = true → L 11 = true → s6 ≠ s7
theorem HiI.mono {b off cap g : Nat} {ax ay cx cy px py i1 j1 i2 j2 : Int} {W w w' : World} {L : Nat → Bool} {s6 s7 s29 s30 s31 s32 s33 s34 s35 s36 s37 s38 : Value} (h : HiI b off cap g ax ay cx cy px py i1 j1 i2 j2 W L w s6 s7 s29 s30 s31 s32 s33 s34 s35 s36 s37 s38) (hb : Below w.heap.size w w') : HiI b off cap g ax ay cx cy px py i1 j1 i2 j2 W L w' s6 s7 s29 s30 s31 s32 s33 s34 s35 s36 s37 s38 :=
  ⟨ball h.bel hb, (fun e => h.p0 e), (fun e => h.p1 e), (fun e => h.p2 e), (fun e => h.p3 e), (fun e => h.p4 e), (fun e => h.p5 e), (fun e => h.p6 e), (fun e => h.p7 e), (fun e => h.p8 e), (fun e => h.p9 e), (fun e => let ⟨T, x0, x1, a, b, c, d⟩ := h.a0 e; ⟨T, x0, x1, a, b, c.belowAll hb, d⟩), (fun e => h.c0 e), (fun e => let ⟨T, x0, x1, a, b, c, d⟩ := h.a1 e; ⟨T, x0, x1, a, b, c.belowAll hb, d⟩), (fun e => h.c1 e), (fun e e2 => h.d01 e e2)⟩
/-- two points in new memory. -/
def TwoP (W : World) (i1 j1 i2 j2 : Int) (s6 s7 : Value) (wc : World) : Prop := ∃ P0 P1 : Nat, s6 = .pointer (some ⟨P0, 0, none⟩) ∧ s7 = .pointer (some ⟨P1, 0, none⟩) ∧ Own wc P0 30 [.int .i64 i1, .int .i64 j1] ∧ Own wc P1 30 [.int .i64 i2, .int .i64 j2] ∧ Below W.heap.size W wc
set_option maxHeartbeats 6400000 in
set_option maxRecDepth 100000 in
theorem iHas2_c (b off cap : Nat) (ax ay cx cy px py i1 j1 i2 j2 Z m1 m2 m3 : Int) (u1 u2 : Bool) (w : World) (hr : RdP w (some ⟨b, off, none⟩) [⟨ax, ay⟩, ⟨cx, cy⟩])
    (cpol : ∀ w, RdP w (some ⟨b, off, none⟩) [⟨ax, ay⟩, ⟨cx, cy⟩] → Calls Tryz.prog 29 #[.slice (some ⟨b, off, none⟩) 2 cap] w fun e w' => e = .returned (.bool true) ∧ Below w.heap.size w w')
    (cpt : ∀ w, Calls Tryz.prog 30 #[.agg #[.int .i64 px, .int .i64 py]] w fun e w' => e = .returned (.bool true) ∧ Below w.heap.size w w')
    (cm1 : ∀ w, Calls Tryz.prog 31 #[.agg #[.int .i64 px, .int .i64 py], .agg #[.int .i64 ax, .int .i64 ay]] w fun e w' => e = .returned (.agg #[.int .i64 i1, .int .i64 j1]) ∧ Below w.heap.size w w')
    (cm2 : ∀ w, Calls Tryz.prog 31 #[.agg #[.int .i64 px, .int .i64 py], .agg #[.int .i64 cx, .int .i64 cy]] w fun e w' => e = .returned (.agg #[.int .i64 i2, .int .i64 j2]) ∧ Below w.heap.size w w')
    (cc : ∀ w, Calls Tryz.prog 32 #[.agg #[.int .i64 i1, .int .i64 j1], .agg #[.int .i64 i2, .int .i64 j2]] w fun e w' => e = .returned (.int .i64 Z) ∧ Below w.heap.size w w')
    (hZ : (Z == 0) = u1) (h1 : IntKind.i64.wrap (i1 * i2) = m1) (h2 : IntKind.i64.wrap (j1 * j2) = m2) (h3 : IntKind.i64.wrap (m1 + m2) = m3) (h4 : decide (m3 ≤ 0) = u2) :
    Calls Tryz.prog 9 #[.slice (some ⟨b, off, none⟩) 2 cap, .agg #[.int .i64 px, .int .i64 py]] w fun e w' => e = .returned (.tuple #[.bool (u1 && u2), .bool true]) ∧ Below w.heap.size w w' := by
  have HR := Lib.hid hr
  have C1 := Lib.hid cpol; have C2 := Lib.hid cpt; have CM1 := Lib.hid cm1; have CM2 := Lib.hid cm2; have CC := Lib.hid cc; clear cpol cpt cm1 cm2 cc hr
  have HF := Lib.hid (And.intro hZ (And.intro h1 (And.intro h2 (And.intro h3 h4)))); clear hZ h1 h2 h3 h4
  obtain ⟨g, hg⟩ : ∃ g, w.heap.size = g := ⟨_, rfl⟩
  have o0 := PtO.new w px py hg.symm
  have hb0 : Below w.heap.size w (w.alloc (.cells #[.int .i64 px, .int .i64 py] 30)) := (Below.refl _ _).alloc (Nat.le_refl _) _
  have HR0 := Lib.hid (HR.out.below hb0)
  go_enter Tryz.func9, Tryz.ntmps9
  go_wp2_with fail
  refine (C1.out _ HR0.out).mono ?_
  rintro e w1 ⟨rfl, hw1⟩
  have hb1 := ball hb0 hw1
  have o1 := o0.below hw1
  have HR1 := Lib.hid (HR0.out.below hw1)
  obtain ⟨z0, z1⟩ := o1.at
  clear o0 hw1 HR0 hb0
  go_wp2_with fail
  refine (C2.out _).mono ?_
  rintro e W ⟨rfl, hw2⟩
  have hb2 := ball hb1 hw2
  have o2 := o1.below hw2
  have hr2 := HR1.out.below hw2
  clear z0 z1
  obtain ⟨z0, z1⟩ := o2.at
  obtain ⟨c0, c1⟩ := hr2.at (j := 0) (by simp)
  obtain ⟨c2, c3⟩ := hr2.at (j := 1) (by simp)
  obtain ⟨b', off', eb, hbl⟩ := hr2.some (by simp)
  obtain ⟨rfl, rfl⟩ : b = b' ∧ off = off' := by simpa using eb
  clear eb hr2
  simp only [List.getD_cons_zero, List.getD_cons_succ, Nat.zero_mul, Nat.add_zero, Nat.one_mul] at c0 c1 c2 c3
  have Fa0 := Lib.hid (And.intro hbl c0); have Fa1 := Lib.hid (And.intro hbl c1)
  have Fc0 := Lib.hid (And.intro hbl c2); have Fc1 := Lib.hid (And.intro hbl c3)
  have Fp0 := Lib.hid (And.intro o2.lt z0); have Fp1 := Lib.hid (And.intro o2.lt z1)
  clear c0 c1 c2 c3 z0 z1 o1 o2 hbl HR1 hb1 hw2
  go_wp2_with fail
  go_cut [6, 7] from 6 to 38 (fun s6 s7 wc => TwoP W i1 j1 i2 j2 s6 s7 wc)
  case first =>
    refine wp_region_inv (fun L ac w' => ∃ s6 s7 s29 s30 s31 s32 s33 s34 s35 s36 s37 s38, ac = { tmps := #[.slice (some ⟨b, off, none⟩) 2 cap, .agg #[.int .i64 px, .int .i64 py], undef, .pointer (some ⟨g, 0, none⟩), .bool false, .bool false, s6, s7, undef, undef, .slice (some ⟨b, off, none⟩) 2 cap, .bool true, .bool false, .bool false, .agg #[.int .i64 px, .int .i64 py], .bool true, .bool false, .bool false, .slice (some ⟨b, off, none⟩) 2 cap, .int .i64 2, .bool false, undef, undef, undef, undef, undef, .slice (some ⟨b, off, none⟩) 2 cap, .int .i64 2, .bool true, s29, s30, s31, s32, s33, s34, s35, s36, s37, s38, undef, undef, undef, undef, undef, undef, undef, undef, undef, undef, undef, undef, undef, undef, undef, undef, undef, undef, undef, undef, undef, undef, undef, undef, undef, undef, undef, undef, undef, undef, undef, undef, undef], defers := [] } ∧ HiI b off cap g ax ay cx cy px py i1 j1 i2 j2 W L w' s6 s7 s29 s30 s31 s32 s33 s34 s35 s36 s37 s38) (by kernel_rfl) (by kernel_rfl) ?_ ?_ ?_
    · exact ⟨_, _, _, _, _, _, _, _, _, _, _, _, rfl, (Below.refl _ _).drew, (fun e => by cases e), (fun e => by cases e), (fun e => by cases e), (fun e => by cases e), (fun e => by cases e), (fun e => by cases e), (fun e => by cases e), (fun e => by cases e), (fun e => by cases e), (fun e => by cases e), (fun e => by cases e), (fun e => by cases e), (fun e => by cases e), (fun e => by cases e), (fun e => by cases e)⟩
    · rintro L ac w' ⟨s6, s7, s29, s30, s31, s32, s33, s34, s35, s36, s37, s38, rfl, H⟩ hL
      obtain ⟨T0, x00, x01, rfl, hT0, hO0, e0⟩ := H.a0 (hL 10 (by decide))
      obtain ⟨g00, g01⟩ := e0 (hL 12 (by decide))
      rw [g00, g01] at hO0
      obtain ⟨T1, x10, x11, rfl, hT1, hO1, e1⟩ := H.a1 (hL 11 (by decide))
      obtain ⟨g10, g11⟩ := e1 (hL 13 (by decide))
      rw [g10, g11] at hO1
      have HREL := Lib.hid (show TwoP W i1 j1 i2 j2 (.pointer (some ⟨T0, 0, none⟩)) (.pointer (some ⟨T1, 0, none⟩)) w' from ⟨T0, T1, rfl, rfl, hO0, hO1, H.bel⟩)
      clear H hL hO0 e0 g00 g01 hO1 e1 g10 g11
      go_wp2_with fail
      go_meet
      exact HREL.out
    · rintro i L ac w' ⟨s6, s7, s29, s30, s31, s32, s33, s34, s35, s36, s37, s38, rfl, H⟩ hi hL hw
      have hi : i < 14 := hi
      have HH := Lib.hid H; have HWt := Lib.hid hw
      clear H hw
      rcases (show i = 0 ∨ i = 1 ∨ i = 2 ∨ i = 3 ∨ i = 4 ∨ i = 5 ∨ i = 6 ∨ i = 7 ∨ i = 8 ∨ i = 9 ∨ i = 10 ∨ i = 11 ∨ i = 12 ∨ i = 13 by omega) with rfl | rfl | rfl | rfl | rfl | rfl | rfl | rfl | rfl | rfl | rfl | rfl | rfl | rfl
      · refine' wpOp_step (o := ?oHi_0) ?hoHi_0 (fun K hK => ?stHi_0)
        case hoHi_0 => rfl
        case stHi_0 =>
          have HK := Lib.hid hK; clear hK
          have q0 := bcellP HH.out.bel Fp0.out
          have q1 := bcellP HH.out.bel Fp1.out
          go_simp
          refine HK.out _ _ ⟨_, _, _, _, _, _, _, _, _, _, _, _, rfl, ?_⟩
          have h := HH.out
          exact ⟨h.bel, (fun _ => rfl), (fun e => h.p1 e), (fun e => h.p2 e), (fun e => h.p3 e), (fun e => h.p4 e), (fun e => h.p5 e), (fun e => h.p6 e), (fun e => h.p7 e), (fun e => h.p8 e), (fun e => h.p9 e), (fun e => h.a0 e), (fun e => h.c0 e), (fun e => h.a1 e), (fun e => h.c1 e), (fun e e2 => h.d01 e e2)⟩
      · refine' wpOp_step (o := ?oHi_1) ?hoHi_1 (fun K hK => ?stHi_1)
        case hoHi_1 => rfl
        case stHi_1 =>
          have HK := Lib.hid hK; clear hK
          go_simp
          refine HK.out _ _ ⟨_, _, _, _, _, _, _, _, _, _, _, _, rfl, ?_⟩
          have h := HH.out
          exact ⟨h.bel, (fun e => h.p0 e), (fun _ => rfl), (fun e => h.p2 e), (fun e => h.p3 e), (fun e => h.p4 e), (fun e => h.p5 e), (fun e => h.p6 e), (fun e => h.p7 e), (fun e => h.p8 e), (fun e => h.p9 e), (fun e => h.a0 e), (fun e => h.c0 e), (fun e => h.a1 e), (fun e => h.c1 e), (fun e e2 => h.d01 e e2)⟩
      · refine' wpOp_step (o := ?oHi_2) ?hoHi_2 (fun K hK => ?stHi_2)
        case hoHi_2 => rfl
        case stHi_2 =>
          have HK := Lib.hid hK; clear hK
          obtain rfl := HH.out.p1 (HWt.out 1 (by kernel_rfl))
          go_simp
          refine HK.out _ _ ⟨_, _, _, _, _, _, _, _, _, _, _, _, rfl, ?_⟩
          have h := HH.out
          exact ⟨h.bel, (fun e => h.p0 e), (fun e => h.p1 e), (fun _ => rfl), (fun e => h.p3 e), (fun e => h.p4 e), (fun e => h.p5 e), (fun e => h.p6 e), (fun e => h.p7 e), (fun e => h.p8 e), (fun e => h.p9 e), (fun e => h.a0 e), (fun e => h.c0 e), (fun e => h.a1 e), (fun e => h.c1 e), (fun e e2 => h.d01 e e2)⟩
      · refine' wpOp_step (o := ?oHi_3) ?hoHi_3 (fun K hK => ?stHi_3)
        case hoHi_3 => rfl
        case stHi_3 =>
          have HK := Lib.hid hK; clear hK
          obtain rfl := HH.out.p2 (HWt.out 2 (by kernel_rfl))
          have q0 := bcellP HH.out.bel Fa0.out
          have q1 := bcellP HH.out.bel Fa1.out
          go_simp
          refine HK.out _ _ ⟨_, _, _, _, _, _, _, _, _, _, _, _, rfl, ?_⟩
          have h := HH.out
          exact ⟨h.bel, (fun e => h.p0 e), (fun e => h.p1 e), (fun e => h.p2 e), (fun _ => rfl), (fun e => h.p4 e), (fun e => h.p5 e), (fun e => h.p6 e), (fun e => h.p7 e), (fun e => h.p8 e), (fun e => h.p9 e), (fun e => h.a0 e), (fun e => h.c0 e), (fun e => h.a1 e), (fun e => h.c1 e), (fun e e2 => h.d01 e e2)⟩
      · refine' wpOp_step (o := ?oHi_4) ?hoHi_4 (fun K hK => ?stHi_4)
        case hoHi_4 => rfl
        case stHi_4 =>
          have HK := Lib.hid hK; clear hK
          obtain rfl := HH.out.p0 (HWt.out 0 (by kernel_rfl))
          obtain rfl := HH.out.p3 (HWt.out 3 (by kernel_rfl))
          go_simp
          go_at_call 31; (refine (CM1.out _).mono ?_); rintro e wC ⟨rfl, hwC⟩
          refine HK.out _ _ ⟨_, _, _, _, _, _, _, _, _, _, _, _, rfl, ?_⟩
          have h := HH.out.mono hwC
          exact ⟨h.bel, (fun e => h.p0 e), (fun e => h.p1 e), (fun e => h.p2 e), (fun e => h.p3 e), (fun _ => rfl), (fun e => h.p5 e), (fun e => h.p6 e), (fun e => h.p7 e), (fun e => h.p8 e), (fun e => h.p9 e), (fun e => h.a0 e), (fun e => h.c0 e), (fun e => h.a1 e), (fun e => h.c1 e), (fun e e2 => h.d01 e e2)⟩
      · refine' wpOp_step (o := ?oHi_5) ?hoHi_5 (fun K hK => ?stHi_5)
        case hoHi_5 => rfl
        case stHi_5 =>
          have HK := Lib.hid hK; clear hK
          have q0 := bcellP HH.out.bel Fp0.out
          have q1 := bcellP HH.out.bel Fp1.out
          go_simp
          refine HK.out _ _ ⟨_, _, _, _, _, _, _, _, _, _, _, _, rfl, ?_⟩
          have h := HH.out
          exact ⟨h.bel, (fun e => h.p0 e), (fun e => h.p1 e), (fun e => h.p2 e), (fun e => h.p3 e), (fun e => h.p4 e), (fun _ => rfl), (fun e => h.p6 e), (fun e => h.p7 e), (fun e => h.p8 e), (fun e => h.p9 e), (fun e => h.a0 e), (fun e => h.c0 e), (fun e => h.a1 e), (fun e => h.c1 e), (fun e e2 => h.d01 e e2)⟩
      · refine' wpOp_step (o := ?oHi_6) ?hoHi_6 (fun K hK => ?stHi_6)
        case hoHi_6 => rfl
        case stHi_6 =>
          have HK := Lib.hid hK; clear hK
          go_simp
          refine HK.out _ _ ⟨_, _, _, _, _, _, _, _, _, _, _, _, rfl, ?_⟩
          have h := HH.out
          exact ⟨h.bel, (fun e => h.p0 e), (fun e => h.p1 e), (fun e => h.p2 e), (fun e => h.p3 e), (fun e => h.p4 e), (fun e => h.p5 e), (fun _ => rfl), (fun e => h.p7 e), (fun e => h.p8 e), (fun e => h.p9 e), (fun e => h.a0 e), (fun e => h.c0 e), (fun e => h.a1 e), (fun e => h.c1 e), (fun e e2 => h.d01 e e2)⟩
      · refine' wpOp_step (o := ?oHi_7) ?hoHi_7 (fun K hK => ?stHi_7)
        case hoHi_7 => rfl
        case stHi_7 =>
          have HK := Lib.hid hK; clear hK
          obtain rfl := HH.out.p6 (HWt.out 6 (by kernel_rfl))
          go_simp
          refine HK.out _ _ ⟨_, _, _, _, _, _, _, _, _, _, _, _, rfl, ?_⟩
          have h := HH.out
          exact ⟨h.bel, (fun e => h.p0 e), (fun e => h.p1 e), (fun e => h.p2 e), (fun e => h.p3 e), (fun e => h.p4 e), (fun e => h.p5 e), (fun e => h.p6 e), (fun _ => rfl), (fun e => h.p8 e), (fun e => h.p9 e), (fun e => h.a0 e), (fun e => h.c0 e), (fun e => h.a1 e), (fun e => h.c1 e), (fun e e2 => h.d01 e e2)⟩
      · refine' wpOp_step (o := ?oHi_8) ?hoHi_8 (fun K hK => ?stHi_8)
        case hoHi_8 => rfl
        case stHi_8 =>
          have HK := Lib.hid hK; clear hK
          obtain rfl := HH.out.p7 (HWt.out 7 (by kernel_rfl))
          have q0 := bcellP HH.out.bel Fc0.out
          have q1 := bcellP HH.out.bel Fc1.out
          go_simp
          refine HK.out _ _ ⟨_, _, _, _, _, _, _, _, _, _, _, _, rfl, ?_⟩
          have h := HH.out
          exact ⟨h.bel, (fun e => h.p0 e), (fun e => h.p1 e), (fun e => h.p2 e), (fun e => h.p3 e), (fun e => h.p4 e), (fun e => h.p5 e), (fun e => h.p6 e), (fun e => h.p7 e), (fun _ => rfl), (fun e => h.p9 e), (fun e => h.a0 e), (fun e => h.c0 e), (fun e => h.a1 e), (fun e => h.c1 e), (fun e e2 => h.d01 e e2)⟩
      · refine' wpOp_step (o := ?oHi_9) ?hoHi_9 (fun K hK => ?stHi_9)
        case hoHi_9 => rfl
        case stHi_9 =>
          have HK := Lib.hid hK; clear hK
          obtain rfl := HH.out.p5 (HWt.out 5 (by kernel_rfl))
          obtain rfl := HH.out.p8 (HWt.out 8 (by kernel_rfl))
          go_simp
          go_at_call 31; (refine (CM2.out _).mono ?_); rintro e wC ⟨rfl, hwC⟩
          refine HK.out _ _ ⟨_, _, _, _, _, _, _, _, _, _, _, _, rfl, ?_⟩
          have h := HH.out.mono hwC
          exact ⟨h.bel, (fun e => h.p0 e), (fun e => h.p1 e), (fun e => h.p2 e), (fun e => h.p3 e), (fun e => h.p4 e), (fun e => h.p5 e), (fun e => h.p6 e), (fun e => h.p7 e), (fun e => h.p8 e), (fun _ => rfl), (fun e => h.a0 e), (fun e => h.c0 e), (fun e => h.a1 e), (fun e => h.c1 e), (fun e e2 => h.d01 e e2)⟩
      · refine' wpOp_step (o := ?oHi_10) ?hoHi_10 (fun K hK => ?stHi_10)
        case hoHi_10 => rfl
        case stHi_10 =>
          have HK := Lib.hid hK; clear hK
          go_simp
          refine HK.out _ _ ⟨_, _, _, _, _, _, _, _, _, _, _, _, rfl, ?_⟩
          have h := HH.out.mono (bal_alloc (o := .cells #[.int .i64 0, .int .i64 0] 30) (Below.refl _ _))
          exact ⟨h.bel, (fun e => h.p0 e), (fun e => h.p1 e), (fun e => h.p2 e), (fun e => h.p3 e), (fun e => h.p4 e), (fun e => h.p5 e), (fun e => h.p6 e), (fun e => h.p7 e), (fun e => h.p8 e), (fun e => h.p9 e), (fun _ => ⟨_, 0, 0, rfl, HH.out.bel.size, Own.newHG _ _ _ rfl rfl, fun e9 => (no_up hL (h.c0 e9)).elim⟩), (fun _ => rfl), (fun e => h.a1 e), (fun e => h.c1 e), (fun e e2 => by obtain ⟨T, _, _, h1, _, h3, _⟩ := HH.out.a1 e2; have := Own.lt h3; intro h4; rw [h1] at h4; simp only [Value.pointer.injEq, Option.some.injEq, Addr.mk.injEq] at h4; omega)⟩
      · refine' wpOp_step (o := ?oHi_11) ?hoHi_11 (fun K hK => ?stHi_11)
        case hoHi_11 => rfl
        case stHi_11 =>
          have HK := Lib.hid hK; clear hK
          go_simp
          refine HK.out _ _ ⟨_, _, _, _, _, _, _, _, _, _, _, _, rfl, ?_⟩
          have h := HH.out.mono (bal_alloc (o := .cells #[.int .i64 0, .int .i64 0] 30) (Below.refl _ _))
          exact ⟨h.bel, (fun e => h.p0 e), (fun e => h.p1 e), (fun e => h.p2 e), (fun e => h.p3 e), (fun e => h.p4 e), (fun e => h.p5 e), (fun e => h.p6 e), (fun e => h.p7 e), (fun e => h.p8 e), (fun e => h.p9 e), (fun e => h.a0 e), (fun e => h.c0 e), (fun _ => ⟨_, 0, 0, rfl, HH.out.bel.size, Own.newHG _ _ _ rfl rfl, fun e9 => (no_up hL (h.c1 e9)).elim⟩), (fun _ => rfl), (fun e e2 => by obtain ⟨T, _, _, h1, _, h3, _⟩ := HH.out.a0 e; have := Own.lt h3; intro h4; rw [h1] at h4; simp only [Value.pointer.injEq, Option.some.injEq, Addr.mk.injEq] at h4; omega)⟩
      · refine' wpOp_step (o := ?oHi_12) ?hoHi_12 (fun K hK => ?stHi_12)
        case hoHi_12 => rfl
        case stHi_12 =>
          have HK := Lib.hid hK; clear hK
          obtain rfl := HH.out.p4 (HWt.out 4 (by kernel_rfl))
          obtain ⟨T, x0, x1, rfl, hT, hO, -⟩ := HH.out.a0 (HWt.out 10 (by kernel_rfl))
          have y0 := hO.cell? (i := 0) rfl; have z0 := hO.frozen 0
          have y1 := hO.cell? (i := 1) rfl; have z1 := hO.frozen 1
          have HO := Lib.hid hO; clear hO
          go_simp
          refine HK.out _ _ ⟨_, _, _, _, _, _, _, _, _, _, _, _, rfl, ?_⟩
          have h := HH.out
          have hO := HO.out
          exact ⟨bel_set (bel_set (h.bel) hT) hT, (fun e => h.p0 e), (fun e => h.p1 e), (fun e => h.p2 e), (fun e => h.p3 e), (fun e => h.p4 e), (fun e => h.p5 e), (fun e => h.p6 e), (fun e => h.p7 e), (fun e => h.p8 e), (fun e => h.p9 e), (fun _ => ⟨T, _, _, rfl, hT, (Own.set (Own.set hO 0 (.int .i64 (i1))) 1 (.int .i64 (j1))), fun _ => ⟨rfl, rfl⟩⟩), (fun _ => HWt.out 10 (by kernel_rfl)), (fun e => let ⟨t, x0, x1, a', b', c', d'⟩ := h.a1 e; have hne : t ≠ T := (fun e9 => h.d01 (HWt.out 10 (by kernel_rfl)) e (by rw [a', e9])); ⟨t, x0, x1, a', b', (Own.sO hne (Own.sO hne c' _) _), d'⟩), (fun e => h.c1 e), (fun e e2 => h.d01 e e2)⟩
      · refine' wpOp_step (o := ?oHi_13) ?hoHi_13 (fun K hK => ?stHi_13)
        case hoHi_13 => rfl
        case stHi_13 =>
          have HK := Lib.hid hK; clear hK
          obtain rfl := HH.out.p9 (HWt.out 9 (by kernel_rfl))
          obtain ⟨T, x0, x1, rfl, hT, hO, -⟩ := HH.out.a1 (HWt.out 11 (by kernel_rfl))
          have y0 := hO.cell? (i := 0) rfl; have z0 := hO.frozen 0
          have y1 := hO.cell? (i := 1) rfl; have z1 := hO.frozen 1
          have HO := Lib.hid hO; clear hO
          go_simp
          refine HK.out _ _ ⟨_, _, _, _, _, _, _, _, _, _, _, _, rfl, ?_⟩
          have h := HH.out
          have hO := HO.out
          exact ⟨bel_set (bel_set (h.bel) hT) hT, (fun e => h.p0 e), (fun e => h.p1 e), (fun e => h.p2 e), (fun e => h.p3 e), (fun e => h.p4 e), (fun e => h.p5 e), (fun e => h.p6 e), (fun e => h.p7 e), (fun e => h.p8 e), (fun e => h.p9 e), (fun e => let ⟨t, x0, x1, a', b', c', d'⟩ := h.a0 e; have hne : t ≠ T := (fun e9 => h.d01 e (HWt.out 11 (by kernel_rfl)) (by rw [a', e9])); ⟨t, x0, x1, a', b', (Own.sO hne (Own.sO hne c' _) _), d'⟩), (fun e => h.c0 e), (fun _ => ⟨T, _, _, rfl, hT, (Own.set (Own.set hO 0 (.int .i64 (i2))) 1 (.int .i64 (j2))), fun _ => ⟨rfl, rfl⟩⟩), (fun _ => HWt.out 11 (by kernel_rfl)), (fun e e2 => h.d01 e e2)⟩
  case rest =>
    obtain ⟨P0, P1, rfl, rfl, hQ0, hQ1, hbel⟩ := hcut
    obtain ⟨W4, rfl⟩ : ∃ y : World, y = wc := ⟨_, rfl⟩
    have hb4 := ball hb2 hbel
    have m4 := hQ0.cell? (i := 0) rfl
    have m5 := hQ0.cell? (i := 1) rfl
    have m6 := hQ1.cell? (i := 0) rfl
    have m7 := hQ1.cell? (i := 1) rfl
    have lP0 := hQ0.lt
    have lP1 := hQ1.lt
    obtain ⟨hZ, h1, h2, h3, h4⟩ := HF.out
    clear hQ0 hQ1 Fa0 Fa1 Fc0 Fc1 Fp0 Fp1
    cases u1
    case false =>
      go_wp2_with fail
      refine (CC.out _).mono ?_
      rintro e w5 ⟨rfl, hw5⟩
      go_wp2_with fail
      go_ret2
      exact ⟨rfl, ball hb4 hw5⟩
    case true =>
      go_wp2_with fail
      refine (CC.out _).mono ?_
      rintro e w5 ⟨rfl, hw5⟩
      have n4 := bcell hw5 lP0 m4
      have n5 := bcell hw5 lP0 m5
      have n6 := bcell hw5 lP1 m6
      have n7 := bcell hw5 lP1 m7
      clear m4 m5 m6 m7
      go_wp2_with fail
      go_ret2
      exact ⟨by rw [Bool.true_and]; rfl, ball hb4 hw5⟩

end Go.Proofs.YtnapcjfemlhkmaaGreatDoor

/-
  HasPoint of the program: the whole. By an AI agent.
-/
namespace Go.Proofs.YtnapcjfemlhkmaaGreatDoor
open Go.RowKit

set_option maxHeartbeats 6400000 in
set_option maxRecDepth 100000 in
theorem iHasPoint_c (ad : Option Addr) (cap : Nat) (l : List Pt) (px py : Int) (w : World) (hr : RdP w ad l) (hl : l.length ≤ 1048576) :
    Calls Tryz.prog 9 #[.slice ad l.length cap, .agg #[.int .i64 px, .int .i64 py]] w fun e w' => e = .returned (.tuple #[.bool (hasV l ⟨px, py⟩), .bool (hasK l ⟨px, py⟩)]) ∧ Below w.heap.size w w' := by
  have c1 := fun w hr => isPolygon_c ad cap l w hr hl
  have c2 := fun w => isPoint_c ⟨px, py⟩ w
  unfold ptV at c2
  simp only at c2
  have hK : hasK l ⟨px, py⟩ = (polyB l && ptB ⟨px, py⟩) := rfl
  have hV : hasV l ⟨px, py⟩ = (hasK l ⟨px, py⟩ && Geo.hasB l ⟨px, py⟩) := rfl
  have hpo := fun (h : polyB l = true) => ptsB_t (polyB_ptsH h)
  have hpt := fun (h : ptB ⟨px, py⟩ = true) => ptB_bdH h
  generalize hasV l ⟨px, py⟩ = V at hV ⊢
  generalize hasK l ⟨px, py⟩ = K at hK hV ⊢
  generalize polyB l = u at c1 hK hpo
  generalize ptB ⟨px, py⟩ = v at c2 hK hpt
  simp only at hpt
  have HR := Lib.hid hr; clear hr
  have hb0 : Below w.heap.size w (w.alloc (.cells #[.int .i64 px, .int .i64 py] 30)) := (Below.refl _ _).alloc (Nat.le_refl _) _
  obtain ⟨g, hg⟩ : ∃ g, w.heap.size = g := ⟨_, rfl⟩
  have o0 := PtO.new w px py hg.symm
  have HR0 := Lib.hid (HR.out.below hb0)
  cases u
  case false =>
    obtain rfl : K = false := hK
    obtain rfl : V = false := hV
    have C1 := Lib.hid c1
    clear o0 c1 c2
    go_enter Tryz.func9, Tryz.ntmps9
    go_wp2_with fail
    refine (C1.out _ HR0.out).mono ?_
    rintro e w1 ⟨rfl, hw1⟩
    go_wp2_with fail
    go_ret2
    exact ⟨rfl, ball hb0 hw1⟩
  case true =>
    cases v
    case false =>
      obtain rfl : K = false := hK
      obtain rfl : V = false := hV
      have C1 := Lib.hid c1; have C2 := Lib.hid c2
      clear c1 c2
      go_enter Tryz.func9, Tryz.ntmps9
      go_wp2_with fail
      refine (C1.out _ HR0.out).mono ?_
      rintro e w1 ⟨rfl, hw1⟩
      have o1 := o0.below hw1
      obtain ⟨x0, x1⟩ := o1.at
      go_wp2_with fail
      refine (C2.out _).mono ?_
      rintro e w2 ⟨rfl, hw2⟩
      go_wp2_with fail
      go_ret2
      exact ⟨rfl, ball (ball hb0 hw1) hw2⟩
    case true =>
      obtain rfl : K = true := hK
      obtain rfl : V = Geo.hasB l ⟨px, py⟩ := hV
      obtain ⟨hl0, hl40, hs⟩ := hpo rfl
      have hpb := hpt rfl
      clear hpo hpt
      have hps : Sh ⟨px, py⟩ := ⟨by show _ ≤ px; omega, by show px ≤ _; omega, by show _ ≤ py; omega, by show py ≤ _; omega⟩
      obtain ⟨b, off, rfl, hb⟩ := HR.out.some (by omega)
      by_cases hl1 : l.length = 1
      case pos =>
        obtain ⟨q, rfl⟩ : ∃ q, l = [q] := by
          match l, hl1 with
          | [q], _ => exact ⟨q, rfl⟩
        obtain ⟨qx, qy⟩ := q
        obtain ⟨c0, c3⟩ := HR.out.at (j := 0) (by simp)
        simp only [List.getD_cons_zero, Nat.zero_mul, Nat.add_zero] at c0 c3
        have hv : Geo.hasB [⟨qx, qy⟩] ⟨px, py⟩ = decide ((⟨qx, qy⟩ : Pt) = ⟨px, py⟩) := rfl
        rw [hv]
        simp only [List.length_cons, List.length_nil, Nat.zero_add] at c1 ⊢
        obtain ⟨R, hR⟩ : ∃ R, decide ((⟨qx, qy⟩ : Pt) = ⟨px, py⟩) = R := ⟨_, rfl⟩
        rw [hR]
        have HRR := Lib.hid hR; clear hR hv hs hps hpb hl1 hl0 hl40 hl
        have C1 := Lib.hid c1; have C2 := Lib.hid c2
        clear c1 c2
        by_cases hx : qx = px
        · subst hx
          by_cases hy : qy = py
          · subst hy
            obtain rfl : R = true := HRR.out.symm.trans (decide_eq_true rfl)
            go_enter Tryz.func9, Tryz.ntmps9
            go_wp2_with fail
            refine (C1.out _ HR0.out).mono ?_
            rintro e w1 ⟨rfl, hw1⟩
            have o1 := o0.below hw1
            obtain ⟨x0, x1⟩ := o1.at
            go_wp2_with fail
            refine (C2.out _).mono ?_
            rintro e w2 ⟨rfl, hw2⟩
            have o2 := o1.below hw2
            have hb2 := ball (ball hb0 hw1) hw2
            clear x0 x1
            obtain ⟨x0, x1⟩ := o2.at
            have d0 := bcell hb2 hb c0
            have d1 := bcell hb2 hb c3
            clear c0 c3
            go_wp2_with fail
            go_quiet (fail)
            go_wp2_with fail
            go_ret2
            exact ⟨rfl, bdrewN hb2 _⟩
          · obtain rfl : R = false := HRR.out.symm.trans (decide_eq_false (fun e => hy (by injection e)))
            go_enter Tryz.func9, Tryz.ntmps9
            go_wp2_with fail
            refine (C1.out _ HR0.out).mono ?_
            rintro e w1 ⟨rfl, hw1⟩
            have o1 := o0.below hw1
            obtain ⟨x0, x1⟩ := o1.at
            go_wp2_with fail
            refine (C2.out _).mono ?_
            rintro e w2 ⟨rfl, hw2⟩
            have o2 := o1.below hw2
            have hb2 := ball (ball hb0 hw1) hw2
            clear x0 x1
            obtain ⟨x0, x1⟩ := o2.at
            have d0 := bcell hb2 hb c0
            have d1 := bcell hb2 hb c3
            clear c0 c3
            go_wp2_with fail
            go_quiet (fail)
            go_wp2_with fail
            go_ret2
            exact ⟨rfl, bdrewN hb2 _⟩
        · obtain rfl : R = false := HRR.out.symm.trans (decide_eq_false (fun e => hx (by injection e)))
          go_enter Tryz.func9, Tryz.ntmps9
          go_wp2_with fail
          refine (C1.out _ HR0.out).mono ?_
          rintro e w1 ⟨rfl, hw1⟩
          have o1 := o0.below hw1
          obtain ⟨x0, x1⟩ := o1.at
          go_wp2_with fail
          refine (C2.out _).mono ?_
          rintro e w2 ⟨rfl, hw2⟩
          have o2 := o1.below hw2
          have hb2 := ball (ball hb0 hw1) hw2
          clear x0 x1
          obtain ⟨x0, x1⟩ := o2.at
          have d0 := bcell hb2 hb c0
          have d1 := bcell hb2 hb c3
          clear c0 c3
          go_wp2_with fail
          go_quiet (fail)
          go_wp2_with fail
          go_ret2
          exact ⟨rfl, bdrewN hb2 _⟩
      case neg =>
        by_cases hl2 : l.length = 2
        case pos =>
          obtain ⟨a, c, rfl⟩ : ∃ a c, l = [a, c] := by
            match l, hl2 with
            | [a, c], _ => exact ⟨a, c, rfl⟩
          obtain ⟨ax, ay⟩ := a
          obtain ⟨cx, cy⟩ := c
          have hsa : Sh ⟨ax, ay⟩ := hs _ (by simp)
          have hsc : Sh ⟨cx, cy⟩ := hs _ (by simp)
          have hv : Geo.hasB [⟨ax, ay⟩, ⟨cx, cy⟩] ⟨px, py⟩ = Geo.segB ⟨ax, ay⟩ ⟨cx, cy⟩ ⟨px, py⟩ := rfl
          rw [hv, ← Geo.seg_dot]
          simp only at *
          have cm1 := fun w => minus_c ⟨px, py⟩ ⟨ax, ay⟩ w hps.sm hsa.sm
          have cm2 := fun w => minus_c ⟨px, py⟩ ⟨cx, cy⟩ w hps.sm hsc.sm
          have cc := fun w => cross_c (subP ⟨px, py⟩ ⟨ax, ay⟩) (subP ⟨px, py⟩ ⟨cx, cy⟩) w (hps.sub hsa) (hps.sub hsc)
          obtain ⟨a1, a2, a3, a4⟩ := hsa
          obtain ⟨b1, b2, b3, b4⟩ := hsc
          simp only at a1 a2 a3 a4 b1 b2 b3 b4
          have m1 := mulb (K := 600000) (M := 600000) (by omega) (show -600000 ≤ px - ax ∧ px - ax ≤ 600000 by omega) (show -600000 ≤ px - cx ∧ px - cx ≤ 600000 by omega)
          have m2 := mulb (K := 600000) (M := 600000) (by omega) (show -600000 ≤ py - ay ∧ py - ay ≤ 600000 by omega) (show -600000 ≤ py - cy ∧ py - cy ≤ 600000 by omega)
          have e3 : IntKind.i64.wrap ((px - ax) * (px - cx)) = (px - ax) * (px - cx) := i64_small (by omega) (by omega)
          have e7 : IntKind.i64.wrap ((py - ay) * (py - cy)) = (py - ay) * (py - cy) := i64_small (by omega) (by omega)
          have e8 : IntKind.i64.wrap ((px - ax) * (px - cx) + (py - ay) * (py - cy)) = (px - ax) * (px - cx) + (py - ay) * (py - cy) := i64_small (by omega) (by omega)
          unfold ptV subP at cm1 cm2 cc
          unfold crossZ at cc
          simp only at cm1 cm2 cc
          simp only [List.length_cons, List.length_nil, Nat.zero_add] at c1 ⊢
          refine iHas2_c b off cap ax ay cx cy px py _ _ _ _ _ _ _ _ _ _ w HR.out c1 c2 cm1 cm2 cc ?_ e3 e7 e8 rfl
          rw [Bool.eq_iff_iff, beq_iff_eq, decide_eq_true_iff]
        case neg =>
          have hv : Geo.hasB l ⟨px, py⟩ = (List.range l.length).all fun i => decide (0 ≤ turnZ (l.getD i default) (nextP l i) ⟨px, py⟩) := by unfold Geo.hasB; rw [if_neg hl1, if_neg hl2]
          have hvt : (∀ k, k < l.length → 0 ≤ turnZ (l.getD k default) (nextP l k) ⟨px, py⟩) → Geo.hasB l ⟨px, py⟩ = true := fun h => by
            rw [hv, List.all_eq_true]
            exact fun k hk => decide_eq_true (h k (List.mem_range.1 hk))
          have hvf : ∀ k, k < l.length → ¬ 0 ≤ turnZ (l.getD k default) (nextP l k) ⟨px, py⟩ → Geo.hasB l ⟨px, py⟩ = false := fun k hk h => by
            cases e : Geo.hasB l ⟨px, py⟩
            · rfl
            · rw [hv, List.all_eq_true] at e
              exact absurd (of_decide_eq_true (e k (List.mem_range.2 hk))) h
          obtain ⟨R, hR⟩ : ∃ R, Geo.hasB l ⟨px, py⟩ = R := ⟨_, rfl⟩
          rw [hR] at hvt hvf ⊢
          have HVT := Lib.hid hvt; have HVF := Lib.hid hvf; clear hv hvt hvf hR
          have g1 : ((l.length : Int) == 1) = false := beq_eq_false_iff_ne.2 (by omega)
          have g2 : ((l.length : Int) == 2) = false := beq_eq_false_iff_ne.2 (by omega)
          have HG := Lib.hid hg
          have C1 := Lib.hid c1; have C2 := Lib.hid c2
          clear c1 c2 hpb
          go_enter Tryz.func9, Tryz.ntmps9
          go_wp2_with fail
          refine (C1.out _ HR0.out).mono ?_
          rintro e w1 ⟨rfl, hw1⟩
          have o1 := o0.below hw1
          obtain ⟨x0, x1⟩ := o1.at
          clear o0
          go_wp2_with fail
          refine (C2.out _).mono ?_
          rintro e W ⟨rfl, hw2⟩
          have o2 := o1.below hw2
          have hb2 := ball (ball hb0 hw1) hw2
          have HO := Lib.hid o2; have HB0 := Lib.hid hb2
          clear x0 x1 o1 o2 hw1 hw2 hb0 hb2 HR0
          go_wp2_with fail
          clear g1 g2
          go_loopw [59] (fun i wr => ∃ k : Nat, k ≤ l.length ∧ i = .int .i64 k ∧ (∀ j, j < k → 0 ≤ turnZ (l.getD j default) (nextP l j) ⟨px, py⟩) ∧ PtO wr g ⟨px, py⟩ ∧ Below w.heap.size w wr) (fun i _ => l.length - (intOf i).toNat)
          case atStart => exact ⟨0, Nat.zero_le _, rfl, fun j hj => absurd hj (by omega), HO.out, HB0.out⟩
          case round =>
            obtain ⟨wE, rfl⟩ : ∃ x : World, x = wr := ⟨_, rfl⟩
            obtain ⟨k, hk, rfl, hal, hog, hbel⟩ := hrel
            have HAL := Lib.hid hal; clear hal
            by_cases hlt : k < l.length
            case neg =>
              obtain rfl : k = l.length := by omega
              obtain rfl : R = true := HVT.out HAL.out
              clear hog
              go_wp2_with fail
              go_ret2
              exact ⟨rfl, by rw [← HG.out]; exact hbel⟩
            case pos =>
              obtain ⟨c0, c3⟩ := HR.out.at hlt
              have d0 := bcell hbel hb c0
              have d1 := bcell hbel hb c3
              clear c0 c3
              have cn := fun w h => nextI_c (some ⟨b, off, none⟩) cap l k w h (by omega) hlt
              have ct := fun w => turn_c (l.getD k default) (nextP l k) ⟨px, py⟩ w (hs.at hlt) (nextP_sh hs (i := k) (by omega)) hps
              have hvf := HVF.out k hlt
              obtain ⟨T, hT⟩ : ∃ T, turnZ (l.getD k default) (nextP l k) ⟨px, py⟩ = T := ⟨_, rfl⟩
              rw [hT] at ct hvf
              have HT := Lib.hid hT; clear hT
              generalize nextP l k = q at cn ct
              generalize l.getD k default = p at d0 d1 ct
              obtain ⟨ax, ay⟩ := p
              obtain ⟨cx, cy⟩ := q
              unfold ptV at ct cn
              simp only at d0 d1 ct cn
              have CT := Lib.hid ct; have CN := Lib.hid cn; clear ct cn
              have hz := hbel.size
              obtain ⟨wB, hwB⟩ : ∃ x, wE.alloc (.cells #[.int .i64 ax, .int .i64 ay] 30) = x := ⟨_, rfl⟩
              have hEB : Below wE.heap.size wE wB := by rw [← hwB]; exact (Below.refl _ _).alloc (Nat.le_refl _) _
              have b0 : wB.cell? ⟨wE.heap.size, 0, none⟩ = some (.int .i64 ax) := by rw [← hwB]; simp [go_sem]
              have b1 : wB.cell? ⟨wE.heap.size, 1, none⟩ = some (.int .i64 ay) := by rw [← hwB]; simp [go_sem]
              have bl : wE.heap.size < wB.heap.size := by rw [← hwB]; simp
              have og2 := hog.below hEB
              obtain ⟨p0, p1⟩ := og2.at
              have hgl := og2.lt
              have HOG := Lib.hid og2
              have hbB := ball hbel hEB
              have HRB := Lib.hid (HR.out.below (hbB.trans (Below.refl _ _).drew))
              clear og2 hog
              by_cases hneg : T < 0
              case pos =>
                obtain rfl : R = false := hvf (by omega)
                have n1 : decide (T < 0) = true := decide_eq_true hneg
                clear hneg hvf
                go_wp2_with fail
                try rw [hwB]
                clear hwB d0 d1
                go_region_held3 (fun w' => (w'.cell? ⟨wE.heap.size, 0, none⟩ = some (.int .i64 ax) ∧ w'.cell? ⟨wE.heap.size, 1, none⟩ = some (.int .i64 ay)) ∧ (w'.cell? ⟨g, 0, none⟩ = some (.int .i64 px) ∧ w'.cell? ⟨g, 1, none⟩ = some (.int .i64 py))) (exact ⟨⟨by assumption, by assumption⟩, by assumption, by assumption⟩)
                  (first
                    | (go_at_call 34; (with_reducible refine (CN.out _ HRB.out).mono ?_); rintro e W1 ⟨rfl, hw1⟩; have r0 := bcell hw1 bl b0; have r1 := bcell hw1 bl b1; have r2 := bcell hw1 hgl p0; have r3 := bcell hw1 hgl p1; have nz := hw1.size)
                    | (go_at_call 33; (with_reducible refine (CT.out _).mono ?_); rintro e W2 ⟨rfl, hw2⟩; have t0 := bcell hw2 (Nat.lt_of_lt_of_le bl nz) r0; have t1 := bcell hw2 (Nat.lt_of_lt_of_le bl nz) r1; have t2 := bcell hw2 (Nat.lt_of_lt_of_le hgl nz) r2; have t3 := bcell hw2 (Nat.lt_of_lt_of_le hgl nz) r3))
                go_wp2_with fail
                go_ret2
                exact ⟨rfl, ball (ball (hbB.trans (Below.refl _ _).drew) hw1) hw2⟩
              case neg =>
                have n1 : decide (T < 0) = false := decide_eq_false hneg
                have HT0 := Lib.hid (show 0 ≤ T by omega)
                clear hneg hvf
                go_wp2_with fail
                try rw [hwB]
                clear hwB d0 d1
                go_region_held3 (fun w' => (w'.cell? ⟨wE.heap.size, 0, none⟩ = some (.int .i64 ax) ∧ w'.cell? ⟨wE.heap.size, 1, none⟩ = some (.int .i64 ay)) ∧ (w'.cell? ⟨g, 0, none⟩ = some (.int .i64 px) ∧ w'.cell? ⟨g, 1, none⟩ = some (.int .i64 py))) (exact ⟨⟨by assumption, by assumption⟩, by assumption, by assumption⟩)
                  (first
                    | (go_at_call 34; (with_reducible refine (CN.out _ HRB.out).mono ?_); rintro e W1 ⟨rfl, hw1⟩; have r0 := bcell hw1 bl b0; have r1 := bcell hw1 bl b1; have r2 := bcell hw1 hgl p0; have r3 := bcell hw1 hgl p1; have nz := hw1.size)
                    | (go_at_call 33; (with_reducible refine (CT.out _).mono ?_); rintro e W2 ⟨rfl, hw2⟩; have t0 := bcell hw2 (Nat.lt_of_lt_of_le bl nz) r0; have t1 := bcell hw2 (Nat.lt_of_lt_of_le bl nz) r1; have t2 := bcell hw2 (Nat.lt_of_lt_of_le hgl nz) r2; have t3 := bcell hw2 (Nat.lt_of_lt_of_le hgl nz) r3))
                go_wp2_with fail
                go_roundw
                case rel => exact ⟨k + 1, by omega, by go_num, fun i hi => by
                  by_cases hik : i = k
                  · subst hik; rw [HT.out]; exact HT0.out
                  · exact HAL.out i (by omega), (PtO.below (w := wB.drew) HOG.out hw1).below hw2, ball (ball (hbB.trans (Below.refl _ _).drew) hw1) hw2⟩
                case measure => simp [intOf]; omega
end Go.Proofs.YtnapcjfemlhkmaaGreatDoor
