/-
  Corners and roots asked for, how often a fraction is a root, comparing: program and reference. Printed by gen_rtT.py.
-/
import Derived.Test.YtekhmjhbdoigoaaRtR
namespace Go.Proofs.Ytekhmjhbdoigoaa
open Go.RowKit

def timesF : List Rt → Fr → Int
  | [], _ => 0
  | r :: rs, f => if r.f.n = f.n ∧ r.f.d = f.d then r.t else timesF rs f
theorem drop_cons {l : List Rt} {j : Nat} (h : j < l.length) : l.drop j = l.getD j Rt.z :: l.drop (j + 1) := by
  rw [List.drop_eq_getElem_cons h, List.getD_eq_getElem?_getD, List.getElem?_eq_getElem h, Option.getD_some]
def cmpF (f g : Fr) : Int := if f.n * g.d - g.n * f.d < 0 then -1 else if f.n * g.d - g.n * f.d > 0 then 1 else 0
set_option maxHeartbeats 3200000 in
set_option maxRecDepth 100000 in
theorem iTimesOfRoot_c (ad : Option Addr) (cap : Nat) (p : List Int) (f : Fr) (w : World) (hr : RdI w ad p) (hl : p.length ≤ 1048576) :
    Calls Try.prog 21 #[.slice ad p.length cap, frV f] w fun e w' => e = .returned (.tuple #[.int .i64 (if (polyB p && frB f) = true then timesF (rootsP p) f else 0), .bool (polyB p && frB f)]) ∧ Below w.heap.size w w' := by
  have c1 := fun w hr => isPoly_c ad cap p w hr hl
  have c2 := fun w => isFrac_c f w
  have c3 := fun w hr hp => roots_c ad cap p w hr hp
  have h13 := fun h => (cor_facts (p := p) h).2.1
  have hrl := rootsP_len p
  have HR := Lib.hid hr; clear hr
  generalize frB f = v at c2 ⊢
  generalize polyB p = u at c1 c3 h13 ⊢
  generalize rootsP p = RS at c3 hrl ⊢
  obtain ⟨a, b⟩ := f
  unfold frV at *
  simp only at c2 ⊢
  have C1 := Lib.hid c1; have C2 := Lib.hid c2; have C3 := Lib.hid c3; clear c1 c2 c3
  have hb0 : Below w.heap.size w (w.alloc (.cells #[.int .i64 a, .int .i64 b] 38)) := (Below.refl _ _).alloc (Nat.le_refl _) _
  have o0 := FrO.new w a b rfl
  have HR0 := Lib.hid (HR.out.below hb0)
  cases u
  case false =>
    rw [Bool.false_and, if_neg (by simp)]
    go_enter Try.func21, Try.ntmps21
    go_wp2_with fail
    refine (C1.out _ HR0.out).mono ?_
    rintro e w1 ⟨rfl, rfl⟩
    go_wp2_with fail
    go_ret2
    exact ⟨rfl, hb0⟩
  case true =>
    have hRS := h13 rfl
    cases v
    case false =>
      rw [Bool.and_false, if_neg (by simp)]
      go_enter Try.func21, Try.ntmps21
      go_wp2_with fail
      refine (C1.out _ HR0.out).mono ?_
      rintro e w1 ⟨rfl, rfl⟩
      obtain ⟨x0, x1⟩ := o0.at
      go_wp2_with fail
      refine (C2.out _).mono ?_
      rintro e w2 ⟨rfl, hw2⟩
      go_wp2_with fail
      go_ret2
      exact ⟨rfl, hb0.trans (hw2.mono hb0.size)⟩
    case true =>
      rw [Bool.and_self, if_pos rfl]
      obtain ⟨R, hRR⟩ : ∃ R, timesF RS ⟨a, b⟩ = R := ⟨_, rfl⟩
      rw [hRR]
      have HRR := Lib.hid hRR; clear hRR
      go_enter Try.func21, Try.ntmps21
      go_wp2_with fail
      refine (C1.out _ HR0.out).mono ?_
      rintro e w1 ⟨rfl, rfl⟩
      obtain ⟨x0, x1⟩ := o0.at
      go_wp2_with fail
      refine (C2.out _).mono ?_
      rintro e w2 ⟨rfl, hw2⟩
      have hb2 := hb0.trans (hw2.mono hb0.size)
      have o2 := o0.below hw2
      go_wp2_with fail
      refine (C3.out _ (HR0.out.below hw2) trivial).mono ?_
      rintro e w3 ⟨v3, rfl, hrow, hw3⟩
      have hb3 := ball hb2 hw3
      have o3 := o2.below hw3
      obtain ⟨adR, capR, rfl, -, -⟩ := hrow.shape
      have HRD := Lib.hid hrow.rd
      obtain ⟨N, hN⟩ : ∃ N, RS.length = N := ⟨_, rfl⟩
      rw [hN]
      have HN := Lib.hid hN
      have hN13 : N ≤ 13 := by omega
      clear hrow hw2 hw3 o0 o2 x0 x1 hb2 hN hrl
      go_wp2_with fail
      go_loopw [19] (fun i wr => ∃ j : Nat, j ≤ N ∧ i = .int .i64 j ∧ timesF (RS.drop j) ⟨a, b⟩ = R ∧ Below w3.heap.size w3 wr) (fun i _ => N - (intOf i).toNat)
      case atStart => exact ⟨0, Nat.zero_le _, rfl, HRR.out, Below.refl _ _⟩
      case round =>
        obtain ⟨j, hj, rfl, ht, hbel⟩ := hrel
        by_cases hlt : j < N
        case neg =>
          obtain rfl : j = N := by omega
          obtain rfl : R = 0 := by
            rw [← HN.out, List.drop_length] at ht
            exact ht.symm
          clear ht
          go_wp2_with fail
          go_ret2
          exact ⟨rfl, ball hb3 hbel⟩
        case pos =>
          have hjl : j < RS.length := by have := HN.out; omega
          rw [drop_cons hjl] at ht
          obtain ⟨bR, offR, rfl, hbR, c0, c1, c2⟩ := HRD.out j hjl
          have d0 := bcell hbel (p := ⟨bR, offR + j * 3, none⟩) hbR c0
          have d1 := bcell hbel (p := ⟨bR, offR + j * 3 + 1, none⟩) hbR c1
          have d2 := bcell hbel (p := ⟨bR, offR + j * 3 + 2, none⟩) hbR c2
          generalize RS.getD j Rt.z = r at d0 d1 d2 ht
          obtain ⟨⟨X, Y⟩, T⟩ := r
          simp only at d0 d1 d2
          unfold timesF at ht
          simp only at ht
          have o4 := (o3.below hbel).alloc (.cells #[.int .i64 X, .int .i64 Y, .int .i64 T] 70)
          obtain ⟨x0, x1⟩ := o4.at
          have hb4 := bal_alloc (o := (.cells #[.int .i64 X, .int .i64 Y, .int .i64 T] 70)) hbel
          clear c0 c1 c2 o4
          by_cases hX : X = a
          case neg =>
            have g1 : (X == a) = false := beq_eq_false_iff_ne.2 hX
            rw [if_neg (fun h => hX h.1)] at ht
            have HT := Lib.hid ht; clear ht hX
            go_wp2_with fail
            go_roundw
            case rel => exact ⟨j + 1, by omega, by go_num, HT.out, hb4⟩
            case measure => simp [intOf]; omega
          case pos =>
            subst hX
            by_cases hY : Y = b
            case neg =>
              have g1 : (Y == b) = false := beq_eq_false_iff_ne.2 hY
              rw [if_neg (fun h => hY h.2)] at ht
              have HT := Lib.hid ht; clear ht hY
              go_wp2_with fail
              go_roundw
              case rel => exact ⟨j + 1, by omega, by go_num, HT.out, hb4⟩
              case measure => simp [intOf]; omega
            case pos =>
              subst hY
              rw [if_pos ⟨rfl, rfl⟩] at ht
              subst ht
              go_wp2_with fail
              go_ret2
              exact ⟨rfl, ball hb3 hb4⟩
set_option maxHeartbeats 1600000 in
set_option maxRecDepth 100000 in
theorem compare_c (f g : Fr) (w : World) (hf : frB f = true) (hg : frB g = true) :
    Calls Try.prog 52 #[frV f, frV g] w fun e w' => e = .returned (.int .i64 (cmpF f g)) ∧ Below w.heap.size w w' := by
  have hf1 := frB_t.1 hf
  have hg1 := frB_t.1 hg
  have m1 := mulb9 (k := f.n) (m := g.d) (by omega) (by omega)
  have m2 := mulb9 (k := g.n) (m := f.d) (by omega) (by omega)
  unfold cmpF
  obtain ⟨a, b⟩ := f
  obtain ⟨c', d⟩ := g
  unfold frV
  simp only at m1 m2 ⊢
  have e1 : IntKind.i64.wrap (a * d) = a * d := i64_small (by omega) (by omega)
  have e2 : IntKind.i64.wrap (c' * b) = c' * b := i64_small (by omega) (by omega)
  obtain ⟨U, hU⟩ : ∃ U, a * d = U := ⟨_, rfl⟩
  obtain ⟨V, hV⟩ : ∃ V, c' * b = V := ⟨_, rfl⟩
  rw [hU, hV]
  rw [hU] at m1
  rw [hV] at m2
  have e3 := e1.trans hU
  have e4 := e2.trans hV
  have e5 : IntKind.i64.wrap (U - V) = U - V := i64_small (by omega) (by omega)
  have hb0 : Below w.heap.size w ((w.alloc (.cells #[.int .i64 a, .int .i64 b] 38)).alloc (.cells #[.int .i64 c', .int .i64 d] 38)) := ((Below.refl _ _).alloc (Nat.le_refl _) _).alloc (by simp) _
  clear e1 e2 hU hV hf hg hf1 hg1 m1 m2
  by_cases h1 : U - V < 0
  · rw [if_pos h1]
    have g1 : decide (U - V < 0) = true := decide_eq_true h1
    have g3 : decide (U < V) = true := decide_eq_true (by omega)
    have H1 := Lib.hid h1; clear h1
    go_enter Try.func52, Try.ntmps52
    go_wp2_with fail
    go_ret
    exact ⟨rfl, hb0⟩
  · rw [if_neg h1]
    have g1 : decide (U - V < 0) = false := decide_eq_false h1
    have g3 : decide (U < V) = false := decide_eq_false (by omega)
    by_cases h2 : U - V > 0
    · rw [if_pos h2]
      have g2 : decide (0 < U - V) = true := decide_eq_true h2
      have g4 : decide (V < U) = true := decide_eq_true (by omega)
      have H1 := Lib.hid h1; have H2 := Lib.hid h2; clear h1 h2
      go_enter Try.func52, Try.ntmps52
      go_wp2_with fail
      go_ret
      exact ⟨rfl, hb0⟩
    · rw [if_neg h2]
      have g2 : decide (0 < U - V) = false := decide_eq_false h2
      have g4 : decide (V < U) = false := decide_eq_false (by omega)
      have H1 := Lib.hid h1; have H2 := Lib.hid h2; clear h1 h2
      go_enter Try.func52, Try.ntmps52
      go_wp2_with fail
      go_ret
      exact ⟨rfl, hb0⟩
end Go.Proofs.Ytekhmjhbdoigoaa
