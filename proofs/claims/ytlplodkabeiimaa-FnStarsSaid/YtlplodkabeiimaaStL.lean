/-
  Valid rays and stars: the reference's. Printed by gen_stL.py.
-/
import Derived.Test.YtlplodkabeiimaaStK
import Derived.Deep.QuietTactic
namespace Go.Proofs.Ytlplodkabeiimaa
open Go.RowKit

/-- A contract that leaves the world as it is, met in a region that is walked in the text's order. -/
theorem quiet_hid {P : Program} {f : FuncId} {args : Array Value} {w : World} {n : Nat} {v : Value} (h : Hid (∀ w, Calls P f args w fun e w' => e = .returned v ∧ w = w')) :
    Calls P f args (w.drewN n) fun e w'' => e = .returned v ∧ ∃ m, w'' = w.drewN m :=
  Calls.quiet_of_same ((h.out _).mono fun _ _ h => ⟨h.1, h.2.symm⟩)

set_option maxHeartbeats 3200000 in
set_option maxRecDepth 100000 in
theorem stRay_c (r : Ry) (w : World) :
    Calls Try.prog 44 #[ryV r] w fun e w' => e = .returned (.bool (ryB r)) ∧ Below w.heap.size w w' := by
  obtain ⟨a, b, c⟩ := r
  have hb := (Below.refl w.heap.size w).alloc (Nat.le_refl _) (.cells #[.int .i64 a, .int .i64 b, .int .i64 c] 35)
  unfold ryV ryB
  simp only
  have CX := Lib.hid (fun w => l1In_any a (-20) 20 w)
  have CY := Lib.hid (fun w => l1In_any b (-20) 20 w)
  have CW := Lib.hid (fun w => l1In_any c 1 20 w)
  obtain ⟨u, hu⟩ : ∃ x, inB a (-20) 20 = x := ⟨_, rfl⟩
  obtain ⟨v, hv⟩ : ∃ x, inB b (-20) 20 = x := ⟨_, rfl⟩
  rw [hu] at CX
  rw [hv] at CY
  rw [hu, hv]
  generalize inB c 1 20 = z at CW ⊢
  cases u
  case false =>
    clear hu hv
    go_enter Try.func44, Try.ntmps44
    go_wp2_with fail
    go_quiet ((first | (go_at_call 51; with_reducible exact quiet_hid CX) | (go_at_call 51; with_reducible exact quiet_hid CY) | (go_at_call 51; with_reducible exact quiet_hid CW) | (go_at_call 43; with_reducible exact quiet_hid AX) | (go_at_call 43; with_reducible exact quiet_hid AY) | (go_at_call 42; with_reducible exact quiet_hid CG)))
    go_wp2_with fail
    go_ret
    exact ⟨rfl, bdrewN hb nq⟩
  case true =>
    cases v
    case false =>
      clear hu hv
      go_enter Try.func44, Try.ntmps44
      go_wp2_with fail
      go_quiet ((first | (go_at_call 51; with_reducible exact quiet_hid CX) | (go_at_call 51; with_reducible exact quiet_hid CY) | (go_at_call 51; with_reducible exact quiet_hid CW) | (go_at_call 43; with_reducible exact quiet_hid AX) | (go_at_call 43; with_reducible exact quiet_hid AY) | (go_at_call 42; with_reducible exact quiet_hid CG)))
      go_wp2_with fail
      go_ret
      exact ⟨rfl, bdrewN hb nq⟩
    case true =>
      have ha := inB_t.1 hu
      have hbb := inB_t.1 hv
      have AX := Lib.hid (fun w => l1AbsW_c a w (by omega))
      have AY := Lib.hid (fun w => l1AbsW_c b w (by omega))
      have CG := Lib.hid (fun w => stCommon_c a.natAbs b.natAbs w (by omega) (by omega))
      have eg : (Nat.gcd a.natAbs b.natAbs : Nat) = gcdN a b := rfl
      rw [eg] at CG
      generalize gcdN a b = g at CG ⊢
      generalize (a.natAbs : Int) = na at AX CG
      generalize (b.natAbs : Int) = nb at AY CG
      clear hu hv ha hbb eg
      by_cases hg : g = 1
      case pos =>
        subst hg
        go_enter Try.func44, Try.ntmps44
        go_wp2_with fail
        go_quiet ((first | (go_at_call 51; with_reducible exact quiet_hid CX) | (go_at_call 51; with_reducible exact quiet_hid CY) | (go_at_call 51; with_reducible exact quiet_hid CW) | (go_at_call 43; with_reducible exact quiet_hid AX) | (go_at_call 43; with_reducible exact quiet_hid AY) | (go_at_call 42; with_reducible exact quiet_hid CG)))
        go_wp2_with fail
        go_ret
        exact ⟨ret_bool (by simp), bdrewN hb nq⟩
      case neg =>
        have hg' : (g == 1) = false := by simpa using hg
        go_enter Try.func44, Try.ntmps44
        go_wp2_with fail
        go_quiet ((first | (go_at_call 51; with_reducible exact quiet_hid CX) | (go_at_call 51; with_reducible exact quiet_hid CY) | (go_at_call 51; with_reducible exact quiet_hid CW) | (go_at_call 43; with_reducible exact quiet_hid AX) | (go_at_call 43; with_reducible exact quiet_hid AY) | (go_at_call 42; with_reducible exact quiet_hid CG)))
        go_wp2_with fail
        go_ret
        exact ⟨ret_bool (by simp [hg]), bdrewN hb nq⟩


end Go.Proofs.Ytlplodkabeiimaa
