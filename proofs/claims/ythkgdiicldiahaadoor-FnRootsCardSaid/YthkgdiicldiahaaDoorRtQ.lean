/-
  The law's comparisons of two equal lists: numbers and roots. By an AI agent.
-/
import Derived.Test.YthkgdiicldiahaaDoorRtY
import Derived.Deep.QuietTactic
namespace Go.Proofs.YthkgdiicldiahaaDoor
open Go.RowKit

set_option maxHeartbeats 800000 in
set_option maxRecDepth 100000 in
theorem qIntsN_c (ad ad' : Option Addr) (cap cap' : Nat) (xs : List Int) (w : World) (hl : xs.length ≤ 1048576) (hr : RdI w ad xs) (hr' : RdI w ad' xs) :
    Calls Tryd.prog 12 #[.slice ad xs.length cap, .slice ad' xs.length cap'] w fun e w' => e = .returned (.bool true) ∧ Below w.heap.size w w' := by
  have HR := Lib.hid hr; clear hr
  have HR' := Lib.hid hr'; clear hr'
  go_enter Tryd.func12, Tryd.ntmps12
  go_wp2_with fail
  go_loopw [13] (fun i wr => ∃ k : Nat, k ≤ xs.length ∧ i = .int .i64 k ∧ Below w.heap.size w wr) (fun i _ => xs.length - (intOf i).toNat)
  case atStart => exact ⟨0, Nat.zero_le _, rfl, Below.refl _ _⟩
  case round =>
    obtain ⟨k, hk, rfl, hbel⟩ := hrel
    by_cases hlt : k < xs.length
    · obtain ⟨b, off, rfl, hb, c⟩ := HR.out k hlt
      obtain ⟨b', off', rfl, hb', c'⟩ := HR'.out k hlt
      have d := bcell hbel hb c
      have d' := bcell hbel hb' c'
      clear c c'
      generalize xs.getD k 0 = x at d d'
      have x1 : (0 : Int) ≤ (k : Int) := by omega
      have x2 : (k : Int) < (xs.length : Int) := by omega
      go_wp2_with fail
      go_quiet (fail)
      go_wp2_with fail
      go_roundw
      case rel => exact ⟨k + 1, by omega, by go_num, bdrewN hbel _⟩
      case measure => simp [intOf]; omega
    · go_wp2_with fail
      go_ret
      exact ⟨rfl, hbel⟩

set_option maxHeartbeats 800000 in
set_option maxRecDepth 100000 in
theorem qRoots_c (ad ad' : Option Addr) (cap cap' : Nat) (l : List Rt) (w : World) (hl : l.length ≤ 1048576) (hr : RdR w ad l) (hr' : RdR w ad' l) :
    Calls Tryd.prog 11 #[.slice ad l.length cap, .slice ad' l.length cap'] w fun e w' => e = .returned (.bool true) ∧ Below w.heap.size w w' := by
  have HR := Lib.hid hr; clear hr
  have HR' := Lib.hid hr'; clear hr'
  go_enter Tryd.func11, Tryd.ntmps11
  go_wp2_with fail
  go_loopw [13] (fun i wr => ∃ k : Nat, k ≤ l.length ∧ i = .int .i64 k ∧ Below w.heap.size w wr) (fun i _ => l.length - (intOf i).toNat)
  case atStart => exact ⟨0, Nat.zero_le _, rfl, Below.refl _ _⟩
  case round =>
    obtain ⟨k, hk, rfl, hbel⟩ := hrel
    by_cases hlt : k < l.length
    · obtain ⟨b, off, rfl, hb, c0, c1, c2⟩ := HR.out k hlt
      obtain ⟨b', off', rfl, hb', e0, e1, e2⟩ := HR'.out k hlt
      have d0 := bcell hbel (p := ⟨b, off + k * 3, none⟩) hb c0
      have d1 := bcell hbel (p := ⟨b, off + k * 3 + 1, none⟩) hb c1
      have d2 := bcell hbel (p := ⟨b, off + k * 3 + 2, none⟩) hb c2
      have d0' := bcell hbel (p := ⟨b', off' + k * 3, none⟩) hb' e0
      have d1' := bcell hbel (p := ⟨b', off' + k * 3 + 1, none⟩) hb' e1
      have d2' := bcell hbel (p := ⟨b', off' + k * 3 + 2, none⟩) hb' e2
      clear c0 c1 c2 e0 e1 e2
      generalize (l.getD k Rt.z).f.n = x at d0 d0'
      generalize (l.getD k Rt.z).f.d = y at d1 d1'
      generalize (l.getD k Rt.z).t = z at d2 d2'
      have x1 : (0 : Int) ≤ (k : Int) := by omega
      have x2 : (k : Int) < (l.length : Int) := by omega
      go_wp2_with fail
      go_quiet (fail)
      go_wp2_with fail
      go_roundw
      case rel => exact ⟨k + 1, by omega, by go_num, bdrewN hbel _⟩
      case measure => simp [intOf]; omega
    · go_wp2_with fail
      go_ret
      exact ⟨rfl, hbel⟩

end Go.Proofs.YthkgdiicldiahaaDoor
