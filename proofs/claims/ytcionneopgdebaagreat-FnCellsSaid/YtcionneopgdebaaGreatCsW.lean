/-
  Small calls of the law of the cells' edges, and what it asks, plain. By an AI agent.
-/
import Derived.Test.YtcionneopgdebaaGreatCsV
import Derived.Test.YtcionneopgdebaaGreatCsT
import Derived.Test.YtcionneopgdebaaGreatCnA
import Derived.Test.YtcionneopgdebaaGreatCpZ
import Derived.Test.YtcionneopgdebaaGreatPtB
import Derived.Test.YtcionneopgdebaaGreatPlJ
import Derived.Test.YtcionneopgdebaaGreatRowI
import Derived.Test.YtcionneopgdebaaGreatPlM
import Derived.Test.YtcionneopgdebaaGreatCsB
import Derived.Test.YtcionneopgdebaaGreatCpQ
import Derived.Deep.QuietTactic
namespace Go.Proofs.YtcionneopgdebaaGreat
open Go.RowKit

set_option maxHeartbeats 800000 in
theorem sameI_c (ad : Option Addr) (cap : Nat) (ad' : Option Addr) (cap' : Nat) (xs : List Int) (w : World) (hl : xs.length ≤ 1048576) (hr : RdI w ad xs) (hr' : RdI w ad' xs) :
    Calls Tryz.prog 15 #[.slice ad xs.length cap, .slice ad' xs.length cap'] w fun e w' => e = .returned (.bool true) ∧ Below w.heap.size w w' := by
  have HR := Lib.hid hr; clear hr
  have HR' := Lib.hid hr'; clear hr'
  go_enter Tryz.func15, Tryz.ntmps15
  go_wp2_with fail
  go_loopw [13] (fun i wr => ∃ k : Nat, k ≤ xs.length ∧ i = .int .i64 k ∧ Below w.heap.size w wr) (fun i _ => xs.length - (intOf i).toNat)
  case atStart => exact ⟨0, Nat.zero_le _, rfl, Below.refl _ _⟩
  case round =>
    obtain ⟨k, hk, rfl, hbel⟩ := hrel
    by_cases hlt : k < xs.length
    · obtain ⟨b, off, rfl, hb, c⟩ := HR.out k hlt
      obtain ⟨b', off', rfl, hb', c'⟩ := HR'.out k hlt
      have d := bcell hbel hb c
      have d' := bcell hbel hb' c'
      clear c c'
      generalize xs.getD k 0 = x at d d'
      have x1 : (0 : Int) ≤ (k : Int) := by omega
      have x2 : (k : Int) < (xs.length : Int) := by omega
      go_wp2_with fail
      go_quiet (fail)
      go_wp2_with fail
      go_roundw
      case rel => exact ⟨k + 1, by omega, by go_num, bdrewN hbel _⟩
      case measure => simp [intOf]; omega
    · go_wp2_with fail
      go_ret
      exact ⟨rfl, hbel⟩
set_option maxHeartbeats 800000 in
set_option maxRecDepth 100000 in
theorem sameM_c (ad : Option Addr) (cap : Nat) (ad' : Option Addr) (cap' : Nat) (M : List (List Int)) (w : World) (hl : M.length ≤ 1048576) (hl2 : ∀ i, i < M.length → (M.getD i []).length ≤ 1000) (hr : RdM w ad M) (hr' : RdM w ad' M) :
    Calls Tryz.prog 14 #[.slice ad M.length cap, .slice ad' M.length cap'] w fun e w' => e = .returned (.bool true) ∧ Below w.heap.size w w' := by
  have HR := Lib.hid hr; clear hr
  have HR' := Lib.hid hr'; clear hr'
  have HL2 := Lib.hid hl2; clear hl2
  go_enter Tryz.func14, Tryz.ntmps14
  go_wp2_with fail
  go_loopw [13] (fun i wr => ∃ k : Nat, k ≤ M.length ∧ i = .int .i64 k ∧ Below w.heap.size w wr) (fun i _ => M.length - (intOf i).toNat)
  case atStart => exact ⟨0, Nat.zero_le _, rfl, Below.refl _ _⟩
  case round =>
    obtain ⟨wE, rfl⟩ : ∃ x : World, x = wr := ⟨_, rfl⟩
    obtain ⟨k, hk, rfl, hbel⟩ := hrel
    by_cases hlt : k < M.length
    · obtain ⟨b, off, a1, c1, rfl, hb, k1, r1⟩ := HR.out k hlt
      obtain ⟨b', off', a2, c2, rfl, hb', k2, r2⟩ := HR'.out k hlt
      have k1 := bcell hbel hb k1
      have k2 := bcell hbel hb' k2
      have hkl := HL2.out k hlt
      have R1 := r1.below hbel
      have R2 := r2.below hbel
      generalize M.getD k [] = xs at k1 k2 R1 R2 hkl
      have CS := Lib.hid (fun u (hb : Below wE.heap.size wE u) => sameI_c a1 c1 a2 c2 xs u (by omega) (R1.below hb) (R2.below hb))
      have x1 : (0 : Int) ≤ (k : Int) := by omega
      have x2 : (k : Int) < (M.length : Int) := by omega
      clear R1 R2 r1 r2 hkl
      go_wp2_with fail
      refine wp_region_still_tail 8 (by kernel_rfl) (by kernel_rfl) ?_
      simp only [List.take_succ_cons, List.take_zero, List.drop_succ_cons, List.drop_zero]
      repeat still_step
      refine wpStill_nil ?_
      change wpList _ _ _ _ _ wE.drew
      go_wp2_with fail
      refine (CS.out _ (Below.refl _ _).drew).mono ?_
      rintro e w2 ⟨rfl, hb2⟩
      have hb3 := ball hbel.drew hb2
      clear hb2
      go_wp2_with fail
      go_roundw
      case rel => exact ⟨k + 1, by omega, by go_num, hb3⟩
      case measure => simp [intOf]; omega
    · go_wp2_with fail
      go_ret
      exact ⟨rfl, hbel⟩
/-! ### what the law asks -/
end Go.Proofs.YtcionneopgdebaaGreat
