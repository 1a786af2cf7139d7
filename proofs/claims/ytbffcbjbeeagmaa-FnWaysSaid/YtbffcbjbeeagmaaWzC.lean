/-
  The first of the cheapest ways with the fewest steps: the program's. By an AI agent.
-/
import Derived.Test.YtbffcbjbeeagmaaWzB
namespace Go.Proofs.Ytbffcbjbeeagmaa
open Go.RowKit

set_option maxHeartbeats 1600000 in
theorem indexM2 (fid : FuncId) (c1 c2 : Value) (p : List Int → Bool) (ad : Option Addr) (cap : Nat) (M : List (List Int)) (w : World) (hl : M.length ≤ 1048576) (hr : RdM w ad M)
    (hcf : ∀ (xa : Array Value) (w : World), (callFunc fid xa).run Try.prog w = .ok (.enter fid xa) w) (hf : ∀ i, i < M.length → ∀ a c w2, Below w.heap.size w w2 → RdI w2 a (M.getD i []) → Calls Try.prog fid #[.slice a (M.getD i []).length c, c1, c2] w2 fun e w' => e = .returned (.bool (p (M.getD i []))) ∧ Below w2.heap.size w2 w') :
    Calls Try.prog 43 #[.slice ad M.length cap, .func (Fn.func fid) #[] #[c1, c2]] w fun e w' => (∃ r : Int, e = .returned (.int .i64 r) ∧ ((∃ k : Nat, r = (k : Int) ∧ k < M.length ∧ p (M.getD k []) = true ∧ ∀ j, j < k → p (M.getD j []) = false) ∨ (r = -1 ∧ M.any p = false))) ∧ Below w.heap.size w w' := by
  have HR := Lib.hid hr; clear hr
  have HF := Lib.hid hf; clear hf
  go_enter Try.func43, Try.ntmps43
  go_wp2_with fail
  go_loopw [8] (fun i wr => ∃ k : Nat, k ≤ M.length ∧ i = .int .i64 k ∧ (∀ j, j < k → p (M.getD j []) = false) ∧ Below w.heap.size w wr) (fun i _ => M.length - (intOf i).toNat)
  case atStart => exact ⟨0, Nat.zero_le _, rfl, fun j hj => by omega, Below.refl _ _⟩
  case round =>
    obtain ⟨k, hk, rfl, hj, hbel⟩ := hrel
    obtain ⟨wo, rfl⟩ : ∃ wo : World, wo = wr := ⟨_, rfl⟩
    have HJ := Lib.hid hj; clear hj
    by_cases hlt : k < M.length
    · obtain ⟨b, off, a, c, rfl, hb, cc, hri⟩ := HR.out k hlt
      have dd := bcell hbel hb cc
      have hff := HF.out k hlt a c _ hbel (hri.below hbel)
      have x1 : (0 : Int) ≤ (k : Int) := by omega
      have x2 : (k : Int) < (M.length : Int) := by omega
      obtain ⟨x, hx⟩ : ∃ x, M.getD k [] = x := ⟨_, rfl⟩
      rw [hx] at dd hff
      have HX := Lib.hid hx; clear hx cc hri
      obtain ⟨N, hN⟩ : ∃ n, x.length = n := ⟨_, rfl⟩
      rw [hN] at dd hff
      clear hN
      have HFF := Lib.hid hff; clear hff
      by_cases h1 : p x = true
      · go_wp2_with fail
        refine HFF.out.mono ?_
        rw [h1]
        rintro e w' ⟨rfl, hw'⟩
        go_wp2_with fail
        go_ret
        exact ⟨⟨k, rfl, Or.inl ⟨k, rfl, hlt, by rw [HX.out]; exact h1, HJ.out⟩⟩, ball hbel hw'⟩
      · have h1' := Bool.eq_false_iff.2 h1
        go_wp2_with fail
        refine HFF.out.mono ?_
        rw [h1']
        rintro e w' ⟨rfl, hw'⟩
        go_wp2_with fail
        go_roundw
        case rel =>
          refine ⟨k + 1, by omega, by go_num, fun j hj => ?_, ball hbel hw'⟩
          by_cases e : j = k
          · subst e; rw [HX.out]; exact h1'
          · exact HJ.out j (by omega)
        case measure => simp [intOf]; omega
    · have he : k = M.length := by omega
      subst he
      go_wp2_with fail
      go_ret
      refine ⟨⟨-1, rfl, Or.inr ⟨rfl, ?_⟩⟩, hbel⟩
      rw [List.any_eq_false]
      intro x hx
      obtain ⟨j, hj, rfl⟩ := List.getElem_of_mem hx
      have := HJ.out j hj
      simpa [List.getD, hj] using this

set_option maxHeartbeats 800000 in
set_option maxRecDepth 100000 in
theorem cheapest1_c (b1 b2 a : Nat) (D : Int) (ad : Option Addr) (cap : Nat) (r : List Int) (w : World) (hr : RdI w ad r) (ha : a < r.length) (k1 : w.cell? ⟨b1, 0, none⟩ = some (.int .i64 (a : Int))) (k2 : w.cell? ⟨b2, 0, none⟩ = some (.int .i64 D)) :
    Calls Try.prog 44 #[.slice ad r.length cap, .pointer (some ⟨b1, 0, none⟩), .pointer (some ⟨b2, 0, none⟩)] w fun e w' => e = .returned (.bool (decide (r.getD a 0 = D))) ∧ Below w.heap.size w w' := by
  obtain ⟨b, off, rfl, _, k3⟩ := hr a ha
  obtain ⟨N, hN⟩ : ∃ N, r.length = N := ⟨_, rfl⟩
  rw [hN] at ha ⊢
  have x1 : (0 : Int) ≤ (a : Int) := by omega
  have x2 : (a : Int) < (N : Int) := by omega
  clear hr hN
  generalize r.getD a 0 = V at k3 ⊢
  have hv : decide (V = D) = (V == D) := rfl
  rw [hv]
  clear hv
  go_enter Try.func44, Try.ntmps44
  go_wp2_with fail
  go_quiet (fail)
  go_wp2_with fail
  go_ret
  exact ⟨rfl, bdrewN (Below.refl _ _) _⟩
end Go.Proofs.Ytbffcbjbeeagmaa
