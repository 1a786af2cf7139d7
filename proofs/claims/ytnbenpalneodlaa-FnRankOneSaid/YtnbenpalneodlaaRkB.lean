/-
  The program's choices: the call. By an AI agent.
-/
import Derived.Test.YtnbenpalneodlaaRkA
namespace Go.Proofs.Ytnbenpalneodlaa
open Go.RowKit

section
variable {V : World → Prop} {p : List Int → Bool} {fid : FuncId} {c1 c2 c3 c4 : Value} {N k : Nat} {B0 : Nat → Prop}
set_option maxHeartbeats 6400000 in
set_option maxRecDepth 100000 in
theorem choices_c (w : World) (hN : N ≤ 6) (hk : k ≤ 6) (hH : VisB V p fid c1 c2 c3 c4 N k w.heap.size B0 w) (hv : V w) :
    Calls Try.prog 66 #[.int .i64 N, .int .i64 k, .func (Fn.func fid) #[] #[c1, c2, c3, c4]] w fun e w' => e = .returned (.bool ((cqA N k).all p)) ∧ V w' ∧ FrP w.heap.size B0 w w' := by
  have HH := Lib.hid hH; have HV := Lib.hid hv
  clear hH hv
  obtain ⟨h, hh⟩ : ∃ h, w.heap.size = h := ⟨_, rfl⟩
  have HQ := Lib.hid (fun (fv : Value) (hfv : fv = nxC (h + 1 + 1 + 1 + 1) (h + 1) (h + 1 + 1) h (h + 1 + 1 + 1 + 1 + 1)) => by
    obtain ⟨W1, hW1⟩ : ∃ W, w.alloc (.cells #[.int .i64 N] 3) = W := ⟨_, rfl⟩
    have b1 : Below h w W1 := by rw [← hW1, ← hh]; exact bal_alloc (Below.refl _ _)
    have s1 : W1.heap.size = h + 1 := by rw [← hW1]; simp [hh]
    have o1 : Own W1 h 3 [.int .i64 N] := by rw [← hW1]; exact Own.newHA _ _ _ rfl hh
    obtain ⟨W2, hW2⟩ : ∃ W, W1.alloc (.cells #[.int .i64 k] 3) = W := ⟨_, rfl⟩
    have b2 : Below W1.heap.size W1 W2 := by rw [← hW2]; exact bal_alloc (Below.refl _ _)
    have s2 : W2.heap.size = h + 1 + 1 := by rw [← hW2]; simp [s1]
    have o2 : Own W2 (h + 1) 3 [.int .i64 k] := by rw [← hW2]; exact Own.newHA _ _ _ rfl s1
    obtain ⟨W3, hW3⟩ : ∃ W, W2.alloc (.cells #[.func (Fn.func fid) #[] #[c1, c2, c3, c4]] 50) = W := ⟨_, rfl⟩
    have b3 : Below W2.heap.size W2 W3 := by rw [← hW3]; exact bal_alloc (Below.refl _ _)
    have s3 : W3.heap.size = h + 1 + 1 + 1 := by rw [← hW3]; simp [s2]
    have o3 : Own W3 (h + 1 + 1) 50 [.func (Fn.func fid) #[] #[c1, c2, c3, c4]] := by rw [← hW3]; exact Own.newHA _ _ _ rfl s2
    obtain ⟨W4, hW4⟩ : ∃ W, W3.alloc (.cells #[] 3) = W := ⟨_, rfl⟩
    have b4 : Below W3.heap.size W3 W4 := by rw [← hW4]; exact bal_alloc (Below.refl _ _)
    have s4 : W4.heap.size = h + 1 + 1 + 1 + 1 := by rw [← hW4]; simp [s3]
    have o4 : RowI W4 h (.slice (some ⟨h + 1 + 1 + 1, 0, none⟩) 0 0) [] := by rw [← hW4]; exact rowI_new _ _ _ (by omega) s3
    obtain ⟨W5, hW5⟩ : ∃ W, W4.alloc (.cells #[.slice (some ⟨h + 1 + 1 + 1, 0, none⟩) 0 0] 23) = W := ⟨_, rfl⟩
    have b5 : Below W4.heap.size W4 W5 := by rw [← hW5]; exact bal_alloc (Below.refl _ _)
    have s5 : W5.heap.size = h + 1 + 1 + 1 + 1 + 1 := by rw [← hW5]; simp [s4]
    have o5 : Own W5 (h + 1 + 1 + 1 + 1) 23 [.slice (some ⟨h + 1 + 1 + 1, 0, none⟩) 0 0] := by rw [← hW5]; exact Own.newHA _ _ _ rfl s4
    obtain ⟨W6, hW6⟩ : ∃ W, W5.alloc (.cells #[fv] 47) = W := ⟨_, rfl⟩
    have b6 : Below W5.heap.size W5 W6 := by rw [← hW6]; exact bal_alloc (Below.refl _ _)
    have s6 : W6.heap.size = h + 1 + 1 + 1 + 1 + 1 + 1 := by rw [← hW6]; simp [s5]
    have o6 : Own W6 (h + 1 + 1 + 1 + 1 + 1) 47 [fv] := by rw [← hW6]; exact Own.newHA _ _ _ rfl s5
    have d4 := ball (ball b4 b5) b6
    have d3 := ball b3 d4
    have d2 := ball b2 d3
    have d1 : Below h w W6 := b1.trans (d2.mono (by omega))
    have hH2 := HH.out
    rw [hh] at hH2
    exact (show ∀ W, ((((((w.alloc (.cells #[.int .i64 N] 3)).alloc (.cells #[.int .i64 k] 3)).alloc (.cells #[.func (Fn.func fid) #[] #[c1, c2, c3, c4]] 50)).alloc (.cells #[] 3)).alloc (.cells #[.slice (some ⟨h + 1 + 1 + 1, 0, none⟩) 0 0] 23)).alloc (.cells #[fv] 47)) = W → ChI V W h (h + 1 + 1 + 1 + 1 + 1 + 1) (h + 1 + 1 + 1 + 1) (h + 1 + 1 + 1) [] (.slice (some ⟨h + 1 + 1 + 1, 0, none⟩) 0 0) ∧ ChC w W fid c1 c2 c3 c4 N k h (h + 1 + 1 + 1 + 1) (h + 1) (h + 1 + 1) h (h + 1 + 1 + 1 + 1 + 1) B0 ∧ FrP h B0 w W from fun W hW => by
      have hWW : W6 = W := by rw [← hW, ← hW6, ← hW5, ← hW4, ← hW3, ← hW2, ← hW1]
      subst hWW
      refine ⟨⟨by omega, o5.belowAll b6, o4.below (ball b5 b6), fun q hq => Or.inl (by simp [Value.ownBlock] at hq; exact hq.symm), hH2.loc HV.out (fun q hq => d1.block q (by have := hH2.lt hq; omega))⟩, ⟨(o2.belowAll d3).cell? (i := 0) rfl, (o3.belowAll d4).cell? (i := 0) rfl, (o1.belowAll d2).cell? (i := 0) rfl, ?_, FrP.of_below d1 (Nat.le_refl _)⟩, FrP.of_below d1 (Nat.le_refl _)⟩
      rw [← hfv]
      exact o6.cell? (i := 0) rfl))
  have HH2 := HH.out
  rw [hh] at HH2
  have HL := Lib.hid (show ChL h (h + 1 + 1 + 1 + 1 + 1 + 1) (h + 1 + 1 + 1 + 1) (h + 1 + 1 + 1) (h + 1) (h + 1 + 1) h (h + 1 + 1 + 1 + 1 + 1) from ⟨by omega, by omega, by omega, by omega, by omega, by omega, by omega⟩)
  have CN := Lib.hid (nextQ_c (w1 := w) hN hk HH2 HL.out k [] 0 (.slice (some ⟨h + 1 + 1 + 1, 0, none⟩) 0 0))
  clear HH HH2
  unfold nxC at HQ
  go_enter Try.func66, Try.ntmps66
  go_wp2_with fail
  obtain ⟨hPI, hPC, hFR⟩ := HQ.out _ rfl _ rfl
  refine (CN.out _ (Chs.nil N) (Nat.zero_le _) (Nat.zero_le _) (by simp) hPI hPC).mono ?_
  rintro e w2 ⟨rfl, hv2, -, hch⟩
  have HF := Lib.hid (show V w2 ∧ FrP h B0 w w2 from
    ⟨hv2, hFR.trans (hch.mono HL.out.n (fun q hq e => by
      rcases e with ⟨_, e⟩ | e | e
      · exact e
      · omega
      · omega))⟩)
  clear hPI hPC hFR hch hv2
  rw [show cqP N k k [] 0 = cqA N k from rfl]
  go_wp2_with fail
  go_ret
  exact ⟨rfl, HF.out.1, by rw [hh]; exact HF.out.2⟩
end
end Go.Proofs.Ytnbenpalneodlaa
