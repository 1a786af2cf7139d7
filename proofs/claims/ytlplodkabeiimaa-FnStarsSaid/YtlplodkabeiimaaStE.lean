/-
  Rows of rays: slices of them; a ray put into a star: plain. By an AI agent.
-/
import Derived.Test.YtlplodkabeiimaaStD
namespace Go.Proofs.Ytlplodkabeiimaa
open Go.RowKit

/-- The address of a slice's part. -/
def adAt (ad : Option Addr) (k cap : Nat) : Option Addr := if cap = k then ad else ad.map (·.add (k * 3))
/-- What a slice of rays may look like. -/
def SY (ad : Option Addr) (n cap : Nat) : Prop := (ad = none ∧ n = 0 ∧ cap = 0) ∨ ((∃ b off, ad = some ⟨b, off, none⟩) ∧ n ≤ cap ∧ cap ≤ maxLen)
theorem SY.nil : SY none 0 0 := Or.inl ⟨rfl, rfl, rfl⟩
theorem SY.le {ad : Option Addr} {n cap : Nat} (h : SY ad n cap) : n ≤ cap := by
  rcases h with ⟨_, h1, h2⟩ | ⟨_, h1, _⟩ <;> omega
theorem add_plain (b off k : Nat) : (⟨b, off, none⟩ : Addr).add k = ⟨b, off + k, none⟩ := by
  unfold Addr.add
  split <;> simp_all
theorem SY.low {ad : Option Addr} {n cap k : Nat} (h : SY ad n cap) (hk : k ≤ n) : SY (adAt ad k cap) (n - k) (cap - k) := by
  rcases h with ⟨rfl, rfl, rfl⟩ | ⟨⟨b, off, rfl⟩, h1, h2⟩
  · exact Or.inl ⟨by unfold adAt; split <;> rfl, by omega, by omega⟩
  · refine Or.inr ⟨?_, by omega, by omega⟩
    unfold adAt
    split
    · exact ⟨_, _, rfl⟩
    · exact ⟨_, _, by rw [Option.map_some, add_plain]⟩
theorem RdY.low {w : World} {ad : Option Addr} {l : List Ry} {cap k : Nat} (h : RdY w ad l) (hs : SY ad l.length cap) (hk : k ≤ l.length) : RdY w (adAt ad k cap) (l.drop k) := by
  rcases hs with ⟨rfl, h1, _⟩ | ⟨⟨b, off, rfl⟩, h1, h2⟩
  · rw [List.drop_eq_nil_of_le (by omega)]
    exact RdY.nil _ _
  · unfold adAt
    split
    · rw [List.drop_eq_nil_of_le (by omega)]
      exact RdY.nil _ _
    · rw [Option.map_some, add_plain]
      exact (h.takeDrop k).2
theorem readsOf {w : World} {ad : Option Addr} {l : List Ry} {cap n : Nat} (h : RdY w ad l) (hn : l.length = n) (hs : SY ad n cap) : ReadsY w (.slice ad n cap) l := by
  subst hn
  rcases hs with ⟨rfl, h1, rfl⟩ | ⟨⟨b, off, rfl⟩, h1, h2⟩
  · obtain rfl := List.length_eq_zero_iff.1 h1
    exact Or.inl ⟨rfl, rfl⟩
  · exact Or.inr ⟨b, off, cap, rfl, h⟩
theorem readsTake {w : World} {ad : Option Addr} {l : List Ry} {cap k : Nat} (h : RdY w ad l) (hs : SY ad l.length cap) (hk : k ≤ l.length) : ReadsY w (.slice ad k cap) (l.take k) := by
  have e : (l.take k).length = k := by rw [List.length_take]; omega
  rcases hs with ⟨rfl, h1, rfl⟩ | ⟨⟨b, off, rfl⟩, h1, h2⟩
  · obtain rfl := List.length_eq_zero_iff.1 h1
    obtain rfl : k = 0 := by simpa using hk
    exact Or.inl ⟨rfl, rfl⟩
  · exact Or.inr ⟨b, off, cap, by rw [e], (h.takeDrop k).1⟩
set_option maxRecDepth 100000 in
theorem sl_low (w' : World) (ad : Option Addr) (n cap k : Nat) (hk : k ≤ n) :
    (Instr.slice 24 (.slice ad n cap) (some (.int .i64 (k : Int))) none none).run Try.prog w' = .ok (.slice (adAt ad k cap) (n - k) (cap - k)) w' := by
  rw [run_slice_l w' _ _ _ _ Try.underlying24 _ _ (by omega) (by omega)]
  simp [go_sem, adAt]
set_option maxRecDepth 100000 in
theorem sl_high (w' : World) (ad : Option Addr) (n cap k : Nat) (hk : k ≤ n) (hs : SY ad n cap) :
    (Instr.slice 24 (.slice ad n cap) none (some (.int .i64 (k : Int))) none).run Try.prog w' = .ok (.slice ad k cap) w' := by
  rw [run_slice_h w' _ _ _ _ Try.underlying24 _ _ (by omega) (by have := hs.le; omega)]
  rcases hs with ⟨rfl, h1, rfl⟩ | ⟨⟨b, off, rfl⟩, h1, h2⟩
  · simp [go_sem]
  · simp [go_sem]

theorem putR_at {r : Ry} : ∀ {l : List Ry} {k : Nat}, k ≤ l.length → (∀ i, i < k → bef (l.getD i default) r) → (k < l.length → ¬ bef (l.getD k default) r) →
    putR r l = if k < l.length ∧ ¬ bef r (l.getD k default) then l.take k ++ ⟨r.x, r.y, r.w + (l.getD k default).w⟩ :: (l.drop k).drop 1 else l.take k ++ r :: l.drop k
  | [], k, hk, _, _ => by
    have : k = 0 := by simpa using hk
    subst this
    simp [putR]
  | q :: l, 0, _, _, h => by
    have h0 : ¬ bef q r := by simpa using h (by simp)
    rw [putR, if_neg h0]
    by_cases h1 : bef r q
    · rw [if_pos h1, if_neg (fun e => e.2 (by simpa using h1))]
      simp
    · rw [if_neg h1, if_pos ⟨by simp, by simpa using h1⟩]
      simp
  | q :: l, k + 1, hk, hlt, h => by
    have h0 : bef q r := by simpa using hlt 0 (by omega)
    have ih := putR_at (r := r) (l := l) (k := k) (by simpa using hk) (fun i hi => by simpa using hlt (i + 1) (by omega)) (fun hh => by simpa using h (by simpa using hh))
    rw [putR, if_pos h0, ih]
    by_cases hc : k < l.length ∧ ¬ bef r (l.getD k default)
    · rw [if_pos hc, if_pos (by simpa using hc)]
      simp
    · rw [if_neg hc, if_neg (by simpa using hc)]
      simp

end Go.Proofs.Ytlplodkabeiimaa
