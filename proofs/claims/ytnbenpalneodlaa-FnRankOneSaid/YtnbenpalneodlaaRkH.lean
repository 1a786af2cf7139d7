/-
  Choices, the reference's: plain, and the walk. By an AI agent.
-/
import Derived.Test.YtnbenpalneodlaaRkG
namespace Go.Proofs.Ytnbenpalneodlaa
open Go.RowKit

def shC (k : Nat) (r : List Int) : List Int := (k : Int) :: r.map fun x => (k : Int) + 1 + x
def rkC : Nat → Nat → List (List Int)
  | 0, _ => [[]]
  | n + 1, N => (List.range (N - n)).flatMap fun k => (rkC n (N - k - 1)).map (shC k)
def rcT (n N j : Nat) : List (List Int) := (List.range j).flatMap fun k => (rkC n (N - k - 1)).map (shC k)
theorem rcT_succ (n N j : Nat) : rcT n N (j + 1) = rcT n N j ++ (rkC n (N - j - 1)).map (shC j) := by
  unfold rcT
  rw [List.range_succ, List.flatMap_append]
  simp
theorem rkC_succ (n N : Nat) : rkC (n + 1) N = rcT n N (N - n) := rfl
theorem shC_len (k : Nat) (r : List Int) : (shC k r).length = r.length + 1 := by simp [shC]
theorem vx_sh0 (k : Nat) (r : List Int) : vx (shC k r) 0 = k := by simp [vx, shC]
theorem vx_sh {k N : Nat} {r : List Int} (hv : vtB N r = true) {i : Nat} (hi : i < r.length) : (shC k r).getD (i + 1) 0 = (k : Int) + 1 + r.getD i 0 ∧ vx (shC k r) (i + 1) = k + 1 + vx r i := by
  have h1 := vt_at hv hi
  have h2 : (shC k r).getD (i + 1) 0 = (k : Int) + 1 + r.getD i 0 := by
    unfold shC
    rw [List.getD_cons_succ, List.getD_eq_getElem?_getD, List.getElem?_map, List.getElem?_eq_getElem hi, List.getD_eq_getElem?_getD, List.getElem?_eq_getElem hi]
    rfl
  refine ⟨h2, ?_⟩
  have h3 : vx (shC k r) (i + 1) = ((k : Int) + 1 + r.getD i 0).toNat := by unfold vx; rw [h2]
  rw [h3, h1.1]
  omega
theorem shC_chs {k N : Nat} {r : List Int} (h : Chs (N - k - 1) r (N - k - 1)) (hk : k < N) : Chs N (shC k r) N := by
  refine ⟨?_, fun i j hij hj => ?_, fun i hi => ?_⟩
  · unfold vtB
    refine allB_t.2 fun t ht => ?_
    rw [shC_len] at ht
    cases t with
    | zero => simp only [shC, List.getD_cons_zero]; omega
    | succ t =>
      have h1 := vt_at h.vt (t := t) (by omega)
      rw [(vx_sh h.vt (by omega)).1]
      omega
  · rw [shC_len] at hj
    cases j with
    | zero => omega
    | succ j =>
      rw [(vx_sh h.vt (by omega)).2]
      cases i with
      | zero => rw [vx_sh0]; omega
      | succ i => rw [(vx_sh h.vt (by omega)).2]; have := h.inc i j (by omega) (by omega); omega
  · rw [shC_len] at hi
    cases i with
    | zero => rw [vx_sh0]; exact hk
    | succ i => rw [(vx_sh h.vt (by omega)).2]; have := h.lt i (by omega); omega
theorem chs_steps {N : Nat} {c : List Int} (h : Chs N c N) : ∀ i, i < c.length → vx c 0 + i ≤ vx c i
  | 0, _ => Nat.le_refl _
  | i + 1, hi => by
    have h1 := chs_steps h i (by omega)
    have h2 := h.inc i (i + 1) (by omega) hi
    omega
theorem rkC_mem : ∀ {n N : Nat} {c : List Int}, c ∈ rkC n N ↔ c.length = n ∧ Chs N c N
  | 0, N, c => by
    unfold rkC
    rw [List.mem_singleton]
    constructor
    · rintro rfl
      exact ⟨rfl, (Chs.nil N).mono (Nat.zero_le _)⟩
    · rintro ⟨h, _⟩
      exact List.length_eq_zero_iff.1 h
  | n + 1, N, c => by
    unfold rkC
    rw [List.mem_flatMap]
    constructor
    · rintro ⟨k, hk, hc⟩
      rw [List.mem_range] at hk
      rw [List.mem_map] at hc
      obtain ⟨r, hr, rfl⟩ := hc
      obtain ⟨h1, h2⟩ := rkC_mem.1 hr
      exact ⟨by rw [shC_len, h1], shC_chs h2 (by omega)⟩
    · rintro ⟨h1, h2⟩
      cases c with
      | nil => simp at h1
      | cons x r =>
        have g0 := vt_at h2.vt (t := 0) (by simp)
        have gx : vx (x :: r) 0 = x.toNat := rfl
        rw [gx, List.getD_cons_zero] at g0
        obtain ⟨k, rfl⟩ : ∃ k : Nat, x = (k : Int) := ⟨x.toNat, by omega⟩
        rw [Int.toNat_natCast] at gx
        simp only [List.length_cons] at h1
        have gs := chs_steps h2 n (by simp; omega)
        have gn := h2.lt n (by simp; omega)
        rw [gx] at gs
        have gr : ∀ i, i < r.length → r.getD i 0 = (vx r i : Int) ∧ k < vx r i ∧ vx r i < N := fun i hi => by
          have e1 : (((k : Int) :: r).getD (i + 1) 0) = r.getD i 0 := List.getD_cons_succ
          have e2 : vx ((k : Int) :: r) (i + 1) = vx r i := by unfold vx; rw [e1]
          have h3 := vt_at h2.vt (t := i + 1) (by simp; omega)
          have h4 := h2.inc 0 (i + 1) (by omega) (by simp; omega)
          rw [e1, e2] at h3
          rw [gx, e2] at h4
          exact ⟨h3.1, h4, h3.2⟩
        have e0 : r = (r.map fun x => x - ((k : Int) + 1)).map fun x => (k : Int) + 1 + x := by
          rw [List.map_map]
          conv => lhs; rw [← List.map_id r]
          exact List.map_congr_left fun a _ => by simp only [Function.comp, id]; omega
        have gd : ∀ i, i < r.length → (r.map fun x => x - ((k : Int) + 1)).getD i 0 = r.getD i 0 - ((k : Int) + 1) := fun i hi => by
          rw [List.getD_eq_getElem?_getD, List.getElem?_map, List.getElem?_eq_getElem hi, List.getD_eq_getElem?_getD, List.getElem?_eq_getElem hi]
          rfl
        have gv : ∀ i, i < r.length → vx (r.map fun x => x - ((k : Int) + 1)) i = vx r i - (k + 1) := fun i hi => by
          have h3 := gr i hi
          have : vx (r.map fun x => x - ((k : Int) + 1)) i = (r.getD i 0 - ((k : Int) + 1)).toNat := by unfold vx; rw [gd i hi]
          rw [this, h3.1]
          omega
        refine ⟨k, List.mem_range.2 (by omega), List.mem_map.2 ⟨r.map fun x => x - ((k : Int) + 1), rkC_mem.2 ⟨by rw [List.length_map]; omega, ⟨?_, fun i j hij hj => ?_, fun i hi => ?_⟩⟩, ?_⟩⟩
        · unfold vtB
          refine allB_t.2 fun t ht => ?_
          rw [List.length_map] at ht
          rw [gd t ht]
          have h3 := gr t ht
          omega
        · rw [List.length_map] at hj
          rw [gv i (by omega), gv j hj]
          have e2 : ∀ t, vx ((k : Int) :: r) (t + 1) = vx r t := fun t => rfl
          have h4 := h2.inc (i + 1) (j + 1) (by omega) (by simp; omega)
          rw [e2, e2] at h4
          have := gr i (by omega)
          omega
        · rw [List.length_map] at hi
          rw [gv i hi]
          have := gr i hi
          omega
        · unfold shC
          rw [← e0]
theorem rkC_len : ∀ (n : Nat) {N : Nat}, N ≤ 6 → (rkC n N).length ≤ 6 ^ n
  | 0, N, _ => by simp [rkC]
  | n + 1, N, hN => by
    have hT : ∀ j, (rcT n N j).length ≤ j * 6 ^ n := by
      intro j
      induction j with
      | zero => simp [rcT]
      | succ j ih =>
        rw [rcT_succ, List.length_append, Nat.add_mul, Nat.one_mul, List.length_map]
        exact Nat.add_le_add ih (rkC_len n (by omega))
    rw [rkC_succ, Nat.pow_succ]
    have h2 := hT (N - n)
    have h3 : (N - n) * 6 ^ n ≤ 6 * 6 ^ n := Nat.mul_le_mul_right _ (by omega)
    omega
/-- both lists of choices hold the same. -/
theorem cq_any (N n : Nat) (q : List Int → Bool) : (rkC n N).any q = (cqA N n).any q := by
  rw [Bool.eq_iff_iff, List.any_eq_true, List.any_eq_true]
  constructor
  · rintro ⟨c, h1, h2⟩
    exact ⟨c, cqA_mem.2 (rkC_mem.1 h1), h2⟩
  · rintro ⟨c, h1, h2⟩
    exact ⟨c, rkC_mem.2 (cqA_mem.1 h1), h2⟩
theorem hasR_any (R C n : Nat) (m : Nat → Nat → Int) : hasR R C n m = (rkC n R).any fun r => (rkC n C).any fun c => regF n (ptM m r c) := by
  rw [cq_any]
  unfold hasR outB6
  rw [List.not_all_eq_any_not]
  congr 1
  funext r
  rw [cq_any]
  unfold inB6
  rw [List.not_all_eq_any_not]
  congr 1
  funext c
  rw [Bool.not_not]
end Go.Proofs.Ytnbenpalneodlaa
