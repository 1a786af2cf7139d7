/-
  Graphs, plainly: valences are twice the edges; a connected graph has enough edges; edges out of a set are those out of the others.
-/
import Derived.Test.YtmhmdbmiimpbnaaBurn
namespace Go.Proofs.Ytmhmdbmiimpbnaa

theorem val_total {n : Int} {ls : List Lk} {N : Nat} (hn : n = N) (hg : goodL n ls = true) : sm N (valF ls) = 2 * edgeF ls := by
  have key : ∀ k, k ≤ ls.length → sm N (valF (ls.take k)) = 2 * edgeF (ls.take k) := by
    intro k
    induction k with
    | zero => intro _; simp [List.take_zero, edgeF_nil, sm_congr (g := fun _ => (0 : Int)) (f := valF []) (fun i _ => valF_nil i), sm_zero]
    | succ k ih =>
      intro hk
      obtain ⟨x, hx⟩ : ∃ x, ls.getD k Lk.z = x := ⟨_, rfl⟩
      obtain ⟨h1, h2, h3, h4, h5⟩ := good_lk hg (k := k) (by omega) hx
      obtain ⟨a, ha⟩ : ∃ a : Nat, x.a = a := ⟨x.a.toNat, by omega⟩
      obtain ⟨b, hb⟩ : ∃ b : Nat, x.b = b := ⟨x.b.toNat, by omega⟩
      have e1 : sm N (valF (ls.take (k + 1))) = sm N (valF (ls.take k)) + (sm N (fun i => if i = a then x.n else 0) + sm N (fun i => if i = b then x.n else 0)) := by
        rw [← sm_add, ← sm_add]
        refine sm_congr fun i _ => ?_
        rw [take_snoc ls k Lk.z (by omega), hx, valF_snoc, ha, hb]
        congr 1
        have e2 : ∀ u : Nat, (if (u : Int) = (i : Int) then x.n else 0) = if i = u then x.n else 0 := fun u => by
          by_cases e : i = u
          · rw [if_pos e, if_pos (by omega)]
          · rw [if_neg e, if_neg (by omega)]
        rw [e2, e2]
      rw [e1, sm_one, sm_one, if_pos (by omega), if_pos (by omega), ih (by omega), edgeF_step (by omega) hx]
      omega
  have := key ls.length (Nat.le_refl _)
  rwa [List.take_length] at this

theorem cnt_one {R R' : Nat → Bool} {y : Nat} (h : ∀ x, x ≠ y → R x = true → R' x = true) : ∀ k, cnt R k ≤ cnt R' k + if y < k then 1 else 0
  | 0 => by simp [cnt]
  | k + 1 => by
    have ih := cnt_one h k
    unfold cnt
    by_cases e : k = y
    · subst e
      rw [if_neg (Nat.lt_irrefl _)] at ih
      rw [if_pos (show k < k + 1 by omega)]
      split <;> split <;> omega
    · by_cases h1 : R k = true
      · rw [if_pos h1, if_pos (h k e h1)]
        split at ih <;> split <;> omega
      · rw [if_neg h1]
        split at ih <;> split <;> split <;> omega
theorem cnt_none : ∀ k, cnt (fun _ => false) k = 0
  | 0 => rfl
  | k + 1 => by unfold cnt; rw [cnt_none k]; simp
def imB (N : Nat) (f : Nat → Nat) (x : Nat) : Bool := (List.range N).any fun v => f v == x
theorem imB_t {N : Nat} {f : Nat → Nat} {x : Nat} : imB N f x = true ↔ ∃ v, v < N ∧ f v = x := by
  simp [imB]
theorem label_step {n : Int} {ls : List Lk} {N : Nat} (hn : n = N) (hg : goodL n ls = true) : ∀ k, k ≤ ls.length → ∃ f : Nat → Nat, (∀ i, i < k → f (ls.getD i Lk.z).a.toNat = f (ls.getD i Lk.z).b.toNat) ∧ N ≤ cnt (imB N f) N + k
  | 0, _ => ⟨id, fun i hi => by omega, by
      have := (cnt_full (imB N id) N).2 fun i hi => imB_t.2 ⟨i, hi, rfl⟩
      omega⟩
  | k + 1, hk => by
    obtain ⟨f, hf, hc⟩ := label_step hn hg k (by omega)
    obtain ⟨x, hx⟩ : ∃ x, ls.getD k Lk.z = x := ⟨_, rfl⟩
    obtain ⟨h1, h2, h3, _⟩ := good_lk hg (k := k) (by omega) hx
    refine ⟨fun v => if f v = f x.b.toNat then f x.a.toNat else f v, fun i hi => ?_, ?_⟩
    · by_cases e : i = k
      · subst e
        rw [hx]
        simp only [if_true]
        split <;> rfl
      · simp only [hf i (by omega)]
    · have := cnt_one (R := imB N f) (R' := imB N fun v => if f v = f x.b.toNat then f x.a.toNat else f v) (y := f x.b.toNat) (fun z hz hR => by
        obtain ⟨v, hv, e⟩ := imB_t.1 hR
        exact imB_t.2 ⟨v, hv, by show (if f v = f x.b.toNat then f x.a.toNat else f v) = z; rw [if_neg (by rw [e]; exact hz)]; exact e⟩) N
      split at this <;> omega
theorem conn_edges {n : Int} {ls : List Lk} {N : Nat} (hn : n = N) (hg : goodL n ls = true) (hc : connB n ls = true) : n - 1 ≤ edgeF ls := by
  obtain ⟨f, hf, hcnt⟩ := label_step hn hg ls.length (Nat.le_refl _)
  have hall : ∀ v : Int, 0 ≤ v → v < n → Reach ls v := by simpa [connB] using hc
  have hsame : ∀ v, v < N → f v = f 0 := fun v hv => by
    have := hall v (by omega) (by omega) (fun y => f y.toNat = f 0) rfl (fun i hi => by rw [hf i hi])
    simpa using this
  have h1 := cnt_one (R := imB N f) (R' := fun _ => false) (y := f 0) (fun x hx hR => by
    obtain ⟨v, hv, e⟩ := imB_t.1 hR
    exact absurd (e.symm.trans (hsame v hv)) hx) N
  rw [cnt_none] at h1
  have h2 : ∀ k, k ≤ ls.length → (k : Int) ≤ edgeF (ls.take k) := by
    intro k
    induction k with
    | zero => intro _; simp [edgeF_nil]
    | succ k ih =>
      intro hk
      obtain ⟨x, hx⟩ : ∃ x, ls.getD k Lk.z = x := ⟨_, rfl⟩
      have := good_lk hg (k := k) (by omega) hx
      have := ih (by omega)
      rw [edgeF_step (by omega) hx]
      omega
  have h3 := h2 ls.length (Nat.le_refl _)
  rw [List.take_length] at h3
  split at h1 <;> omega

theorem risB_of : ∀ {xs : List Int} {lo hi : Int}, Ris lo hi xs → ∀ j, j < xs.length → lo ≤ xs.getD j 0 ∧ xs.getD j 0 < hi ∧ (0 < j → xs.getD (j - 1) 0 < xs.getD j 0)
  | [], _, _, _, j, hj => by simp at hj
  | x :: t, lo, hi, h, 0, _ => by
    obtain ⟨h1, h2, _⟩ := h
    exact ⟨by simpa using h1, by simpa using h2, fun h => by omega⟩
  | x :: t, lo, hi, h, 1, hj => by
    obtain ⟨h1, h2, h3⟩ := h
    have := risB_of h3 0 (by rw [List.length_cons] at hj; omega)
    refine ⟨?_, ?_, fun _ => ?_⟩
    · have h := this.1; simp at h ⊢; omega
    · simpa using this.2.1
    · have h := this.1; simp at h ⊢; omega
  | x :: t, lo, hi, h, j + 2, hj => by
    obtain ⟨h1, h2, h3⟩ := h
    have := risB_of h3 (j + 1) (by rw [List.length_cons] at hj; omega)
    refine ⟨?_, ?_, fun _ => ?_⟩
    · have h := this.1; simp at h ⊢; omega
    · simpa using this.2.1
    · simpa using this.2.2 (by omega)
theorem ris_risB {xs : List Int} {hi : Int} (h : Ris 0 hi xs) : risB xs 0 (hi - 1) = true := by
  refine risB_t fun j hj => ?_
  obtain ⟨h1, h2, h3⟩ := risB_of h j hj
  unfold risAt
  rw [inB_t.2 ⟨h1, by omega⟩]
  by_cases e : j = 0
  · subst e; rfl
  · rw [decide_eq_true (h3 (by omega))]; simp
def restF (N : Nat) (set : List Int) : List Int := selF N fun v => !decide ((v : Int) ∈ set)
theorem restF_ris (N : Nat) (set : List Int) : risB (restF N set) 0 ((N : Int) - 1) = true := ris_risB (selF_ris _ N)
theorem restF_mem {N : Nat} {set : List Int} {y : Int} (h0 : 0 ≤ y) (h1 : y < N) : (y ∈ restF N set) ↔ y ∉ set := by
  unfold restF
  rw [selF_mem]
  constructor
  · rintro ⟨v, rfl, _, h⟩; simpa using h
  · intro h; exact ⟨y.toNat, by omega, by omega, by rw [show ((y.toNat : Nat) : Int) = y by omega]; simpa using h⟩
theorem link_rest {n : Int} {ls : List Lk} {N : Nat} (hn : n = N) (hg : goodL n ls = true) (set : List Int) : linkOut ls (restF N set) = linkOut ls set := by
  unfold linkOut
  refine isum_map_congr fun x hx => ?_
  obtain ⟨h1, h2, h3, _⟩ := good_mem hg hx
  have e1 : decide (x.a ∈ restF N set) = !decide (x.a ∈ set) := by rw [Bool.eq_iff_iff]; simp [restF_mem (N := N) (set := set) h1 (by omega)]
  have e2 : decide (x.b ∈ restF N set) = !decide (x.b ∈ set) := by rw [Bool.eq_iff_iff]; simp [restF_mem (N := N) (set := set) (y := x.b) (by omega) (by omega)]
  rw [e1, e2]
  cases decide (x.a ∈ set) <;> cases decide (x.b ∈ set) <;> rfl
theorem restF_len (N : Nat) (set : List Int) : (restF N set).length ≤ N := selF_len _ _

end Go.Proofs.Ytmhmdbmiimpbnaa
