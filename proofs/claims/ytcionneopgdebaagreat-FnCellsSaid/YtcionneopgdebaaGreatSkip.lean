/-
  Some texts of this proof in one: Skip RegI. Each part tells what it proves. By an AI agent.
-/
import Derived.Test.YtcionneopgdebaaGreatLaws
import Derived.Deep.RegionHeld3

/-
  In a region that draws its order: an operation that is skipped may be taken first. By an AI agent.
-/
namespace Go.Proofs.YtcionneopgdebaaGreat
open Go.RowKit

/-- Number i, whose guard is false, is taken first: its temporary d holds nothing. -/
theorem wpAnyH_skip {P : Program} {ops : Array Oper} {Q : Exit → Act → World → Prop} {md : Region.Mode} {S : World → Prop} (i d : Nat) {fuel : Nat} {listed : Array Bool} {a : Act} {w : World}
    (hd : (ops[i]?).map (fun o => (o.dst, Region.wanted o (yielded ops a.tmps))) = some (some d, false))
    (hs : Region.noSelect ops = true) (hf : Region.free md ops listed i = true) (hr : (Region.ready md ops listed).contains i = true)
    (hQ : ∀ c a w, Q (.panic c) (a.put (some d) undef) w → Q (.panic c) a w) (hS : S w)
    (h : wpAnyH P md ops Q S fuel (listed.setIfInBounds i true) (a.put (some d) undef) w) : wpAnyH P md ops Q S (fuel + 1) listed a w := by
  cases ho : ops[i]? with
  | none => rw [ho] at hd; cases hd
  | some o =>
    rw [ho] at hd
    have e := Option.some.inj hd
    have e1 : o.dst = some d := congrArg Prod.fst e
    have e2 : Region.wanted o (yielded ops a.tmps) = false := congrArg Prod.snd e
    exact wpAnyH_take ho hs hf hr (by rw [e1]; exact hQ) (Or.inr ⟨e2, rfl⟩) hS (by rw [e1]; exact h)

end Go.Proofs.YtcionneopgdebaaGreat

/-
  A region that draws its order, by an invariant: each operation is walked once, whichever have come up before it. By an AI agent.
-/
namespace Go.Proofs.YtcionneopgdebaaGreat
open Go.RowKit

section
variable {P : Program} {ops : Array Oper} {Q : Exit → Act → World → Prop} {md : Region.Mode}
/-- What operation i waits for. -/
def waitsR (md : Region.Mode) (ops : Array Oper) (i : Nat) : List Nat := match ops[i]? with
  | some o => (o.after.toList.filter (Region.binds md)).map (·.on)
  | none => []
def lowR (md : Region.Mode) (ops : Array Oper) : Bool := (List.range ops.size).all fun i => (waitsR md ops i).all fun k => decide (k < i)
theorem lowR_t (h : lowR md ops = true) {i k : Nat} (hk : k ∈ waitsR md ops i) : k < i := by
  unfold lowR at h
  rw [List.all_eq_true] at h
  by_cases hi : i < ops.size
  · have := List.all_eq_true.1 (h i (List.mem_range.2 hi)) k hk
    simpa using this
  · unfold waitsR at hk
    rw [Array.getElem?_eq_none (by omega)] at hk
    cases hk
theorem mem_waitsR {i : Nat} {o : Oper} (ho : ops[i]? = some o) {e} (he : e ∈ o.after) (hb : Region.binds md e = true) : e.on ∈ waitsR md ops i := by
  unfold waitsR
  rw [ho]
  exact List.mem_map.2 ⟨e, List.mem_filter.2 ⟨by simpa using he, hb⟩, rfl⟩
theorem getD_fT {l : Array Bool} {k : Nat} (h : l.getD k false = true) : l.getD k true = true := by
  simp only [Array.getD_eq_getD_getElem?] at h ⊢
  cases e : l[k]? with
  | none => rw [e] at h; simp at h
  | some b => rw [e] at h; simpa using h
theorem getD_tF {l : Array Bool} {k : Nat} (hk : k < l.size) (h : l.getD k true = true) : l.getD k false = true := by
  simp only [Array.getD_eq_getD_getElem?, Array.getElem?_eq_getElem hk, Option.getD_some] at h ⊢
  exact h
theorem all_listed (hl : lowR md ops = true) {listed : Array Bool} (hs : listed.size = ops.size) (hr : Region.ready md ops listed = []) : ∀ i, i < ops.size → listed.getD i true = true := by
  intro i
  induction i using Nat.strongRecOn with
  | ind i ih =>
    intro hi
    cases e : listed.getD i true with
    | true => rfl
    | false =>
      have : i ∈ Region.ready md ops listed := mem_ready.2 ⟨e, ops[i], Array.getElem?_eq_getElem hi, fun x hx hb => by
        have h1 := lowR_t hl (mem_waitsR (Array.getElem?_eq_getElem hi) hx hb)
        exact getD_tF (by omega) (ih _ h1 (by omega))⟩
      rw [hr] at this
      cases this
def unlR (l : Array Bool) : Nat := l.toList.countP (fun b => !b)
theorem countP_on : ∀ {L : List Bool} {i : Nat}, L[i]? = some false → (L.set i true).countP (fun b => !b) + 1 ≤ L.countP (fun b => !b)
  | [], _, h => by cases h
  | b :: L, 0, h => by
    simp only [List.getElem?_cons_zero, Option.some.injEq] at h
    subst h
    simp
  | b :: L, i + 1, h => by
    simp only [List.getElem?_cons_succ] at h
    have := countP_on h
    simp only [List.set_cons_succ, List.countP_cons]
    omega
theorem unlR_set {l : Array Bool} {i : Nat} (hi : i < l.size) (h : l.getD i true = false) : unlR (l.setIfInBounds i true) + 1 ≤ unlR l := by
  unfold unlR
  rw [Array.toList_setIfInBounds]
  refine countP_on ?_
  simp only [Array.getD_eq_getD_getElem?, Array.getElem?_eq_getElem hi, Option.getD_some] at h
  simp [h, hi]
theorem unlR_all {l : Array Bool} (h : unlR l = 0) : ∀ i, l.getD i true = true := by
  unfold unlR at h
  rw [List.countP_eq_zero] at h
  intro i
  simp only [Array.getD_eq_getD_getElem?]
  cases e : l[i]? with
  | none => rfl
  | some b =>
    have h1 := h b (List.mem_of_getElem? (i := i) (by simpa using e))
    simpa using h1
theorem getD_setI {l : Array Bool} {i : Nat} (j : Nat) : (l.setIfInBounds i true).getD j true = if j = i then true else l.getD j true := by
  simp only [Array.getD_eq_getD_getElem?, Array.getElem?_setIfInBounds]
  by_cases h : j = i
  · subst h
    rw [if_pos rfl, if_pos rfl]
    split <;> rfl
  · rw [if_neg (fun e => h e.symm), if_neg h]
/-- Which have come up (L), the frame and the world: what holds of them whatever has come up, holds at the end. -/
theorem wpAny_inv {I : (Nat → Bool) → Act → World → Prop} (hlow : lowR md ops = true) (hend : ∀ L a w, I L a w → (∀ i, i < ops.size → L i = true) → Q .normal a w)
    (hstep : ∀ i L a w, I L a w → i < ops.size → L i = false → (∀ k, (waitsR md ops i).contains k = true → L k = true) → wpOp P ops Q i (fun a' w' => I (fun j => if j = i then true else L j) a' w') a w) :
    ∀ (fuel : Nat) (listed : Array Bool) (a : Act) (w : World), listed.size = ops.size → unlR listed ≤ fuel → I (fun j => listed.getD j true) a w → wpAny P md ops Q fuel listed a w := by
  intro fuel
  induction fuel with
  | zero =>
    intro listed a w hs hu hi
    have h0 := unlR_all (show unlR listed = 0 by omega)
    refine ⟨?_, hend _ _ _ hi (fun i _ => h0 i)⟩
    cases e : Region.ready md ops listed with
    | nil => rfl
    | cons j rs =>
      have : j ∈ Region.ready md ops listed := by rw [e]; simp
      have := (mem_ready.1 this).1
      rw [h0 j] at this
      cases this
  | succ fuel ih =>
    intro listed a w hs hu hi
    refine ⟨fun hr => hend _ _ _ hi (all_listed hlow hs hr), fun i hr => ?_⟩
    obtain ⟨h1, o, ho, h2⟩ := mem_ready.1 hr
    have hsz : i < ops.size := by
      rcases Nat.lt_or_ge i ops.size with g | g
      · exact g
      · rw [Array.getElem?_eq_none g] at ho; cases ho
    refine wpOp_mono (fun a' w' h => ?_) (hstep i _ a w hi hsz h1 (fun k hk => ?_))
    · refine ih _ a' w' (by simpa using hs) ?_ ?_
      · have := unlR_set (by omega) h1
        omega
      · have e : (fun j => (listed.setIfInBounds i true).getD j true) = fun j => if j = i then true else listed.getD j true := funext fun j => getD_setI j
        rw [e]
        exact h
    · rw [List.contains_iff_mem] at hk
      unfold waitsR at hk
      rw [ho] at hk
      obtain ⟨e, he, rfl⟩ := List.mem_map.1 hk
      obtain ⟨he1, he2⟩ := List.mem_filter.1 he
      exact getD_fT (h2 e (by simpa using he1) he2)
/-- The beginning. -/
theorem wp_region_inv {id : Nat} {a : Act} {w : World} (I : (Nat → Bool) → Act → World → Prop) (hm : P.follows .mixedOrders = true) (hlow : lowR .any ops = true) (h0 : I (fun j => decide (ops.size ≤ j)) a w.drew) (hend : ∀ L a w, I L a w → (∀ i, i < ops.size → L i = true) → Q .normal a w)
    (hstep : ∀ i L a w, I L a w → i < ops.size → L i = false → (∀ k, (waitsR .any ops i).contains k = true → L k = true) → wpOp P ops Q i (fun a' w' => I (fun j => if j = i then true else L j) a' w') a w) : (Code.region id ops true).wp P Q a w := by
  refine wp_region_any hm (wpAny_inv hlow hend hstep _ _ _ _ (by simp) ?_ ?_)
  · unfold unlR
    exact Nat.le_trans List.countP_le_length (by simp)
  · have e : (fun j => (Array.replicate ops.size false).getD j true) = fun j => decide (ops.size ≤ j) := funext fun j => by
      simp only [Array.getD_eq_getD_getElem?, Array.getElem?_replicate]
      by_cases h : j < ops.size
      · rw [if_pos h]; symm; simpa using h
      · rw [if_neg h]; symm; simp; omega
    rw [e]
    exact h0
end
end Go.Proofs.YtcionneopgdebaaGreat
