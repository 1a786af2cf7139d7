/-
  Some texts of this proof in one: WyF WyB WyC WyD. Each part tells what it proves. By an AI agent.
-/
import Derived.Test.YtfgdhlnmndgjbaaGreatDoorMxI
import Derived.Test.YtfgdhlnmndgjbaaGreatDoorWyP
import Derived.StillTailTactics

/-
  The program's costs of cheapest ways. By an AI agent.
-/
namespace Go.Proofs.YtfgdhlnmndgjbaaGreatDoor
open Go.RowKit

theorem MatO.rowF {w : World} {B n : Nat} {v : Value} {F : Nat → Nat → Int} {vs : List Value} (h : MatO w B v (toM n F) vs) {i : Nat} (hi : i < n) : ∃ b o c, vs.getD i undef = .slice (some ⟨b, o, none⟩) n c ∧ B ≤ b ∧ b < w.heap.size ∧
    (∀ j, j < n → w.cell? ⟨b, o + j, none⟩ = some (.int .i64 (F i j)) ∧ w.frozen? ⟨b, o + j, none⟩ = false) ∧ ∀ j x, j < n → MatO (w.setCell ⟨b, o + j, none⟩ (.int .i64 x)) B v (toM n (fun a c => if a = i ∧ c = j then x else F a c)) vs := by
  have e1 : ((toM n F).getD i []).length = n := by rw [toM_row F hi, tab_length]
  obtain ⟨h1, h2, h3, h4⟩ := h.rowOf (i := i) (by rw [toM_len]; exact hi) (by rw [e1]; omega)
  rw [e1] at h1 h4
  refine ⟨_, _, _, h1, h2, h3, fun j hj => ?_, fun j x hj => ?_⟩
  · have := h4 j hj
    rwa [toM_row F hi, tab_getD hj] at this
  · have := h.set (i := i) (j := j) (by rw [toM_len]; exact hi) (by rw [e1]; exact hj) x
    rwa [toM_set F j x hi] at this
theorem MatO.outer {w : World} {B n cap g : Nat} {F : Nat → Nat → Int} {vs : List Value} (h : MatO w B (.slice (some ⟨g, 0, none⟩) n cap) (toM n F) vs) (hn : 0 < n) : B ≤ g ∧ g < w.heap.size ∧ ∀ i, i < n → w.cell? ⟨g, i, none⟩ = some (vs.getD i undef) := by
  obtain ⟨g', cap', e, hB, _, ho⟩ := h.cells (by rw [toM_len]; exact hn)
  injection e with e _ _
  injection e with e
  injection e with e _ _
  subst e
  refine ⟨hB, ho.lt, fun i hi => ho.cell? ?_⟩
  have : i < vs.length := by rw [h.len, toM_len]; exact hi
  simp [List.getD, this]
def okF (n : Nat) (D : Nat → Nat → Int) : Bool := (List.range n).all fun i => decide (0 ≤ D i i)
theorem leastZ_if (a b : Int) : (if b < a then b else a) = leastZ a b := by unfold leastZ; split <;> split <;> omega
theorem okF_t {n : Nat} {D : Nat → Nat → Int} : okF n D = true ↔ ∀ i, i < n → 0 ≤ D i i := by
  unfold okF
  rw [List.all_eq_true]
  simp
theorem okF_f {n : Nat} {D : Nat → Nat → Int} {i : Nat} (hi : i < n) (h : D i i < 0) : okF n D = false := by
  rw [Bool.eq_false_iff]
  intro h2
  have := okF_t.1 h2 i hi
  omega
/-- The diagonal so far. -/
def dgF (m : Nat → Nat → Int) (k : Nat) : Nat → Nat → Int := fun i j => if i = j ∧ i < k then leastZ (m i i) 0 else m i j
/-- What is told of costs. -/
def WayR (n : Nat) (D : Nat → Nat → Int) (w : World) (e : Ending) (w' : World) : Prop :=
  (okF n D = true → ∃ adv cav, e = .returned (.tuple #[.slice adv n cav, .bool true]) ∧ ∃ vs, MatO w' w.heap.size (.slice adv n cav) (toM n D) vs) ∧ (okF n D = false → e = .returned (.tuple #[.slice none 0 0, .bool false])) ∧ Below w.heap.size w w'

end Go.Proofs.YtfgdhlnmndgjbaaGreatDoor

/-
  The reference's costs of cheapest ways. Printed by gen_wyB.py.
-/
namespace Go.Proofs.YtfgdhlnmndgjbaaGreatDoor
open Go.RowKit
def unF (i k : Nat) : Int := if i = k then 0 else 1000000000
theorem RowI.blk {w : World} {K : Nat} {u : Value} {r : List Int} (h : RowI w K u r) : ∀ q, u.ownBlock = some q → K ≤ q := fun q hq => (World.ownsRow.lt h q hq).1
theorem RowI.shp {w : World} {K : Nat} {u : Value} {r : List Int} (h : RowI w K u r) (h0 : 0 < r.length) : ∃ g cap, u = .slice (some ⟨g, 0, none⟩) r.length cap ∧ K ≤ g := by
  rcases Own.of_row h with ⟨_, h1, _⟩ | ⟨g, cap, h1, hg, _⟩
  · omega
  · exact ⟨g, cap, h1, hg⟩
theorem tab_takeS {α : Type} (n : Nat) (f : Nat → α) {k : Nat} (h : k < n) : (tab n f).take (k + 1) = (tab n f).take k ++ [f k] := by
  have hl := tab_length n f
  rw [List.take_succ_eq_append_getElem (by omega)]
  congr 2
  simp [tab]
theorem tab_all {α : Type} (n : Nat) (f : Nat → α) : (tab n f).take n = tab n f := by rw [List.take_of_length_le]; rw [tab_length]; exact Nat.le_refl _
theorem tab_takeL {α : Type} (n : Nat) (f : Nat → α) {k : Nat} (h : k ≤ n) : ((tab n f).take k).length = k := by rw [List.length_take, tab_length]; omega

end Go.Proofs.YtfgdhlnmndgjbaaGreatDoor

/-
  The reference's costs of cheapest ways: a step, all of them. By an AI agent.
-/
namespace Go.Proofs.YtfgdhlnmndgjbaaGreatDoor
open Go.RowKit

theorem RdM.rowF {w : World} {ad : Option Addr} {n : Nat} {F : Nat → Nat → Int} (h : RdM w ad (toM n F)) (hn : 0 < n) : ∃ b off, ad = some ⟨b, off, none⟩ ∧ b < w.heap.size ∧ ∀ i, i < n → ∃ b2 o2 c, w.cell? ⟨b, off + i, none⟩ = some (.slice (some ⟨b2, o2, none⟩) n c) ∧ b2 < w.heap.size ∧ ∀ j, j < n → w.cell? ⟨b2, o2 + j, none⟩ = some (.int .i64 (F i j)) := by
  obtain ⟨b, off, a, c, rfl, hb, _⟩ := h 0 (by rw [toM_len]; exact hn)
  refine ⟨b, off, rfl, hb, fun i hi => ?_⟩
  obtain ⟨a, c, hc, hr⟩ := h.at (i := i) (by rw [toM_len]; exact hi)
  rw [toM_row F hi, tab_length] at hc
  rw [toM_row F hi] at hr
  obtain ⟨b2, o2, rfl, hb2, _⟩ := hr 0 (by rw [tab_length]; exact hn)
  refine ⟨b2, o2, c, hc, hb2, fun j hj => ?_⟩
  have := hr.at (j := j) (by rw [tab_length]; exact hj)
  rwa [tab_getD hj] at this
def stepF (n : Nat) (m C : Nat → Nat → Int) : Nat → Nat → Int := fun i k => mnF (C i k) (fun j => prodZ (C i j) (m j k)) n
theorem bf_step (n : Nat) (m : Nat → Nat → Int) (s : Nat) : bf n m (s + 1) = stepF n m (bf n m s) := by
  funext i k
  rw [bf]
  rfl
theorem bf_zero (n : Nat) (m : Nat → Nat → Int) : bf n m 0 = unF := by
  funext i k
  rw [bf]
  rfl
/-- The step on its way. -/
def stS (n : Nat) (m C : Nat → Nat → Int) (i j k : Nat) : Nat → Nat → Int := fun a b => mnF (C a b) (fun q => prodZ (C a q) (m q b)) (if a < i then n else if a = i then (if b < k then j + 1 else j) else 0)
theorem stS_start (n : Nat) (m C : Nat → Nat → Int) : stS n m C 0 0 0 = C := by
  funext a b
  unfold stS
  rw [if_neg (by omega)]
  split
  · rw [if_neg (by omega)]; rfl
  · rfl
theorem stS_next (n : Nat) (m C : Nat → Nat → Int) (i j k : Nat) : (fun a b => if a = i ∧ b = k then leastZ (stS n m C i j k i k) (prodZ (C i j) (m j k)) else stS n m C i j k a b) = stS n m C i j (k + 1) := by
  funext a b
  by_cases h : a = i ∧ b = k
  · obtain ⟨rfl, rfl⟩ := h
    rw [if_pos ⟨rfl, rfl⟩]
    unfold stS
    have e1 : (if a < a then n else if a = a then (if b < b then j + 1 else j) else 0) = j := by simp
    have e2 : (if a < a then n else if a = a then (if b < b + 1 then j + 1 else j) else 0) = j + 1 := by simp
    rw [e1, e2]
    rfl
  · rw [if_neg h]
    unfold stS
    congr 1
    by_cases h1 : a < i
    · rw [if_pos h1, if_pos h1]
    · rw [if_neg h1, if_neg h1]
      by_cases h2 : a = i
      · rw [if_pos h2, if_pos h2]
        by_cases h3 : b < k
        · rw [if_pos h3, if_pos (by omega)]
        · rw [if_neg h3, if_neg (by omega)]
      · rw [if_neg h2, if_neg h2]
theorem stS_row (n : Nat) (m C : Nat → Nat → Int) (i j : Nat) : toM n (stS n m C i j n) = toM n (stS n m C i (j + 1) 0) := toM_congr fun a b ha hb => by
  unfold stS
  congr 1
  by_cases h1 : a < i
  · rw [if_pos h1, if_pos h1]
  · rw [if_neg h1, if_neg h1]
    by_cases h2 : a = i
    · rw [if_pos h2, if_pos h2, if_pos hb, if_neg (by omega)]
    · rw [if_neg h2, if_neg h2]
theorem stS_col (n : Nat) (m C : Nat → Nat → Int) (i : Nat) : stS n m C i n 0 = stS n m C (i + 1) 0 0 := by
  funext a b
  unfold stS
  congr 1
  by_cases h1 : a < i
  · rw [if_pos h1, if_pos (by omega)]
  · rw [if_neg h1]
    by_cases h2 : a = i
    · rw [if_pos h2, if_neg (by omega), if_pos (by omega)]
    · rw [if_neg h2, if_neg (by omega)]
      split
      · rw [if_neg (by omega)]
      · rfl
theorem stS_end (n : Nat) (m C : Nat → Nat → Int) : toM n (stS n m C n 0 0) = toM n (stepF n m C) := toM_congr fun a b ha hb => by
  unfold stS stepF
  rw [if_pos ha]
theorem mnF_bd {a : Int} {f : Nat → Int} {K : Int} (ha : -K ≤ a ∧ a ≤ K) : ∀ k, (∀ j, j < k → -K ≤ f j ∧ f j ≤ K) → -K ≤ mnF a f k ∧ mnF a f k ≤ K
  | 0, _ => ha
  | k + 1, h => by
    have h1 := mnF_bd ha k (fun j hj => h j (by omega))
    have h2 := h k (by omega)
    unfold mnF leastZ
    split <;> omega

/-- Whether costs stay. -/
def okB (n : Nat) (m : Nat → Nat → Int) : Bool := decide (toM n (bf n m n) = toM n (bf n m (n + 1)))
end Go.Proofs.YtfgdhlnmndgjbaaGreatDoor

/-
  Costs of cheapest ways that are numbers: program and reference. By an AI agent.
-/
namespace Go.Proofs.YtfgdhlnmndgjbaaGreatDoor
open Go.RowKit

def nmB (M : List (List Int)) : Bool := M.all fun r => r.all numB
def disM (M : List (List Int)) : List (List Int) := toM M.length (bf M.length (entM M) M.length)
def okW (M : List (List Int)) : Bool := sqB M && okB M.length (entM M)
def cosB (M : List (List Int)) : Bool := okW M && nmB (disM M)
def onM (B : Bool) (X : List (List Int)) : List (List Int) := if B = true then X else []
def ManR (B : Bool) (X : List (List Int)) (w : World) (e : Ending) (w' : World) : Prop := ∃ ad cap, e = .returned (.tuple #[.slice ad (onM B X).length cap, .bool B]) ∧ RdM w' ad (onM B X) ∧ Below w.heap.size w w'
theorem ManR.no {w w' : World} (X : List (List Int)) (hb : Below w.heap.size w w') : ManR false X w (.returned (.tuple #[.slice none 0 0, .bool false])) w' := ⟨none, 0, rfl, RdM.nil _ _, hb⟩
theorem ManR.yes {w w' : World} {ad : Option Addr} {cap n : Nat} {X : List (List Int)} (h : RdM w' ad X) (hn : X.length = n) (hb : Below w.heap.size w w') : ManR true X w (.returned (.tuple #[.slice ad n cap, .bool true])) w' := by
  subst hn
  exact ⟨ad, cap, rfl, h, hb⟩
theorem toM_inj {n : Nat} {F G : Nat → Nat → Int} : toM n F = toM n G ↔ ∀ i j, i < n → j < n → F i j = G i j := by
  constructor
  · intro h i j hi hj
    have h1 := congrArg (fun M => (M.getD i []).getD j 0) h
    rw [toM_row F hi, toM_row G hi, tab_getD hj, tab_getD hj] at h1
    exact h1
  · exact toM_congr
theorem okB_t {n : Nat} {m : Nat → Nat → Int} : okB n m = true ↔ ∀ i k, i < n → k < n → bf n m n i k = bf n m (n + 1) i k := by
  unfold okB
  rw [decide_eq_true_iff, toM_inj]
theorem ok_same {n : Nat} {m : Nat → Nat → Int} (hm : ∀ a b, a < n → b < n → numB (m a b) = true) (hn6 : n ≤ 6) : okF n (fwK n (fw0 m) n) = okB n m := by
  rw [Bool.eq_iff_iff, okF_t, okB_t]
  exact ways_ok hm hn6
theorem dis_same {n : Nat} {m : Nat → Nat → Int} (hm : ∀ a b, a < n → b < n → numB (m a b) = true) (hn6 : n ≤ 6) (hok : okB n m = true) : toM n (fwK n (fw0 m) n) = toM n (bf n m n) :=
  toM_congr fun i j hi hj => ways_eq hm hn6 (okF_t.1 (by rw [ok_same hm hn6]; exact hok)) hi hj

theorem dis_len (M : List (List Int)) : (disM M).length = M.length := toM_len _ _
theorem dis_row (M : List (List Int)) {i : Nat} (h : i < M.length) : ((disM M).getD i []).length = M.length := by unfold disM; rw [toM_row _ h, tab_length]
def smM (M : List (List Int)) : Prop := M.length ≤ 100000 ∧ ∀ i, i < M.length → (M.getD i []).length ≤ 100000

end Go.Proofs.YtfgdhlnmndgjbaaGreatDoor
