/-
  Some texts of this proof in one: WyG WyH WyI WyJ. Each part tells what it proves. By an AI agent.
-/
import Derived.Test.YtjlkgioinogbkaaWyD
import Derived.Deep.DeepCutAuto

/-
  Potentials: program and reference. By an AI agent.
-/
namespace Go.Proofs.Ytjlkgioinogbkaa
open Go.RowKit

def potF (M : List (List Int)) (k : Nat) : Int := mnF 1000000000 (fun i => bf M.length (entM M) M.length i k) M.length
def potL (M : List (List Int)) : List Int := tab M.length (potF M)
def potB (M : List (List Int)) : Bool := okW M && (potL M).all numB
def onL (B : Bool) (X : List Int) : List Int := if B = true then X else []
def LisR (B : Bool) (X : List Int) (w : World) (e : Ending) (w' : World) : Prop := ∃ ad cap, e = .returned (.tuple #[.slice ad (onL B X).length cap, .bool B]) ∧ RdI w' ad (onL B X) ∧ Below w.heap.size w w'
theorem LisR.no {w w' : World} (X : List Int) (hb : Below w.heap.size w w') : LisR false X w (.returned (.tuple #[.slice none 0 0, .bool false])) w' := ⟨none, 0, rfl, RdI.nil _ _, hb⟩
theorem LisR.yes {w w' : World} {ad : Option Addr} {cap n : Nat} {X : List Int} (h : RdI w' ad X) (hn : X.length = n) (hb : Below w.heap.size w w') : LisR true X w (.returned (.tuple #[.slice ad n cap, .bool true])) w' := by
  subst hn
  exact ⟨ad, cap, rfl, h, hb⟩
theorem pot_le {M : List (List Int)} (_hs : sqB M = true) {k : Nat} (hk : k < M.length) : potF M k ≤ 0 := by
  have h1 := mnF_le 1000000000 (fun i => bf M.length (entM M) M.length i k) hk
  have h2 := bf_mono (n := M.length) (m := entM M) (Nat.zero_le M.length) k k
  rw [bf_zero] at h2
  unfold unF at h2
  rw [if_pos rfl] at h2
  unfold potF
  omega
/-- No potential is Infinity. -/
theorem pot_num {M : List (List Int)} (hs : sqB M = true) : (potL M).all numB = allB (potL M) (-1000000) 1000000 := by
  unfold allB
  rw [Bool.eq_iff_iff, List.all_eq_true, List.all_eq_true]
  have h : ∀ x ∈ potL M, x ≤ 0 := fun x hx => by
    unfold potL tab at hx
    obtain ⟨k, hk, rfl⟩ := List.mem_map.1 hx
    exact pot_le hs (by simpa using hk)
  constructor
  · intro h1 x hx
    have := numB_t (h1 x hx)
    have := h x hx
    exact inB_t.2 (by omega)
  · intro h1 x hx
    have := inB_t.1 (h1 x hx)
    unfold numB
    rw [inB_t.2 (by omega)]
    rfl

end Go.Proofs.Ytjlkgioinogbkaa

/-
  The centre: program and reference. By an AI agent.
-/
namespace Go.Proofs.Ytjlkgioinogbkaa
open Go.RowKit

def mstZ (a b : Int) : Int := if b < a then a else b
def mxF (a : Int) (f : Nat → Int) : Nat → Int
  | 0 => a
  | k + 1 => mstZ (mxF a f k) (f k)
def cenF (f : Nat → Int) : Nat → Nat × Int
  | 0 => (0, 1000000000)
  | k + 1 => if f k < (cenF f k).2 then (k, f k) else cenF f k
theorem mxF_congr {a b : Int} {f g : Nat → Int} : ∀ {k : Nat}, a = b → (∀ j, j < k → f j = g j) → mxF a f k = mxF b g k
  | 0, h, _ => h
  | k + 1, h, hf => by
    unfold mxF
    rw [mxF_congr h (fun j hj => hf j (by omega)), hf k (by omega)]
def rmxF (M : List (List Int)) (i : Nat) : Int := mxF (bf M.length (entM M) M.length i 0) (bf M.length (entM M) M.length i) M.length
def cenB (M : List (List Int)) : Bool := cosB M && decide ((cenF (rmxF M) M.length).2 ≠ 1000000000)
def CenR (B : Bool) (p : Nat × Int) (e : Ending) : Prop := e = .returned (.tuple #[.int .i64 (if B = true then (p.1 : Int) else 0), .int .i64 (if B = true then p.2 else 0), .bool B])

theorem mst_if (a b : Int) : (if a < b then b else a) = mstZ a b := by unfold mstZ; split <;> split <;> omega
end Go.Proofs.Ytjlkgioinogbkaa

/-
  Whether numbers are potentials; reduced matrices: program and reference. Printed by gen_wyI.py.
-/
namespace Go.Proofs.Ytjlkgioinogbkaa
open Go.RowKit

def askB (M : List (List Int)) (p : List Int) : Bool := sqB M && (decide (p.length = M.length) && p.all finB)
def ptB (n : Nat) (m : Nat → Nat → Int) (p : List Int) : Bool := (List.range n).all fun i => (List.range n).all fun k => decide (p.getD k 0 ≤ prodZ (p.getD i 0) (m i k))
def hasB (M : List (List Int)) (p : List Int) : Bool := askB M p && ptB M.length (entM M) p
def redM (M : List (List Int)) (p : List Int) : List (List Int) := toM M.length fun i k => prodZ (entM M i k) (p.getD i 0 - p.getD k 0)
def redB (M : List (List Int)) (p : List Int) : Bool := hasB M p && nmB (redM M p)
theorem ptB_t {n : Nat} {m : Nat → Nat → Int} {p : List Int} : ptB n m p = true ↔ ∀ i k, i < n → k < n → p.getD k 0 ≤ prodZ (p.getD i 0) (m i k) := by
  unfold ptB
  rw [List.all_eq_true]
  constructor
  · intro h i k hi hk
    have := List.all_eq_true.1 (h i (List.mem_range.2 hi)) k (List.mem_range.2 hk)
    exact of_decide_eq_true this
  · intro h i hi
    rw [List.all_eq_true]
    intro k hk
    exact decide_eq_true (h i k (List.mem_range.1 hi) (List.mem_range.1 hk))
theorem ptB_f {n : Nat} {m : Nat → Nat → Int} {p : List Int} {i k : Nat} (hi : i < n) (hk : k < n) (h : prodZ (p.getD i 0) (m i k) < p.getD k 0) : ptB n m p = false := by
  rw [Bool.eq_false_iff]
  intro h2
  have := ptB_t.1 h2 i k hi hk
  omega
theorem fin_bd {p : List Int} (h : p.all finB = true) {i : Nat} (hi : i < p.length) : -1000000 ≤ p.getD i 0 ∧ p.getD i 0 ≤ 1000000 := inB_t.1 (List.all_eq_true.1 h _ (getD_memI hi))
theorem ask_facts {M : List (List Int)} {p : List Int} (h : askB M p = true) : sqB M = true ∧ p.length = M.length ∧ p.all finB = true := by
  unfold askB at h
  simp only [Bool.and_eq_true, decide_eq_true_eq] at h
  exact h

end Go.Proofs.Ytjlkgioinogbkaa

/-
  Whether numbers can be and are potentials; reduced matrices: program and reference. By an AI agent.
-/
namespace Go.Proofs.Ytjlkgioinogbkaa
open Go.RowKit

set_option maxHeartbeats 1600000 in
theorem areOne_c (ad : Option Addr) (cap : Nat) (N : Nat) (adp : Option Addr) (capp : Nat) (p : List Int) (w : World) (hp : RdI w adp p) (hl : p.length ≤ 1048576) :
    Calls Try.prog 32 #[.slice ad N cap, .slice adp p.length capp] w fun e w' => e = .returned (.bool (decide (p.length = N) && p.all finB)) ∧ w = w' := by
  have C1 := Lib.hid (areFinite_c adp capp p w hp hl)
  clear hp
  generalize p.all finB = V at C1 ⊢
  generalize p.length = n at C1 ⊢
  obtain ⟨q, hq⟩ : ∃ q, ((n : Int) == (N : Int)) = q := ⟨_, rfl⟩
  have hq2 : (n == N) = q := by rw [← hq, (natEq n N).1, (natEq n N).2.1]
  have hq3 : decide (n = N) = q := by rw [← hq, (natEq n N).1]
  rw [hq3]
  clear hq3
  cases q
  · go_enter Try.func32, Try.ntmps32
    go_wp2_with fail
    go_ret
    exact ⟨rfl, rfl⟩
  · go_enter Try.func32, Try.ntmps32
    go_wp2_with fail
    refine C1.out.mono ?_
    rintro e w1 ⟨rfl, rfl⟩
    go_wp2_with fail
    go_ret
    exact ⟨rfl, rfl⟩

def areR (M : List (List Int)) (p : List Int) : Value := .tuple #[.bool (hasB M p), .bool (askB M p)]
end Go.Proofs.Ytjlkgioinogbkaa
