/-
  Some texts of this proof in one: RowI Good. Each part tells what it proves. By an AI agent.
-/
import Derived.Test.YtjlkgioinogbkaaCur
import Derived.Deep.AppendLies
import Derived.Test.YtjlkgioinogbkaaLaws

/-
  Lists of numbers in memory of one's own.
-/
namespace Go.Proofs.Ytjlkgioinogbkaa
open Go.RowKit

def RowI (w : World) (B : Nat) (v : Value) (xs : List Int) : Prop := w.ownsRow B 3 1 v xs.length (ints xs)
theorem RowI.nil (w : World) (B : Nat) : RowI w B (.slice none 0 0) [] := ⟨rfl, Or.inl ⟨rfl, rfl⟩⟩
theorem app_below {B : Nat} {u wr w2 : World} {E : TypeId} {size n : Nat} {v : Value} {xs : List Value} {o : Obj} (hb : Below B u wr) (hB : B ≤ wr.heap.size) (ho : wr.ownsRow B E size v n xs) (hg : (wr.alloc o).grownBy w2 v.ownBlock) : Below B u w2 :=
  (hb.alloc hB o).grown hg (by simp; omega) (fun q e => (ho.lt q e).1)
theorem row_empty (w : World) (E : TypeId) : (w.alloc (.cells #[] E)).ownsRow w.heap.size E 1 (.slice (some ⟨w.heap.size, 0, none⟩) 0 0) 0 [] :=
  World.ownsRow_made w #[] 0 (Nat.le_refl _) (by decide) rfl
theorem row_congr {w : World} {B : Nat} {E : TypeId} {size n m : Nat} {v : Value} {xs ys : List Value} (h : w.ownsRow B E size v n xs) (e : n = m) (e' : xs = ys) : w.ownsRow B E size v m ys := by subst e; subst e'; exact h
theorem RowI.shape {w : World} {B : Nat} {v : Value} {xs : List Int} (h : RowI w B v xs) : ∃ ad cap, v = .slice ad xs.length cap ∧ RdI w ad xs := by
  rcases Own.of_row h with ⟨h1, h0, h2⟩ | ⟨g, cap, h1, _, _, _, ho⟩
  · have : xs = [] := by simpa [ints] using h2
    subst this
    exact ⟨none, 0, h1, RdI.nil _ _⟩
  · exact ⟨_, cap, h1, ho.rd⟩
theorem RowI.below {w w' : World} {B : Nat} {v : Value} {xs : List Int} (h : RowI w B v xs) (hb : Below w.heap.size w w') : RowI w' B v xs := row_below h hb
def slen (v : Value) : Nat := match v with
  | .slice _ n _ => n
  | _ => 0
theorem RowI.slen {w : World} {B : Nat} {v : Value} {xs : List Int} (h : RowI w B v xs) : slen v = xs.length := by
  obtain ⟨ad, cap, rfl, _⟩ := h.shape
  rfl

end Go.Proofs.Ytjlkgioinogbkaa

/-
  When n vertices and links are a graph: the reference's chGood and the program's isGraph answer the same Bool.
-/
namespace Go.Proofs.Ytjlkgioinogbkaa
open Go.RowKit

def lkOk (n : Int) (x : Lk) : Bool := inB x.b 1 (n-1) && inB x.a 0 (x.b-1) && inB x.n 1 5
def lkLt (x y : Lk) : Bool := decide (x.a < y.a ∨ (x.a = y.a ∧ x.b < y.b))
def goodAt (n : Int) (ls : List Lk) (i : Nat) : Bool := lkOk n (ls.getD i Lk.z) && (i == 0 || lkLt (ls.getD (i-1) Lk.z) (ls.getD i Lk.z))
def goodL (n : Int) (ls : List Lk) : Bool := inB n 1 8 && (List.range ls.length).all (goodAt n ls)

theorem goodL_n {n : Int} {ls : List Lk} (h : inB n 1 8 = false) : goodL n ls = false := by simp [goodL, h]
theorem goodL_false {n : Int} {ls : List Lk} {k : Nat} (hk : k < ls.length) (h : goodAt n ls k = false) : goodL n ls = false := by
  simp only [goodL, Bool.and_eq_false_iff, List.all_eq_false]
  exact Or.inr ⟨k, by simpa using hk, by simp [h]⟩
theorem goodL_true {n : Int} {ls : List Lk} (hn : inB n 1 8 = true) (h : ∀ j, j < ls.length → goodAt n ls j = true) : goodL n ls = true := by
  simp only [goodL, Bool.and_eq_true, List.all_eq_true]
  exact ⟨hn, fun j hj => h j (by simpa using hj)⟩

/-- What one link's tests come to. -/
theorem goodAt_bad {n : Int} {ls : List Lk} {k : Nat} {x : Lk} (hx : ls.getD k Lk.z = x) (h : lkOk n x = false) : goodAt n ls k = false := by unfold goodAt; rw [hx, h]; rfl
theorem goodAt_head {n : Int} {ls : List Lk} {k : Nat} {x : Lk} (hx : ls.getD k Lk.z = x) (h : lkOk n x = true) (hk : k = 0) : goodAt n ls k = true := by unfold goodAt; rw [hx, h, hk]; rfl
theorem goodAt_next {n : Int} {ls : List Lk} {k : Nat} {x p : Lk} (hx : ls.getD k Lk.z = x) (hp : ls.getD (k-1) Lk.z = p) (h : lkOk n x = true) (hk : k ≠ 0) : goodAt n ls k = lkLt p x := by unfold goodAt; rw [hx, hp, h]; simp [hk]

set_option maxHeartbeats 400000 in
theorem l1In_any (n lo hi : Int) (w : World) :
    Calls Try.prog 54 #[.int .i64 n, .int .i64 lo, .int .i64 hi] w fun e w' => e = .returned (.bool (inB n lo hi)) ∧ w = w' := by
  go_enter Try.func54, Try.ntmps54
  go_wp2
  all_goals go_ret
  · exact ⟨ret_bool (by simp [inB, *]), rfl⟩
  · exact ⟨ret_bool (by simp [inB]; omega), rfl⟩

set_option maxHeartbeats 400000 in
theorem within_any (n lo hi : Int) (w : World) :
    Calls Try.prog 58 #[.int .i64 n, .int .i64 lo, .int .i64 hi] w fun e w' => e = .returned (.bool (inB n lo hi)) ∧ w = w' := by
  go_enter Try.func58, Try.ntmps58
  go_wp2
  all_goals go_ret
  · exact ⟨ret_bool (by simp [inB, *]), rfl⟩
  · exact ⟨ret_bool (by simp [inB]; omega), rfl⟩

end Go.Proofs.Ytjlkgioinogbkaa
