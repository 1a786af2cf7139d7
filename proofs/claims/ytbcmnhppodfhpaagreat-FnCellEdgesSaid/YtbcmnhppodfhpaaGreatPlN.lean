/-
  Plane polynomials: values and degrees. Printed by gen_plN.py.
-/
import Derived.Test.YtbcmnhppodfhpaaGreatPlC
import Derived.Test.YtbcmnhppodfhpaaGreatRowI
namespace Go.Proofs.YtbcmnhppodfhpaaGreat
open Go.RowKit

/-! ### Plain -/
def valsT (x y : Int) (l : List Tm) : List Int := l.map (vlT x y)
theorem vals_get (x y : Int) {l : List Tm} {j : Nat} (h : j < l.length) : (valsT x y l).getD j 0 = vlT x y (l.getD j default) := by
  unfold valsT
  rw [List.getD_eq_getElem?_getD, List.getElem?_map, List.getD_eq_getElem?_getD, List.getElem?_eq_getElem h]
  rfl
theorem vals_len (x y : Int) (l : List Tm) : (valsT x y l).length = l.length := List.length_map ..
theorem vals_take (x y : Int) (l : List Tm) {k : Nat} (h : k < l.length) : valsT x y (l.take (k + 1)) = valsT x y (l.take k) ++ [vlT x y (l.getD k default)] := by
  unfold valsT; rw [take_snocT l k h, List.map_append]; rfl
/-- k * m of small k. -/
theorem mul6 {k m : Int} (h : 0 ≤ k ∧ k ≤ 6) (hm : -1000000 ≤ m ∧ m ≤ 1000000) : -6000000 ≤ k * m ∧ k * m ≤ 6000000 := by
  have : k = 0 ∨ k = 1 ∨ k = 2 ∨ k = 3 ∨ k = 4 ∨ k = 5 ∨ k = 6 := by omega
  rcases this with h | h | h | h | h | h | h <;> (subst h; omega)
theorem fin_b {n : Int} (h : finB n = true) : -1000000 ≤ n ∧ n ≤ 1000000 := by unfold finB at h; exact inB_t.1 h
theorem vl_bd {x y : Int} {t : Tm} (h : termB t = true) (hx : finB x = true) (hy : finB y = true) : -13000000 ≤ vlT x y t ∧ vlT x y t ≤ 13000000 := by
  have h1 := termB_t h
  have h2 := mul6 (k := t.i) (m := x) (by omega) (fin_b hx)
  have h3 := mul6 (k := t.j) (m := y) (by omega) (fin_b hy)
  unfold vlT
  omega
theorem rdI_two (w : World) (x y : Int) : RdI (w.alloc (.cells #[.int .i64 x, .int .i64 y] 3)) (some ⟨w.heap.size, 0, none⟩) [x, y] := fun k hk => by
  have h : k = 0 ∨ k = 1 := by simp at hk; omega
  rcases h with rfl | rfl
  · exact ⟨_, 0, rfl, by simp, by simp [go_sem]⟩
  · exact ⟨_, 0, rfl, by simp, by simp [go_sem]⟩

end Go.Proofs.YtbcmnhppodfhpaaGreat
