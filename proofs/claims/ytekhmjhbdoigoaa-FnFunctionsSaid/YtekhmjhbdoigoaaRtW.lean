/-
  The value of a polynomial at a number: the program's.
-/
import Derived.Test.YtekhmjhbdoigoaaRtX
namespace Go.Proofs.Ytekhmjhbdoigoaa
open Go.RowKit

def minL (l : List Int) : Int := l.foldl min 1000000000
theorem foldl_min : ∀ (l : List Int) (s : Int), l.foldl min s ≤ s ∧ (∀ y ∈ l, l.foldl min s ≤ y) ∧ (l.foldl min s = s ∨ l.foldl min s ∈ l)
  | [], s => ⟨Int.le_refl _, fun y h => by simp at h, Or.inl rfl⟩
  | a :: l, s => by
    obtain ⟨h1, h2, h3⟩ := foldl_min l (min s a)
    rw [List.foldl_cons]
    refine ⟨by omega, fun y hy => ?_, ?_⟩
    · rcases List.mem_cons.1 hy with rfl | hy
      · omega
      · exact h2 y hy
    · rcases h3 with h | h
      · rcases Int.le_total s a with h4 | h4
        · exact Or.inl (by rw [h]; omega)
        · exact Or.inr (by rw [h, show min s a = a by omega]; simp)
      · exact Or.inr (List.mem_cons_of_mem _ h)
def valsF (p : List Int) (x : Int) : List Int := tab p.length fun e => prodZ (cof p e) ((e : Int) * x)
theorem ex_bd {p : List Int} (hp : polyB p = true) {x : Int} (hx : -1000000 ≤ x ∧ x ≤ 1000000) {e : Nat} (he : e < p.length) : -13000000 ≤ (e : Int) * x ∧ (e : Int) * x ≤ 13000000 := by
  have hpl := (polyB_t hp).1
  have := mulbF (K := 13) (M := 1000000) (k := (e : Int)) (m := x) (by omega) (by omega) hx
  omega
theorem min_is {p : List Int} (hp : polyB p = true) {x : Int} (hx : -1000000 ≤ x ∧ x ≤ 1000000) : IsMin (cof p) x (finK p p.length) (minL (valsF p x)) := by
  obtain ⟨hpl, hnum, hlast⟩ := polyB_t hp
  obtain ⟨h1, h2, h3⟩ := foldl_min (valsF p x) 1000000000
  have hval : ∀ e, e < p.length → cof p e ≠ 1000000000 → prodZ (cof p e) ((e : Int) * x) = ev (cof p) x e ∧ ev (cof p) x e ≤ 14000000 := fun e he hf => by
    have hb := ex_bd hp hx he
    have hn := numB_fin (hnum e he) hf
    have hn2 : -1000000 ≤ cof p e ∧ cof p e ≤ 1000000 := hn
    unfold prodZ ev
    rw [if_neg (by rintro (h | h); exact hf h; omega)]
    exact ⟨rfl, by omega⟩
  have hmem : ∀ e, e < p.length → prodZ (cof p e) ((e : Int) * x) ∈ valsF p x := fun e he => by
    unfold valsF tab
    exact List.mem_map.2 ⟨e, by simpa using he, rfl⟩
  have hfin : ∀ e, e ∈ finK p p.length → e < p.length ∧ cof p e ≠ 1000000000 := fun e he => finK_mem he
  have hl : cof p (p.length - 1) ≠ 1000000000 := hlast
  have hlow : minL (valsF p x) ≤ 14000000 := by
    have a := hval (p.length - 1) (by omega) hl
    have b := h2 _ (hmem (p.length - 1) (by omega))
    unfold minL
    omega
  refine ⟨?_, fun y hy => ?_⟩
  · rcases h3 with h | h
    · unfold minL at hlow; omega
    · unfold valsF tab at h
      obtain ⟨e, he, hv⟩ := List.mem_map.1 h
      have he' : e < p.length := by simpa using he
      by_cases hf : cof p e = 1000000000
      · exfalso
        have : prodZ (cof p e) ((e : Int) * x) = 1000000000 := by unfold prodZ; rw [if_pos (Or.inl hf)]
        unfold minL valsF tab at hlow
        omega
      · refine ⟨e, by simp [finK]; exact ⟨he', hf⟩, ?_⟩
        rw [← (hval e he' hf).1]
        exact hv
  · obtain ⟨h5, h6⟩ := hfin y hy
    rw [← (hval y h5 h6).1]
    exact h2 _ (hmem y h5)

def polyV (p : List Int) (x : Int) : Value := if (polyB p && finB' x) = true then pairV (toldZ (minL (valsF p x))) (numB (minL (valsF p x))) else pairV 0 false
end Go.Proofs.Ytekhmjhbdoigoaa
