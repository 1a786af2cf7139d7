/-
  Some texts of this proof in one: WyK WyL WyM. Each part tells what it proves. By an AI agent.
-/
import Derived.Test.YtjlkgioinogbkaaWyG

/-
  Reduced matrices: program and reference. By an AI agent.
-/
namespace Go.Proofs.Ytjlkgioinogbkaa
open Go.RowKit

/-! ### append of numbers at a step of a region that draws its order -/
theorem rdNewsI {w : World} {a : Addr} {xs : List Int} (h : RdI w (some a) xs) : ∀ j u, (ints xs)[j]? = some u → w.cell? (a.add j) = some u := by
  intro j u hu
  have hj : j < xs.length := by
    have := List.getElem?_eq_some_iff.1 hu
    obtain ⟨h1, _⟩ := this
    rwa [ints_length] at h1
  obtain ⟨b, off, e, _, hc⟩ := h j hj
  cases e
  rw [ints_get hj] at hu
  have hadd : (⟨b, off, none⟩ : Addr).add j = ⟨b, off + j, none⟩ := by unfold Addr.add; split <;> simp_all
  rw [hadd, hc]
  exact hu
def ReadsN (w : World) (X : Value) (l : List Int) : Prop := ∃ b off c, X = .slice (some ⟨b, off, none⟩) l.length c ∧ RdI w (some ⟨b, off, none⟩) l
theorem ReadsN.below {w w' : World} {X : Value} {l : List Int} (h : ReadsN w X l) (hb : Below w.heap.size w w') : ReadsN w' X l := by
  obtain ⟨b, off, c, h1, h2⟩ := h
  exact ⟨b, off, c, h1, h2.below hb⟩
theorem step_appI {w : World} {ops : Array Oper} {o : Oper} {a : Act} {K : Act → World → Prop} {Q : Exit → Act → World → Prop} {E : Prop} (hgd : o.guard = none) (s x : Operand)
    (ho : o.op = .call { callee := .builtin .append, args := #[s, x], argTypes := #[26, 26] })
    (B : Nat) (v X : Value) (l m : List Int) (hs : a.eval s = v) (hx : a.eval x = X) (hown : RowI w B v l) (hX : ReadsN w X m) (hl : l.length ≤ 100000) (hm : m.length ≤ 100000) (hB : B ≤ w.heap.size)
    (h : ∀ v' w', RowI w' B v' (l ++ m) → Below B w w' → w.grownBy w' v.ownBlock → K (a.put o.dst v') w') :
    if Region.wanted o (yielded ops a.tmps) = true then Oper.wp Try.prog o a w K Q else E := by
  have hw : Region.wanted o (yielded ops a.tmps) = true := by simp [Region.wanted, hgd]
  rw [if_pos hw]
  obtain ⟨iP, hiP, hzP, hsP, hbP⟩ := info_parts Try.infoI
  obtain ⟨b, off, c, rfl, hrd⟩ := hX
  obtain ⟨v', w', hr, h2, h3, _, _⟩ := run_append_own_at (P := Try.prog) w B 26 o.type 3 iP _ 1 8 Try.underlying26 hiP hzP hsP hbP rfl (by omega) v l.length (ints l) hown ⟨b, off, none⟩ m.length c (ints m) (by rw [ints_length]; omega) (rdNewsI hrd) (ints_oneCell m) (by unfold maxLen; omega) (by omega) hB
  unfold Oper.wp execOp
  simp only [ho, resolve, invoke, builtin, Sem.run_bind, Sem.run_pure, Result.andThen_ok, List.map_toArray, List.map_cons, List.map_nil, hs, hx, hr]
  exact h v' w' (row_congr h2 (by simp) (by simp [ints])) ((Below.refl _ _).grown h3 hB (fun q e => (hown.lt q e).1)) h3
theorem readsN_one (u : World) (H : Nat) (x : Int) (hH : u.heap.size = H) : ReadsN (u.alloc (.cells #[.int .i64 x] 3)) (.slice (some ⟨H, 0, none⟩) 1 1) [x] := by
  subst hH
  refine ⟨_, _, 1, rfl, fun j hj => ?_⟩
  obtain rfl : j = 0 := by simpa using hj
  exact ⟨_, _, rfl, by simp, by simp [go_sem]⟩
theorem ReadsN.alloc' {w : World} {X : Value} {l : List Int} {o : Obj} (h : ReadsN w X l) : ReadsN (w.alloc o) X l := h.below ((Below.refl _ _).alloc (Nat.le_refl _) _)
theorem ReadsN.drew' {w : World} {X : Value} {l : List Int} (h : ReadsN w X l) : ReadsN w.drew X l := h.below (Below.refl _ _).drew
theorem RowI.drew' {w : World} {B : Nat} {v : Value} {l : List Int} (h : RowI w B v l) : RowI w.drew B v l := h.below (Below.refl _ _).drew

theorem row_shp {w : World} {B : Nat} {v : Value} {xs : List Int} (h : RowI w B v xs) : ∃ ad c, v = .slice ad xs.length c := by
  rcases h.2 with ⟨e, h0⟩ | ⟨g, cap, cur, e, hg, _⟩
  · exact ⟨none, 0, by rw [e, h0]⟩
  · exact ⟨_, cap, e⟩
def rdF (m : Nat → Nat → Int) (p : List Int) : Nat → Nat → Int := fun i k => prodZ (m i k) (p.getD i 0 - p.getD k 0)
def rdS (m : Nat → Nat → Int) (p : List Int) (i k : Nat) : Nat → Nat → Int := fun a b => if a < i ∨ (a = i ∧ b < k) then rdF m p a b else m a b
theorem rdS_next (m : Nat → Nat → Int) (p : List Int) (i k : Nat) : (fun a b => if a = i ∧ b = k then rdF m p i k else rdS m p i k a b) = rdS m p i (k + 1) := by
  funext a b
  unfold rdS
  by_cases h : a = i ∧ b = k
  · obtain ⟨rfl, rfl⟩ := h
    rw [if_pos ⟨rfl, rfl⟩, if_pos (by omega)]
  · rw [if_neg h]
    by_cases h2 : a < i ∨ (a = i ∧ b < k)
    · rw [if_pos h2, if_pos (by omega)]
    · rw [if_neg h2, if_neg (by omega)]
theorem rdS_row (n : Nat) (m : Nat → Nat → Int) (p : List Int) (i : Nat) : toM n (rdS m p i n) = toM n (rdS m p (i + 1) 0) := toM_congr fun a b ha hb => by
  unfold rdS
  by_cases h : a < i ∨ (a = i ∧ b < n)
  · rw [if_pos h, if_pos (by omega)]
  · rw [if_neg h, if_neg (by omega)]
theorem rdS_end (n : Nat) (m : Nat → Nat → Int) (p : List Int) : toM n (rdS m p n 0) = toM n (rdF m p) := toM_congr fun a b ha hb => by
  unfold rdS
  rw [if_pos (Or.inl ha)]
theorem rdS_start (m : Nat → Nat → Int) (p : List Int) : rdS m p 0 0 = m := by
  funext a b
  unfold rdS
  rw [if_neg (by omega)]

end Go.Proofs.Ytjlkgioinogbkaa

/-
  Ways in a matrix: whether lists are ways, and what they cost; the program's. By an AI agent.
-/
namespace Go.Proofs.Ytjlkgioinogbkaa
open Go.RowKit

/-! ### plain -/
def vtB (n : Nat) (l : List Int) : Bool := allB l 0 ((n : Int) - 1)
def vx (l : List Int) (t : Nat) : Nat := (l.getD t 0).toNat
def coF (m : Nat → Nat → Int) (l : List Int) : Nat → Int
  | 0 => 0
  | t + 1 => prodZ (coF m l t) (m (vx l t) (vx l (t + 1)))
def stB (m : Nat → Nat → Int) (l : List Int) : Nat → Bool
  | 0 => true
  | t + 1 => stB m l t && !decide (m (vx l t) (vx l (t + 1)) = 1000000000)
def wayB (n : Nat) (m : Nat → Nat → Int) (l : List Int) : Bool := inB l.length 1 20 && (vtB n l && stB m l (l.length - 1))
theorem vt_at {n : Nat} {l : List Int} (h : vtB n l = true) {t : Nat} (ht : t < l.length) : l.getD t 0 = (vx l t : Int) ∧ vx l t < n := by
  have := allB_t.1 h t ht
  unfold vx
  omega
theorem co_bd {n : Nat} {m : Nat → Nat → Int} {l : List Int} (hm : ∀ a b, a < n → b < n → numB (m a b) = true) (hv : vtB n l = true) (hl : l.length ≤ 900) : ∀ t, t < l.length → (stB m l t = false ∧ coF m l t = 1000000000) ∨ (stB m l t = true ∧ -(1000000 * (t : Int)) ≤ coF m l t ∧ coF m l t ≤ 1000000 * (t : Int))
  | 0, _ => Or.inr ⟨rfl, by simp [coF]⟩
  | t + 1, ht => by
    have ih := co_bd hm hv hl t (by omega)
    have h1 := (vt_at hv (t := t) (by omega)).2
    have h2 := (vt_at hv ht).2
    have h3 := numB_t (hm _ _ h1 h2)
    unfold stB coF
    by_cases e : m (vx l t) (vx l (t + 1)) = 1000000000
    · left
      rw [e]
      refine ⟨by simp, prodZ_inf (Or.inr rfl)⟩
    · rcases ih with ⟨i1, i2⟩ | ⟨i1, i2, i3⟩
      · left
        rw [i1, i2]
        exact ⟨by simp, prodZ_inf (Or.inl rfl)⟩
      · by_cases e2 : coF m l t = 1000000000
        · omega
        · right
          rw [i1, prodZ_fin e2 e]
          refine ⟨by simp [e], by omega, by omega⟩

end Go.Proofs.Ytjlkgioinogbkaa

/-
  Ways in a matrix: whether lists are ways, what they cost, whether potentials prove them. By an AI agent.
-/
namespace Go.Proofs.Ytjlkgioinogbkaa
open Go.RowKit

def cowX (M : List (List Int)) (l : List Int) : Int := coF (entM M) l (l.length - 1)
def cowW (M : List (List Int)) (l : List Int) : Bool := sqB M && wayB M.length (entM M) l
def prB (m : Nat → Nat → Int) (p l : List Int) : Nat → Bool
  | 0 => true
  | t + 1 => prB m p l t && decide (p.getD (vx l (t + 1)) 0 = p.getD (vx l t) 0 + m (vx l t) (vx l (t + 1)))
theorem prB_t {m : Nat → Nat → Int} {p l : List Int} : ∀ {t : Nat}, prB m p l t = true ↔ ∀ s, s < t → p.getD (vx l (s + 1)) 0 = p.getD (vx l s) 0 + m (vx l s) (vx l (s + 1))
  | 0 => ⟨fun _ s hs => absurd hs (Nat.not_lt_zero _), fun _ => rfl⟩
  | t + 1 => by
    unfold prB
    rw [Bool.and_eq_true, prB_t, decide_eq_true_eq]
    constructor
    · rintro ⟨h1, h2⟩ s hs
      by_cases e : s = t
      · subst e; exact h2
      · exact h1 s (by omega)
    · exact fun h => ⟨fun s hs => h s (by omega), h t (by omega)⟩
theorem stB_t {m : Nat → Nat → Int} {l : List Int} : ∀ {t : Nat}, stB m l t = true ↔ ∀ s, s < t → m (vx l s) (vx l (s + 1)) ≠ 1000000000
  | 0 => ⟨fun _ s hs => absurd hs (Nat.not_lt_zero _), fun _ => rfl⟩
  | t + 1 => by
    unfold stB
    rw [Bool.and_eq_true, stB_t, Bool.not_eq_true', decide_eq_false_iff_not]
    constructor
    · rintro ⟨h1, h2⟩ s hs
      by_cases e : s = t
      · subst e; exact h2
      · exact h1 s (by omega)
    · exact fun h => ⟨fun s hs => h s (by omega), h t (by omega)⟩

end Go.Proofs.Ytjlkgioinogbkaa
