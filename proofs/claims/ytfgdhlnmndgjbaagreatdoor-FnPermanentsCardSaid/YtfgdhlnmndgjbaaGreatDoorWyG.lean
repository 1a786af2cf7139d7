/-
  Some texts of this proof in one: WyG WyH WyI WyJ WyK WyL WyM WyN WyQ WyR WyS WyT AsP AsQ AsR WzP WzA WzB WzE. Each part tells what it proves. By an AI agent.
-/
import Derived.Test.YtfgdhlnmndgjbaaGreatDoorWyE
import Derived.Deep.DeepCutAuto

/-
  Potentials: program and reference. By an AI agent.
-/
namespace Go.Proofs.YtfgdhlnmndgjbaaGreatDoor
open Go.RowKit

def potF (M : List (List Int)) (k : Nat) : Int := mnF 1000000000 (fun i => bf M.length (entM M) M.length i k) M.length
def potL (M : List (List Int)) : List Int := tab M.length (potF M)
def potB (M : List (List Int)) : Bool := okW M && (potL M).all numB
def onL (B : Bool) (X : List Int) : List Int := if B = true then X else []
def LisR (B : Bool) (X : List Int) (w : World) (e : Ending) (w' : World) : Prop := ∃ ad cap, e = .returned (.tuple #[.slice ad (onL B X).length cap, .bool B]) ∧ RdI w' ad (onL B X) ∧ Below w.heap.size w w'
theorem LisR.no {w w' : World} (X : List Int) (hb : Below w.heap.size w w') : LisR false X w (.returned (.tuple #[.slice none 0 0, .bool false])) w' := ⟨none, 0, rfl, RdI.nil _ _, hb⟩
theorem LisR.yes {w w' : World} {ad : Option Addr} {cap n : Nat} {X : List Int} (h : RdI w' ad X) (hn : X.length = n) (hb : Below w.heap.size w w') : LisR true X w (.returned (.tuple #[.slice ad n cap, .bool true])) w' := by
  subst hn
  exact ⟨ad, cap, rfl, h, hb⟩
theorem pot_le {M : List (List Int)} (_hs : sqB M = true) {k : Nat} (hk : k < M.length) : potF M k ≤ 0 := by
  have h1 := mnF_le 1000000000 (fun i => bf M.length (entM M) M.length i k) hk
  have h2 := bf_mono (n := M.length) (m := entM M) (Nat.zero_le M.length) k k
  rw [bf_zero] at h2
  unfold unF at h2
  rw [if_pos rfl] at h2
  unfold potF
  omega
/-- No potential is Infinity. -/
theorem pot_num {M : List (List Int)} (hs : sqB M = true) : (potL M).all numB = allB (potL M) (-1000000) 1000000 := by
  unfold allB
  rw [Bool.eq_iff_iff, List.all_eq_true, List.all_eq_true]
  have h : ∀ x ∈ potL M, x ≤ 0 := fun x hx => by
    unfold potL tab at hx
    obtain ⟨k, hk, rfl⟩ := List.mem_map.1 hx
    exact pot_le hs (by simpa using hk)
  constructor
  · intro h1 x hx
    have := numB_t (h1 x hx)
    have := h x hx
    exact inB_t.2 (by omega)
  · intro h1 x hx
    have := inB_t.1 (h1 x hx)
    unfold numB
    rw [inB_t.2 (by omega)]
    rfl

end Go.Proofs.YtfgdhlnmndgjbaaGreatDoor

/-
  The centre: program and reference. By an AI agent.
-/
namespace Go.Proofs.YtfgdhlnmndgjbaaGreatDoor
open Go.RowKit

def mstZ (a b : Int) : Int := if b < a then a else b
def mxF (a : Int) (f : Nat → Int) : Nat → Int
  | 0 => a
  | k + 1 => mstZ (mxF a f k) (f k)
def cenF (f : Nat → Int) : Nat → Nat × Int
  | 0 => (0, 1000000000)
  | k + 1 => if f k < (cenF f k).2 then (k, f k) else cenF f k
theorem mxF_congr {a b : Int} {f g : Nat → Int} : ∀ {k : Nat}, a = b → (∀ j, j < k → f j = g j) → mxF a f k = mxF b g k
  | 0, h, _ => h
  | k + 1, h, hf => by
    unfold mxF
    rw [mxF_congr h (fun j hj => hf j (by omega)), hf k (by omega)]
def rmxF (M : List (List Int)) (i : Nat) : Int := mxF (bf M.length (entM M) M.length i 0) (bf M.length (entM M) M.length i) M.length
def cenB (M : List (List Int)) : Bool := cosB M && decide ((cenF (rmxF M) M.length).2 ≠ 1000000000)
def CenR (B : Bool) (p : Nat × Int) (e : Ending) : Prop := e = .returned (.tuple #[.int .i64 (if B = true then (p.1 : Int) else 0), .int .i64 (if B = true then p.2 else 0), .bool B])

theorem mst_if (a b : Int) : (if a < b then b else a) = mstZ a b := by unfold mstZ; split <;> split <;> omega
end Go.Proofs.YtfgdhlnmndgjbaaGreatDoor

/-
  Whether numbers are potentials; reduced matrices: program and reference. Printed by gen_wyI.py.
-/
namespace Go.Proofs.YtfgdhlnmndgjbaaGreatDoor
open Go.RowKit

def askB (M : List (List Int)) (p : List Int) : Bool := sqB M && (decide (p.length = M.length) && p.all finB)
def ptB (n : Nat) (m : Nat → Nat → Int) (p : List Int) : Bool := (List.range n).all fun i => (List.range n).all fun k => decide (p.getD k 0 ≤ prodZ (p.getD i 0) (m i k))
def hasB (M : List (List Int)) (p : List Int) : Bool := askB M p && ptB M.length (entM M) p
def redM (M : List (List Int)) (p : List Int) : List (List Int) := toM M.length fun i k => prodZ (entM M i k) (p.getD i 0 - p.getD k 0)
def redB (M : List (List Int)) (p : List Int) : Bool := hasB M p && nmB (redM M p)
theorem ptB_t {n : Nat} {m : Nat → Nat → Int} {p : List Int} : ptB n m p = true ↔ ∀ i k, i < n → k < n → p.getD k 0 ≤ prodZ (p.getD i 0) (m i k) := by
  unfold ptB
  rw [List.all_eq_true]
  constructor
  · intro h i k hi hk
    have := List.all_eq_true.1 (h i (List.mem_range.2 hi)) k (List.mem_range.2 hk)
    exact of_decide_eq_true this
  · intro h i hi
    rw [List.all_eq_true]
    intro k hk
    exact decide_eq_true (h i k (List.mem_range.1 hi) (List.mem_range.1 hk))
theorem ptB_f {n : Nat} {m : Nat → Nat → Int} {p : List Int} {i k : Nat} (hi : i < n) (hk : k < n) (h : prodZ (p.getD i 0) (m i k) < p.getD k 0) : ptB n m p = false := by
  rw [Bool.eq_false_iff]
  intro h2
  have := ptB_t.1 h2 i k hi hk
  omega
theorem fin_bd {p : List Int} (h : p.all finB = true) {i : Nat} (hi : i < p.length) : -1000000 ≤ p.getD i 0 ∧ p.getD i 0 ≤ 1000000 := inB_t.1 (List.all_eq_true.1 h _ (getD_memI hi))
theorem ask_facts {M : List (List Int)} {p : List Int} (h : askB M p = true) : sqB M = true ∧ p.length = M.length ∧ p.all finB = true := by
  unfold askB at h
  simp only [Bool.and_eq_true, decide_eq_true_eq] at h
  exact h

end Go.Proofs.YtfgdhlnmndgjbaaGreatDoor

/-
  Whether numbers can be and are potentials; reduced matrices: program and reference. By an AI agent.
-/
namespace Go.Proofs.YtfgdhlnmndgjbaaGreatDoor
open Go.RowKit

def areR (M : List (List Int)) (p : List Int) : Value := .tuple #[.bool (hasB M p), .bool (askB M p)]
end Go.Proofs.YtfgdhlnmndgjbaaGreatDoor

/-
  Reduced matrices: program and reference. By an AI agent.
-/
namespace Go.Proofs.YtfgdhlnmndgjbaaGreatDoor
open Go.RowKit

/-! ### append of numbers at a step of a region that draws its order -/
theorem rdNewsI {w : World} {a : Addr} {xs : List Int} (h : RdI w (some a) xs) : ∀ j u, (ints xs)[j]? = some u → w.cell? (a.add j) = some u := by
  intro j u hu
  have hj : j < xs.length := by
    have := List.getElem?_eq_some_iff.1 hu
    obtain ⟨h1, _⟩ := this
    rwa [ints_length] at h1
  obtain ⟨b, off, e, _, hc⟩ := h j hj
  cases e
  rw [ints_get hj] at hu
  have hadd : (⟨b, off, none⟩ : Addr).add j = ⟨b, off + j, none⟩ := by unfold Addr.add; split <;> simp_all
  rw [hadd, hc]
  exact hu
def ReadsN (w : World) (X : Value) (l : List Int) : Prop := ∃ b off c, X = .slice (some ⟨b, off, none⟩) l.length c ∧ RdI w (some ⟨b, off, none⟩) l
theorem ReadsN.below {w w' : World} {X : Value} {l : List Int} (h : ReadsN w X l) (hb : Below w.heap.size w w') : ReadsN w' X l := by
  obtain ⟨b, off, c, h1, h2⟩ := h
  exact ⟨b, off, c, h1, h2.below hb⟩
theorem step_appI {w : World} {ops : Array Oper} {o : Oper} {a : Act} {K : Act → World → Prop} {Q : Exit → Act → World → Prop} {E : Prop} (hgd : o.guard = none) (s x : Operand)
    (ho : o.op = .call { callee := .builtin .append, args := #[s, x], argTypes := #[38, 38] })
    (B : Nat) (v X : Value) (l m : List Int) (hs : a.eval s = v) (hx : a.eval x = X) (hown : RowI w B v l) (hX : ReadsN w X m) (hl : l.length ≤ 100000) (hm : m.length ≤ 100000) (hB : B ≤ w.heap.size)
    (h : ∀ v' w', RowI w' B v' (l ++ m) → Below B w w' → w.grownBy w' v.ownBlock → K (a.put o.dst v') w') :
    if Region.wanted o (yielded ops a.tmps) = true then Oper.wp Tryz.prog o a w K Q else E := by
  have hw : Region.wanted o (yielded ops a.tmps) = true := by simp [Region.wanted, hgd]
  rw [if_pos hw]
  obtain ⟨iP, hiP, hzP, hsP, hbP⟩ := info_parts Tryz.infoI
  obtain ⟨b, off, c, rfl, hrd⟩ := hX
  obtain ⟨v', w', hr, h2, h3, _, _⟩ := run_append_own_at (P := Tryz.prog) w B 38 o.type 3 iP _ 1 8 Tryz.underlying38 hiP hzP hsP hbP rfl (by omega) v l.length (ints l) hown ⟨b, off, none⟩ m.length c (ints m) (by rw [ints_length]; omega) (rdNewsI hrd) (ints_oneCell m) (by unfold maxLen; omega) (by omega) hB
  unfold Oper.wp execOp
  simp only [ho, resolve, invoke, builtin, Sem.run_bind, Sem.run_pure, Result.andThen_ok, List.map_toArray, List.map_cons, List.map_nil, hs, hx, hr]
  exact h v' w' (row_congr h2 (by simp) (by simp [ints])) ((Below.refl _ _).grown h3 hB (fun q e => (hown.lt q e).1)) h3
theorem readsN_one (u : World) (H : Nat) (x : Int) (hH : u.heap.size = H) : ReadsN (u.alloc (.cells #[.int .i64 x] 3)) (.slice (some ⟨H, 0, none⟩) 1 1) [x] := by
  subst hH
  refine ⟨_, _, 1, rfl, fun j hj => ?_⟩
  obtain rfl : j = 0 := by simpa using hj
  exact ⟨_, _, rfl, by simp, by simp [go_sem]⟩
theorem ReadsN.alloc' {w : World} {X : Value} {l : List Int} {o : Obj} (h : ReadsN w X l) : ReadsN (w.alloc o) X l := h.below ((Below.refl _ _).alloc (Nat.le_refl _) _)
theorem ReadsN.drew' {w : World} {X : Value} {l : List Int} (h : ReadsN w X l) : ReadsN w.drew X l := h.below (Below.refl _ _).drew
theorem RowI.drew' {w : World} {B : Nat} {v : Value} {l : List Int} (h : RowI w B v l) : RowI w.drew B v l := h.below (Below.refl _ _).drew

theorem row_shp {w : World} {B : Nat} {v : Value} {xs : List Int} (h : RowI w B v xs) : ∃ ad c, v = .slice ad xs.length c := by
  rcases h.2 with ⟨e, h0⟩ | ⟨g, cap, cur, e, hg, _⟩
  · exact ⟨none, 0, by rw [e, h0]⟩
  · exact ⟨_, cap, e⟩
def rdF (m : Nat → Nat → Int) (p : List Int) : Nat → Nat → Int := fun i k => prodZ (m i k) (p.getD i 0 - p.getD k 0)
def rdS (m : Nat → Nat → Int) (p : List Int) (i k : Nat) : Nat → Nat → Int := fun a b => if a < i ∨ (a = i ∧ b < k) then rdF m p a b else m a b
theorem rdS_next (m : Nat → Nat → Int) (p : List Int) (i k : Nat) : (fun a b => if a = i ∧ b = k then rdF m p i k else rdS m p i k a b) = rdS m p i (k + 1) := by
  funext a b
  unfold rdS
  by_cases h : a = i ∧ b = k
  · obtain ⟨rfl, rfl⟩ := h
    rw [if_pos ⟨rfl, rfl⟩, if_pos (by omega)]
  · rw [if_neg h]
    by_cases h2 : a < i ∨ (a = i ∧ b < k)
    · rw [if_pos h2, if_pos (by omega)]
    · rw [if_neg h2, if_neg (by omega)]
theorem rdS_row (n : Nat) (m : Nat → Nat → Int) (p : List Int) (i : Nat) : toM n (rdS m p i n) = toM n (rdS m p (i + 1) 0) := toM_congr fun a b ha hb => by
  unfold rdS
  by_cases h : a < i ∨ (a = i ∧ b < n)
  · rw [if_pos h, if_pos (by omega)]
  · rw [if_neg h, if_neg (by omega)]
theorem rdS_end (n : Nat) (m : Nat → Nat → Int) (p : List Int) : toM n (rdS m p n 0) = toM n (rdF m p) := toM_congr fun a b ha hb => by
  unfold rdS
  rw [if_pos (Or.inl ha)]
theorem rdS_start (m : Nat → Nat → Int) (p : List Int) : rdS m p 0 0 = m := by
  funext a b
  unfold rdS
  rw [if_neg (by omega)]

end Go.Proofs.YtfgdhlnmndgjbaaGreatDoor

/-
  Ways in a matrix: whether lists are ways, and what they cost; the program's. By an AI agent.
-/
namespace Go.Proofs.YtfgdhlnmndgjbaaGreatDoor
open Go.RowKit

/-! ### plain -/
def vtB (n : Nat) (l : List Int) : Bool := allB l 0 ((n : Int) - 1)
def vx (l : List Int) (t : Nat) : Nat := (l.getD t 0).toNat
def coF (m : Nat → Nat → Int) (l : List Int) : Nat → Int
  | 0 => 0
  | t + 1 => prodZ (coF m l t) (m (vx l t) (vx l (t + 1)))
def stB (m : Nat → Nat → Int) (l : List Int) : Nat → Bool
  | 0 => true
  | t + 1 => stB m l t && !decide (m (vx l t) (vx l (t + 1)) = 1000000000)
def wayB (n : Nat) (m : Nat → Nat → Int) (l : List Int) : Bool := inB l.length 1 20 && (vtB n l && stB m l (l.length - 1))
theorem vt_at {n : Nat} {l : List Int} (h : vtB n l = true) {t : Nat} (ht : t < l.length) : l.getD t 0 = (vx l t : Int) ∧ vx l t < n := by
  have := allB_t.1 h t ht
  unfold vx
  omega
theorem co_bd {n : Nat} {m : Nat → Nat → Int} {l : List Int} (hm : ∀ a b, a < n → b < n → numB (m a b) = true) (hv : vtB n l = true) (hl : l.length ≤ 900) : ∀ t, t < l.length → (stB m l t = false ∧ coF m l t = 1000000000) ∨ (stB m l t = true ∧ -(1000000 * (t : Int)) ≤ coF m l t ∧ coF m l t ≤ 1000000 * (t : Int))
  | 0, _ => Or.inr ⟨rfl, by simp [coF]⟩
  | t + 1, ht => by
    have ih := co_bd hm hv hl t (by omega)
    have h1 := (vt_at hv (t := t) (by omega)).2
    have h2 := (vt_at hv ht).2
    have h3 := numB_t (hm _ _ h1 h2)
    unfold stB coF
    by_cases e : m (vx l t) (vx l (t + 1)) = 1000000000
    · left
      rw [e]
      refine ⟨by simp, prodZ_inf (Or.inr rfl)⟩
    · rcases ih with ⟨i1, i2⟩ | ⟨i1, i2, i3⟩
      · left
        rw [i1, i2]
        exact ⟨by simp, prodZ_inf (Or.inl rfl)⟩
      · by_cases e2 : coF m l t = 1000000000
        · omega
        · right
          rw [i1, prodZ_fin e2 e]
          refine ⟨by simp [e], by omega, by omega⟩

end Go.Proofs.YtfgdhlnmndgjbaaGreatDoor

/-
  Ways in a matrix: whether lists are ways, what they cost, whether potentials prove them. By an AI agent.
-/
namespace Go.Proofs.YtfgdhlnmndgjbaaGreatDoor
open Go.RowKit

def cowX (M : List (List Int)) (l : List Int) : Int := coF (entM M) l (l.length - 1)
def cowW (M : List (List Int)) (l : List Int) : Bool := sqB M && wayB M.length (entM M) l
def prB (m : Nat → Nat → Int) (p l : List Int) : Nat → Bool
  | 0 => true
  | t + 1 => prB m p l t && decide (p.getD (vx l (t + 1)) 0 = p.getD (vx l t) 0 + m (vx l t) (vx l (t + 1)))
theorem prB_t {m : Nat → Nat → Int} {p l : List Int} : ∀ {t : Nat}, prB m p l t = true ↔ ∀ s, s < t → p.getD (vx l (s + 1)) 0 = p.getD (vx l s) 0 + m (vx l s) (vx l (s + 1))
  | 0 => ⟨fun _ s hs => absurd hs (Nat.not_lt_zero _), fun _ => rfl⟩
  | t + 1 => by
    unfold prB
    rw [Bool.and_eq_true, prB_t, decide_eq_true_eq]
    constructor
    · rintro ⟨h1, h2⟩ s hs
      by_cases e : s = t
      · subst e; exact h2
      · exact h1 s (by omega)
    · exact fun h => ⟨fun s hs => h s (by omega), h t (by omega)⟩
theorem stB_t {m : Nat → Nat → Int} {l : List Int} : ∀ {t : Nat}, stB m l t = true ↔ ∀ s, s < t → m (vx l s) (vx l (s + 1)) ≠ 1000000000
  | 0 => ⟨fun _ s hs => absurd hs (Nat.not_lt_zero _), fun _ => rfl⟩
  | t + 1 => by
    unfold stB
    rw [Bool.and_eq_true, stB_t, Bool.not_eq_true', decide_eq_false_iff_not]
    constructor
    · rintro ⟨h1, h2⟩ s hs
      by_cases e : s = t
      · subst e; exact h2
      · exact h1 s (by omega)
    · exact fun h => ⟨fun s hs => h s (by omega), h t (by omega)⟩

end Go.Proofs.YtfgdhlnmndgjbaaGreatDoor

/-
  Whether potentials prove a way: program and reference. Printed by gen_wyN.py. By an AI agent.
-/
namespace Go.Proofs.YtfgdhlnmndgjbaaGreatDoor
open Go.RowKit

def proX (M : List (List Int)) (p l : List Int) : Bool := hasB M p && wayB M.length (entM M) l
def proB (M : List (List Int)) (p l : List Int) : Bool := proX M p l && prB (entM M) p l (l.length - 1)

end Go.Proofs.YtfgdhlnmndgjbaaGreatDoor

/-
  Vertices to which ways cost at most a number: program and reference. Printed by gen_wyQ.py. By an AI agent.
-/
namespace Go.Proofs.YtfgdhlnmndgjbaaGreatDoor
open Go.RowKit

def wiL (f : Nat → Int) (mo : Int) : Nat → List Int
  | 0 => []
  | k + 1 => if f k ≤ mo then wiL f mo k ++ [(k : Int)] else wiL f mo k
theorem wiL_len (f : Nat → Int) (mo : Int) : ∀ k, (wiL f mo k).length ≤ k
  | 0 => Nat.le_refl _
  | k + 1 => by
    have := wiL_len f mo k
    unfold wiL
    split
    · rw [List.length_append, List.length_singleton]; omega
    · omega
def wiB (M : List (List Int)) (f mo : Int) : Bool := sqB M && (inB f 0 ((M.length : Int) - 1) && (finB mo && cosB M))
def wiX (M : List (List Int)) (f mo : Int) : List Int := wiL (bf M.length (entM M) M.length f.toNat) mo M.length
end Go.Proofs.YtfgdhlnmndgjbaaGreatDoor

/-
  The first cheapest way with the fewest steps, plain: costs of so many steps, least steps, first vertices. By an AI agent.
-/
namespace Go.Proofs.YtfgdhlnmndgjbaaGreatDoor

def exF (n : Nat) (m : Nat → Nat → Int) (tv : Nat) : Nat → Nat → Int
  | 0, v => if v = tv then 0 else 1000000000
  | s + 1, v => mnF 1000000000 (fun k => prodZ (m v k) (exF n m tv s k)) n
/-- the first index from k on (of at most f) that has it. -/
def fstN (p : Nat → Bool) : Nat → Nat → Nat
  | 0, k => k
  | f + 1, k => if p k = true then k else fstN p f (k + 1)
theorem fst_from (p : Nat → Bool) : ∀ (f k j : Nat), k ≤ j → j < k + f → p j = true → (∀ i, k ≤ i → i < j → p i = false) → fstN p f k = j
  | 0, k, j, h1, h2, _, _ => by omega
  | f + 1, k, j, h1, h2, h3, h4 => by
    unfold fstN
    by_cases e : k = j
    · subst e; rw [if_pos h3]
    · rw [if_neg (by rw [h4 k (Nat.le_refl _) (by omega)]; simp)]
      exact fst_from p f (k + 1) j (by omega) (by omega) h3 (fun i hi => h4 i (by omega))
theorem fst_eq {p : Nat → Bool} {n j : Nat} (h1 : j < n) (h2 : p j = true) (h3 : ∀ i, i < j → p i = false) : fstN p n 0 = j := fst_from p n 0 j (Nat.zero_le _) (by omega) h2 (fun i _ => h3 i)
def chK (n : Nat) (m : Nat → Nat → Int) (tv s a : Nat) : Nat := fstN (fun k => !(m a k == 1000000000) && decide (prodZ (m a k) (exF n m tv s k) = exF n m tv (s + 1) a)) n 0
def chP (n : Nat) (m : Nat → Nat → Int) (tv : Nat) : Nat → Nat → List Int
  | 0, _ => []
  | s + 1, a => (chK n m tv s a : Int) :: chP n m tv s (chK n m tv s a)
theorem chP_len (n : Nat) (m : Nat → Nat → Int) (tv : Nat) : ∀ s a, (chP n m tv s a).length = s
  | 0, _ => rfl
  | s + 1, a => by unfold chP; rw [List.length_cons, chP_len n m tv s]
def chS (n : Nat) (m : Nat → Nat → Int) (a b : Nat) : Nat := fstN (fun s => decide (exF n m b s a = bf n m n a b)) n 0
def chL (n : Nat) (m : Nat → Nat → Int) (a b : Nat) : List Int := (a : Int) :: chP n m b (chS n m a b) a
def chB (M : List (List Int)) (f t : Int) : Bool := sqB M && (inB f 0 ((M.length : Int) - 1) && (inB t 0 ((M.length : Int) - 1) && (okW M && !decide (bf M.length (entM M) M.length f.toNat t.toNat = 1000000000))))
def chX (M : List (List Int)) (f t : Int) : List Int := chL M.length (entM M) f.toNat t.toNat

section
variable {n : Nat} {m : Nat → Nat → Int}
theorem ex_sound {tv : Nat} (hto : tv < n) : ∀ (s : Nat) {v : Nat}, v < n → exF n m tv s v ≠ 1000000000 → Wk n m v tv (exF n m tv s v) s
  | 0, v, hv, h => by
    unfold exF at h ⊢
    split at h
    · rename_i e
      subst e
      rw [if_pos rfl]
      exact Wk.nil hv
    · exact absurd rfl h
  | s + 1, v, hv, h => by
    rw [exF] at h ⊢
    rcases mnF_at 1000000000 (fun k => prodZ (m v k) (exF n m tv s k)) n with e | ⟨k, hk, e⟩
    · rw [e] at h; exact absurd rfl h
    · rw [e] at h ⊢
      obtain ⟨h1, h2, h3⟩ := prodZ_ne h
      exact ((Wk.one hv hk h1).append (ex_sound hto s hk h2)).cast h3.symm (by omega)
theorem ex_bd (hm : ∀ a b, a < n → b < n → numB (m a b) = true) {tv : Nat} (hto : tv < n) {s v : Nat} (hv : v < n) : exF n m tv s v = 1000000000 ∨ (-(1000000 * (s : Int)) ≤ exF n m tv s v ∧ exF n m tv s v ≤ 1000000 * (s : Int)) := by
  by_cases h : exF n m tv s v = 1000000000
  · exact Or.inl h
  · exact Or.inr ((ex_sound hto s hv h).bd hm)
theorem Wk.inv1 {i k : Nat} {c : Int} (h : Wk n m i k c 1) : i < n ∧ k < n ∧ m i k ≠ 1000000000 ∧ c = m i k := by
  generalize hs : 1 = s at h
  cases h with
  | nil _ => cases hs
  | snoc h1 h2 h3 =>
    rename_i j s c
    obtain rfl : s = 0 := by omega
    generalize hz : 0 = z at h1
    cases h1 with
    | nil h => exact ⟨h, h2, h3, by omega⟩
    | snoc _ _ _ => cases hz
theorem ex_le (hm : ∀ a b, a < n → b < n → numB (m a b) = true) {tv : Nat} : ∀ (s : Nat) {v : Nat} {c : Int}, Wk n m v tv c s → s < 900 → exF n m tv s v ≠ 1000000000 ∧ exF n m tv s v ≤ c
  | 0, v, c, h, _ => by
    generalize hs : 0 = s at h
    cases h with
    | nil _ => unfold exF; rw [if_pos rfl]; omega
    | snoc _ _ _ => cases hs
  | s + 1, v, c, h, hs => by
    have hto := h.last
    obtain ⟨u, P, hu0, hus, hP0, hPs, _, hw⟩ := h.split
    have h1 := hw 0 1 (by omega) (by omega)
    have h2 := hw 1 (s + 1) (by omega) (Nat.le_refl _)
    rw [hu0, hP0] at h1
    rw [hus, hPs] at h2
    obtain ⟨i1, i2, i3, i4⟩ := h1.inv1
    obtain ⟨j1, j2⟩ := ex_le hm s h2 (by omega)
    have h3 := mnF_le 1000000000 (fun k => prodZ (m v k) (exF n m tv s k)) i2
    rw [prodZ_fin i3 j1] at h3
    have h4 := ex_bd hm hto (s := s) i2
    have h5 := numB_t (hm _ _ i1 i2)
    rw [exF]
    omega
/-- the cheapest cost is met by fewer than n steps. -/
theorem ex_meet (hm : ∀ a b, a < n → b < n → numB (m a b) = true) (hn6 : n ≤ 6) (hfix : ∀ i k, i < n → k < n → bf n m n i k = bf n m (n + 1) i k) {a b : Nat} (ha : a < n) (hb : b < n) (h : bf n m n a b ≠ 1000000000) : ∃ s, s < n ∧ exF n m b s a = bf n m n a b := by
  obtain ⟨t, _, h1⟩ := bf_sound n ha hb h
  obtain ⟨c, s, h2, h3, h4⟩ := h1.short (fun x c s hw => fix_closed hm hn6 hfix hw)
  obtain ⟨_, h5⟩ := fix_le hm hn6 hfix h2
  obtain ⟨h6, h7⟩ := ex_le hm s h2 (by omega)
  obtain ⟨_, h8⟩ := fix_le hm hn6 hfix (ex_sound hb s ha h6)
  exact ⟨s, h4, by omega⟩
theorem ex_next {tv s a : Nat} (h : exF n m tv (s + 1) a ≠ 1000000000) : ∃ k, k < n ∧ m a k ≠ 1000000000 ∧ exF n m tv s k ≠ 1000000000 ∧ prodZ (m a k) (exF n m tv s k) = exF n m tv (s + 1) a := by
  rw [exF] at h ⊢
  rcases mnF_at 1000000000 (fun k => prodZ (m a k) (exF n m tv s k)) n with e | ⟨k, hk, e⟩
  · rw [e] at h; exact absurd rfl h
  · rw [e] at h ⊢
    obtain ⟨h1, h2, h3⟩ := prodZ_ne h
    exact ⟨k, hk, h1, h2, rfl⟩
end
end Go.Proofs.YtfgdhlnmndgjbaaGreatDoor

/-
  Least costs of so many steps to a vertex: the reference's. By an AI agent.
-/
namespace Go.Proofs.YtfgdhlnmndgjbaaGreatDoor
open Go.RowKit

def toG (k n : Nat) (F : Nat → Nat → Int) : List (List Int) := tab k fun i => tab n (F i)
theorem toG_len (k n : Nat) (F : Nat → Nat → Int) : (toG k n F).length = k := tab_length _ _
theorem toG_row {k n : Nat} (F : Nat → Nat → Int) {i : Nat} (h : i < k) : (toG k n F).getD i [] = tab n (F i) := tab_getD h _
theorem toG_succ (k n : Nat) (F : Nat → Nat → Int) : toG (k + 1) n F = toG k n F ++ [tab n (F k)] := tab_succ _ _
theorem RdM.rowG {w : World} {ad : Option Addr} {k n : Nat} {F : Nat → Nat → Int} (h : RdM w ad (toG k n F)) (hk : 0 < k) (hn : 0 < n) : ∃ b off, ad = some ⟨b, off, none⟩ ∧ b < w.heap.size ∧ ∀ i, i < k → ∃ b2 o2 c, w.cell? ⟨b, off + i, none⟩ = some (.slice (some ⟨b2, o2, none⟩) n c) ∧ b2 < w.heap.size ∧ ∀ j, j < n → w.cell? ⟨b2, o2 + j, none⟩ = some (.int .i64 (F i j)) := by
  obtain ⟨b, off, a, c, rfl, hb, _⟩ := h 0 (by rw [toG_len]; exact hk)
  refine ⟨b, off, rfl, hb, fun i hi => ?_⟩
  obtain ⟨a, c, hc, hr⟩ := h.at (i := i) (by rw [toG_len]; exact hi)
  rw [toG_row F hi, tab_length] at hc
  rw [toG_row F hi] at hr
  obtain ⟨b2, o2, rfl, hb2, _⟩ := hr 0 (by rw [tab_length]; exact hn)
  refine ⟨b2, o2, c, hc, hb2, fun j hj => ?_⟩
  have := hr.at (j := j) (by rw [tab_length]; exact hj)
  rwa [tab_getD hj] at this
theorem MatO.one {w : World} {B H : Nat} {u : Value} {xs : List Int} (h : RowI w B u xs) (hB : B ≤ w.heap.size) (hH : w.heap.size = H) : MatO (w.alloc (.cells #[u] 38)) B (.slice (some ⟨H, 0, none⟩) 1 1) [xs] [u] := by
  subst hH
  refine ⟨⟨by simp, .inr ⟨w.heap.size, 1, #[u], rfl, hB, heap_alloc_new w _, Nat.le_refl _, by unfold maxLen; omega, rfl, by simp⟩⟩, fun i hi => ?_, fun i j hi hj hij => ?_⟩
  · obtain rfl : i = 0 := by simpa using hi
    exact (CellO.of_row h).below ((Below.refl _ _).alloc (Nat.le_refl _) _)
  · have h1 : i = 0 := by simpa using hi
    have h2 : j = 0 := by simpa using hj
    omega

end Go.Proofs.YtfgdhlnmndgjbaaGreatDoor

/-
  The first cheapest way: the reference's. By an AI agent.
-/
namespace Go.Proofs.YtfgdhlnmndgjbaaGreatDoor
open Go.RowKit

theorem fst_spec (p : Nat → Bool) : ∀ (f k : Nat), (∃ j, k ≤ j ∧ j < k + f ∧ p j = true) → k ≤ fstN p f k ∧ fstN p f k < k + f ∧ p (fstN p f k) = true ∧ ∀ i, k ≤ i → i < fstN p f k → p i = false
  | 0, k, ⟨j, h1, h2, _⟩ => by omega
  | f + 1, k, ⟨j, h1, h2, h3⟩ => by
    unfold fstN
    by_cases e : p k = true
    · rw [if_pos e]
      exact ⟨Nat.le_refl _, by omega, e, fun i h4 h5 => by omega⟩
    · rw [if_neg e]
      obtain ⟨a1, a2, a3, a4⟩ := fst_spec p f (k + 1) ⟨j, by
        by_cases e2 : j = k
        · subst e2; exact absurd h3 e
        · omega, by omega, h3⟩
      refine ⟨by omega, by omega, a3, fun i h4 h5 => ?_⟩
      by_cases e2 : i = k
      · subst e2; simpa using e
      · exact a4 i (by omega) h5
theorem chK_spec {n : Nat} {m : Nat → Nat → Int} {b s a : Nat} (h : exF n m b (s + 1) a ≠ 1000000000) : chK n m b s a < n ∧ (m a (chK n m b s a) ≠ 1000000000 ∧ prodZ (m a (chK n m b s a)) (exF n m b s (chK n m b s a)) = exF n m b (s + 1) a) ∧ (∀ i, i < chK n m b s a → ¬ (m a i ≠ 1000000000 ∧ prodZ (m a i) (exF n m b s i) = exF n m b (s + 1) a)) ∧ exF n m b s (chK n m b s a) ≠ 1000000000 := by
  obtain ⟨k, h1, h2, h3, h4⟩ := ex_next h
  obtain ⟨_, a2, a3, a4⟩ := fst_spec (fun k => !(m a k == 1000000000) && decide (prodZ (m a k) (exF n m b s k) = exF n m b (s + 1) a)) n 0 ⟨k, Nat.zero_le _, by omega, by simp [h2, h4]⟩
  have a2 : chK n m b s a < n := by unfold chK; omega
  have a3 : m a (chK n m b s a) ≠ 1000000000 ∧ prodZ (m a (chK n m b s a)) (exF n m b s (chK n m b s a)) = exF n m b (s + 1) a := by
    have : (!(m a (chK n m b s a) == 1000000000) && decide (prodZ (m a (chK n m b s a)) (exF n m b s (chK n m b s a)) = exF n m b (s + 1) a)) = true := a3
    simpa using this
  refine ⟨a2, a3, fun i hi hc => ?_, ?_⟩
  · have := a4 i (Nat.zero_le _) hi
    simp [hc.1, hc.2] at this
  · rw [← a3.2] at h
    exact (prodZ_ne h).2.1
theorem chS_spec {n : Nat} {m : Nat → Nat → Int} {a b : Nat} (h : ∃ s, s < n ∧ exF n m b s a = bf n m n a b) : chS n m a b < n ∧ exF n m b (chS n m a b) a = bf n m n a b ∧ ∀ i, i < chS n m a b → exF n m b i a ≠ bf n m n a b := by
  obtain ⟨s, h1, h2⟩ := h
  obtain ⟨_, a2, a3, a4⟩ := fst_spec (fun s => decide (exF n m b s a = bf n m n a b)) n 0 ⟨s, Nat.zero_le _, by omega, by simp [h2]⟩
  refine ⟨by unfold chS; omega, of_decide_eq_true a3, fun i hi => of_decide_eq_false (a4 i (Nat.zero_le _) hi)⟩
theorem rowI_single (u : World) (B H : Nat) (x : Int) (hB : B ≤ u.heap.size) (hH : u.heap.size = H) : RowI (u.alloc (.cells #[.int .i64 x] 3)) B (.slice (some ⟨H, 0, none⟩) 1 1) [x] := by
  subst hH
  exact ⟨by simp [ints], .inr ⟨u.heap.size, 1, #[.int .i64 x], rfl, hB, heap_alloc_new u _, Nat.le_refl _, by unfold maxLen; omega, rfl, by simp [ints]⟩⟩

/-- the part behind the checks. -/
def chR (n : Nat) (m : Nat → Nat → Int) (a b : Nat) : Prop := (∃ s, s < n ∧ exF n m b s a = bf n m n a b) ∧ bf n m n a b ≠ 1000000000

end Go.Proofs.YtfgdhlnmndgjbaaGreatDoor

/-
  Assignments, plain: permutations in their order, their costs, the first best one; the program's way and the reference's tell the same. By an AI agent.
-/
namespace Go.Proofs.YtfgdhlnmndgjbaaGreatDoor

theorem vxA_lt {l : List Int} {t : Nat} (k : Int) (h : t < l.length) : vx (l ++ [k]) t = vx l t := by
  unfold vx
  rw [List.getD_eq_getElem?_getD, List.getElem?_append_left h, ← List.getD_eq_getElem?_getD]
theorem vxA_eq (l : List Int) (k : Nat) : vx (l ++ [(k : Int)]) l.length = k := by
  unfold vx
  simp [List.getD_eq_getElem?_getD]
/-- Numbers below n, none twice. -/
structure Ndp (n : Nat) (l : List Int) : Prop where
  vt : vtB n l = true
  nd : ∀ i j, i < j → j < l.length → vx l i ≠ vx l j
theorem Ndp.nil (n : Nat) : Ndp n [] := ⟨rfl, fun i j _ h => by simp at h⟩
theorem Ndp.len {n : Nat} {l : List Int} (h : Ndp n l) : l.length ≤ n := by
  rcases Nat.lt_or_ge n l.length with hl | hl
  · obtain ⟨a, b, h1, h2, h3⟩ := pigeon n (vx l) (fun t ht => (vt_at h.vt (by omega)).2)
    exact absurd h3 (h.nd a b h1 (by omega))
  · exact hl
theorem mem_vxA {n : Nat} {l : List Int} (hv : vtB n l = true) {k : Nat} : (k : Int) ∈ l ↔ ∃ t, t < l.length ∧ vx l t = k := by
  constructor
  · intro hm
    obtain ⟨t, ht, e⟩ := List.getElem_of_mem hm
    have h1 := (vt_at hv ht).1
    rw [List.getD_eq_getElem?_getD, List.getElem?_eq_getElem ht] at h1
    simp only [Option.getD_some] at h1
    exact ⟨t, ht, by omega⟩
  · rintro ⟨t, ht, e⟩
    have h1 := (vt_at hv ht).1
    rw [← e, ← h1, List.getD_eq_getElem?_getD, List.getElem?_eq_getElem ht]
    exact List.getElem_mem ht
theorem Ndp.ext {n : Nat} {l : List Int} (h : Ndp n l) {k : Nat} (hk : k < n) (h2 : (k : Int) ∉ l) : Ndp n (l ++ [(k : Int)]) := by
  refine ⟨allB_t.2 fun t ht => ?_, fun i j hij hj => ?_⟩
  · rw [List.length_append, List.length_singleton] at ht
    by_cases e : t = l.length
    · subst e
      simp [List.getD_eq_getElem?_getD]
      omega
    · have := allB_t.1 h.vt t (by omega)
      rwa [List.getD_eq_getElem?_getD, List.getElem?_append_left (by omega), ← List.getD_eq_getElem?_getD]
  · rw [List.length_append, List.length_singleton] at hj
    rw [vxA_lt _ (show i < l.length by omega)]
    by_cases e : j = l.length
    · subst e
      rw [vxA_eq]
      exact fun h3 => h2 ((mem_vxA h.vt).2 ⟨i, hij, h3⟩)
    · rw [vxA_lt _ (by omega)]
      exact h.nd i j hij (by omega)

/-! ### permutations in their order -/
def prm (n : Nat) : Nat → List Int → List (List Int)
  | 0, l => if l.length = n then [l] else []
  | f + 1, l => if l.length = n then [l] else (List.range n).flatMap fun k : Nat => if l.contains (k : Int) = true then [] else prm n f (l ++ [(k : Int)])
def prmT (n f : Nat) (l : List Int) (j : Nat) : List (List Int) := (List.range j).flatMap fun k : Nat => if l.contains (k : Int) = true then [] else prm n f (l ++ [(k : Int)])
theorem prmT_succ (n f : Nat) (l : List Int) (j : Nat) : prmT n f l (j + 1) = prmT n f l j ++ (if l.contains (j : Int) = true then [] else prm n f (l ++ [(j : Int)])) := by
  unfold prmT
  rw [List.range_succ, List.flatMap_append]
  simp
theorem prm_full {n f : Nat} {l : List Int} (h : l.length = n) : prm n f l = [l] := by
  cases f <;> (unfold prm; rw [if_pos h])
theorem prm_step {n f : Nat} {l : List Int} (h : l.length ≠ n) (hf : n ≤ l.length + f) (hl : l.length ≤ n) : prm n f l = prmT n (f - 1) l n := by
  cases f with
  | zero => omega
  | succ f => unfold prm; rw [if_neg h]; rfl
/-- what is in them: begins with the list, of length n, none twice. -/
theorem prm_mem {n : Nat} : ∀ (f : Nat) {l c : List Int}, Ndp n l → n ≤ l.length + f → (c ∈ prm n f l ↔ Ndp n c ∧ c.length = n ∧ ∃ r, c = l ++ r)
  | f, l, c, h, hf => by
    by_cases hl : l.length = n
    · rw [prm_full hl]
      constructor
      · intro hc
        obtain rfl : c = l := by simpa using hc
        exact ⟨h, hl, [], by simp⟩
      · rintro ⟨h1, h2, r, rfl⟩
        rw [List.length_append] at h2
        have : r = [] := List.length_eq_zero_iff.1 (by omega)
        rw [this]
        simp
    · cases f with
      | zero => have := h.len; omega
      | succ f =>
        rw [prm_step hl hf h.len]
        unfold prmT
        rw [List.mem_flatMap]
        constructor
        · rintro ⟨k, hk, hc⟩
          rw [List.mem_range] at hk
          split at hc
          · cases hc
          · rename_i hnc
            have hnm : (k : Int) ∉ l := by simpa using hnc
            have hx := h.ext hk hnm
            obtain ⟨g1, g2, r, rfl⟩ := (prm_mem f hx (by rw [List.length_append, List.length_singleton]; omega)).1 hc
            exact ⟨g1, g2, (k : Int) :: r, by simp⟩
        · rintro ⟨g1, g2, r, rfl⟩
          cases r with
          | nil => rw [List.append_nil] at g2; exact absurd g2 hl
          | cons x r =>
            have hv := vt_at g1.vt (t := l.length) (by simp)
            have hx0 : (l ++ x :: r).getD l.length 0 = x := by simp [List.getD_eq_getElem?_getD]
            rw [hx0] at hv
            generalize vx (l ++ x :: r) l.length = k at hv
            obtain ⟨rfl, hk⟩ := hv
            have hnm : (k : Int) ∉ l := by
              intro hm
              obtain ⟨t, ht, e⟩ := (mem_vxA h.vt).1 hm
              refine g1.nd t l.length ht (by simp) ?_
              have e1 : vx (l ++ (k : Int) :: r) t = vx l t := by
                unfold vx
                rw [List.getD_eq_getElem?_getD, List.getElem?_append_left ht, ← List.getD_eq_getElem?_getD]
              have e2 : vx (l ++ (k : Int) :: r) l.length = k := by
                unfold vx
                simp [List.getD_eq_getElem?_getD]
              rw [e1, e2, e]
            refine ⟨k, List.mem_range.2 hk, ?_⟩
            rw [if_neg (by simpa using hnm)]
            exact (prm_mem f (h.ext hk hnm) (by rw [List.length_append, List.length_singleton]; omega)).2 ⟨g1, g2, r, by simp⟩
def prmA (n : Nat) : List (List Int) := prm n n []
theorem prmA_mem {n : Nat} {c : List Int} : c ∈ prmA n ↔ Ndp n c ∧ c.length = n := by
  unfold prmA
  rw [prm_mem n (Ndp.nil n) (by simp)]
  exact ⟨fun h => ⟨h.1, h.2.1⟩, fun h => ⟨h.1, h.2, c, rfl⟩⟩

/-! ### costs -/
def csF (m : Nat → Nat → Int) (l : List Int) : Nat → Int
  | 0 => 0
  | t + 1 => prodZ (csF m l t) (m t (vx l t))
def fnB (m : Nat → Nat → Int) (l : List Int) : Nat → Bool
  | 0 => true
  | t + 1 => fnB m l t && !decide (m t (vx l t) = 1000000000)
def smN (f : Nat → Int) : Nat → Int
  | 0 => 0
  | t + 1 => smN f t + f t
theorem fnB_t {m : Nat → Nat → Int} {l : List Int} : ∀ {t : Nat}, fnB m l t = true ↔ ∀ s, s < t → m s (vx l s) ≠ 1000000000
  | 0 => ⟨fun _ s hs => absurd hs (Nat.not_lt_zero _), fun _ => rfl⟩
  | t + 1 => by
    unfold fnB
    rw [Bool.and_eq_true, fnB_t, Bool.not_eq_true', decide_eq_false_iff_not]
    constructor
    · rintro ⟨h1, h2⟩ s hs
      by_cases e : s = t
      · subst e; exact h2
      · exact h1 s (by omega)
    · exact fun h => ⟨fun s hs => h s (by omega), h t (by omega)⟩
theorem cs_bd {n : Nat} {m : Nat → Nat → Int} {l : List Int} (hm : ∀ a b, a < n → b < n → numB (m a b) = true) (hv : vtB n l = true) (hl : l.length ≤ n) (hn : n ≤ 900) : ∀ t, t ≤ l.length → (fnB m l t = false ∧ csF m l t = 1000000000) ∨ (fnB m l t = true ∧ csF m l t = smN (fun i => m i (vx l i)) t ∧ -(1000000 * (t : Int)) ≤ csF m l t ∧ csF m l t ≤ 1000000 * (t : Int))
  | 0, _ => Or.inr ⟨rfl, rfl, by simp [csF]⟩
  | t + 1, ht => by
    have ih := cs_bd hm hv hl hn t (by omega)
    have h1 := (vt_at hv (t := t) (by omega)).2
    have h3 := numB_t (hm _ _ (show t < n by omega) h1)
    unfold fnB csF smN
    by_cases e : m t (vx l t) = 1000000000
    · left
      rw [e]
      exact ⟨by simp, prodZ_inf (Or.inr rfl)⟩
    · rcases ih with ⟨i1, i2⟩ | ⟨i1, i4, i2, i3⟩
      · left
        rw [i1, i2]
        exact ⟨by simp, prodZ_inf (Or.inl rfl)⟩
      · by_cases e2 : csF m l t = 1000000000
        · omega
        · right
          rw [i1, prodZ_fin e2 e, ← i4]
          exact ⟨by simp [e], rfl, by omega, by omega⟩
def costP (m : Nat → Nat → Int) (l : List Int) : Int := csF m l l.length
def finP (m : Nat → Nat → Int) (l : List Int) : Bool := fnB m l l.length
theorem csF_snoc {m : Nat → Nat → Int} {l : List Int} (k : Int) : ∀ {t : Nat}, t ≤ l.length → csF m (l ++ [k]) t = csF m l t
  | 0, _ => rfl
  | t + 1, h => by unfold csF; rw [csF_snoc k (t := t) (by omega), vxA_lt k (by omega)]
theorem fnB_app {m : Nat → Nat → Int} {l : List Int} (r : List Int) : ∀ {t : Nat}, t ≤ l.length → fnB m (l ++ r) t = fnB m l t
  | 0, _ => rfl
  | t + 1, h => by
    have e : vx (l ++ r) t = vx l t := by
      unfold vx
      rw [List.getD_eq_getElem?_getD, List.getElem?_append_left (by omega), ← List.getD_eq_getElem?_getD]
    unfold fnB
    rw [fnB_app r (t := t) (by omega), e]
theorem fnB_mono {m : Nat → Nat → Int} {l : List Int} {s t : Nat} (h : s ≤ t) (ht : fnB m l t = true) : fnB m l s = true := fnB_t.2 fun q hq => fnB_t.1 ht q (by omega)

/-! ### the reference: what is possible -/
def asl (n : Nat) (m : Nat → Nat → Int) : Nat → List Int → List (List Int)
  | 0, l => if l.length = n then [l] else []
  | f + 1, l => if l.length = n then [l] else (List.range n).flatMap fun k : Nat => if (!decide (m l.length k = 1000000000) && !l.contains (k : Int)) = true then asl n m f (l ++ [(k : Int)]) else []
def aslT (n : Nat) (m : Nat → Nat → Int) (f : Nat) (l : List Int) (j : Nat) : List (List Int) := (List.range j).flatMap fun k : Nat => if (!decide (m l.length k = 1000000000) && !l.contains (k : Int)) = true then asl n m f (l ++ [(k : Int)]) else []
theorem aslT_succ (n : Nat) (m : Nat → Nat → Int) (f : Nat) (l : List Int) (j : Nat) : aslT n m f l (j + 1) = aslT n m f l j ++ (if (!decide (m l.length j = 1000000000) && !l.contains (j : Int)) = true then asl n m f (l ++ [(j : Int)]) else []) := by
  unfold aslT
  rw [List.range_succ, List.flatMap_append]
  simp
theorem asl_full {n : Nat} {m : Nat → Nat → Int} {f : Nat} {l : List Int} (h : l.length = n) : asl n m f l = [l] := by
  cases f <;> (unfold asl; rw [if_pos h])
theorem asl_step {n : Nat} {m : Nat → Nat → Int} {f : Nat} {l : List Int} (h : l.length ≠ n) (hf : n ≤ l.length + f) (hl : l.length ≤ n) : asl n m f l = aslT n m (f - 1) l n := by
  cases f with
  | zero => omega
  | succ f => unfold asl; rw [if_neg h]; rfl
theorem filter_flatMapA {α β : Type} (p : β → Bool) (g h : α → List β) : ∀ (L : List α), (∀ x ∈ L, h x = (g x).filter p) → L.flatMap h = (L.flatMap g).filter p
  | [], _ => rfl
  | x :: L, hx => by
    rw [List.flatMap_cons, List.flatMap_cons, List.filter_append, hx x (List.mem_cons_self ..), filter_flatMapA p g h L (fun y hy => hx y (List.mem_cons_of_mem _ hy))]
theorem asl_filter {n : Nat} {m : Nat → Nat → Int} : ∀ (f : Nat) {l : List Int}, Ndp n l → n ≤ l.length + f → fnB m l l.length = true → asl n m f l = (prm n f l).filter (finP m)
  | f, l, h, hf, hfin => by
    by_cases hl : l.length = n
    · rw [asl_full hl, prm_full hl]
      have : finP m l = true := hfin
      simp [this]
    · cases f with
      | zero => have := h.len; omega
      | succ f =>
        rw [asl_step hl hf h.len, prm_step hl hf h.len]
        unfold aslT prmT
        refine filter_flatMapA _ _ _ _ (fun k hk => ?_)
        rw [List.mem_range] at hk
        by_cases hc : (k : Int) ∈ l
        · have : l.contains (k : Int) = true := by simpa using hc
          rw [this]
          simp
        · have hc' : l.contains (k : Int) = false := by simpa using hc
          rw [hc']
          simp only [Bool.not_false, Bool.and_true, Bool.false_eq_true, if_false]
          have hx := h.ext hk hc
          by_cases e : m l.length k = 1000000000
          · rw [e]
            simp only [decide_true, Bool.not_true, Bool.false_eq_true, if_false]
            symm
            rw [List.filter_eq_nil_iff]
            intro c hcm
            obtain ⟨g1, g2, r, rfl⟩ := (prm_mem (f + 1 - 1) hx (by rw [List.length_append, List.length_singleton]; omega)).1 hcm
            intro hfc
            have h1 := fnB_mono (s := l.length + 1) (by simp) (show fnB m _ (l ++ [(k : Int)] ++ r).length = true from hfc)
            rw [fnB_app r (by simp)] at h1
            unfold fnB at h1
            rw [vxA_eq, e] at h1
            simp at h1
          · rw [decide_eq_false e]
            simp only [Bool.not_false, if_true]
            refine asl_filter (f + 1 - 1) hx (by rw [List.length_append, List.length_singleton]; omega) ?_
            rw [List.length_append, List.length_singleton]
            unfold fnB
            rw [fnB_app _ (Nat.le_refl _), hfin, vxA_eq, decide_eq_false e]
            rfl
def aslA (n : Nat) (m : Nat → Nat → Int) : List (List Int) := asl n m n []
theorem aslA_eq (n : Nat) (m : Nat → Nat → Int) : aslA n m = (prmA n).filter (finP m) := asl_filter n (Ndp.nil n) (by simp) rfl

/-! ### the best -/
def pkA (m : Nat → Nat → Int) (s : Int × List Int) (c : List Int) : Int × List Int := if decide (costP m c < s.1) = true then (costP m c, c) else s
def bstA (n : Nat) (m : Nat → Nat → Int) : Int × List Int := (prmA n).foldl (pkA m) (1000000000, [])
def abR (m : Nat → Nat → Int) (s : List (List Int) × Int) (c : List Int) : List (List Int) × Int :=
  let t := if (decide (s.1.length = 0) || decide (costP m c < s.2)) = true then ([], costP m c) else s
  if decide (costP m c = t.2) = true then (t.1 ++ [c], t.2) else t
def asR (n : Nat) (m : Nat → Nat → Int) : List (List Int) × Int := (aslA n m).foldl (abR m) ([], 0)
def RelA (s : Int × List Int) (r : List (List Int) × Int) : Prop := (s = (1000000000, []) ∧ r.1 = []) ∨ (s.2 ≠ [] ∧ s.1 < 1000000000 ∧ r.2 = s.1 ∧ r.1.head? = some s.2)
theorem relA_step {m : Nat → Nat → Int} {s : Int × List Int} {r : List (List Int) × Int} {c : List Int} (h : RelA s r) (hc : c ≠ []) (hf : costP m c < 1000000000) : RelA (pkA m s c) (abR m r c) := by
  unfold pkA abR
  rcases h with ⟨rfl, h1⟩ | ⟨h1, h2, h3, h4⟩
  · rw [if_pos (by simpa using hf)]
    obtain ⟨r1, r2⟩ := r
    simp only at h1
    subst h1
    simp only [List.length_nil, decide_true, Bool.true_or, if_true, List.nil_append]
    exact Or.inr ⟨hc, hf, rfl, rfl⟩
  · obtain ⟨r1, r2⟩ := r
    obtain ⟨s1, s2⟩ := s
    simp only at h1 h2 h3 h4 ⊢
    subst h3
    have hl : r1.length ≠ 0 := by
      intro e
      rw [List.length_eq_zero_iff.1 e] at h4
      cases h4
    rw [decide_eq_false hl, Bool.false_or]
    by_cases hlt : costP m c < r2
    · rw [decide_eq_true hlt]
      simp only [if_true, decide_true, List.nil_append]
      exact Or.inr ⟨hc, hf, rfl, rfl⟩
    · rw [decide_eq_false hlt]
      simp only [Bool.false_eq_true, if_false]
      by_cases e : costP m c = r2
      · rw [decide_eq_true e]
        simp only [if_true]
        refine Or.inr ⟨h1, h2, rfl, ?_⟩
        rw [List.head?_append]
        simp only at h4 ⊢
        rw [h4]
        rfl
      · rw [decide_eq_false e]
        simp only [Bool.false_eq_true, if_false]
        exact Or.inr ⟨h1, h2, rfl, h4⟩
theorem relA_fold {m : Nat → Nat → Int} : ∀ (R : List (List Int)) (s : Int × List Int) (r : List (List Int) × Int), RelA s r → (∀ c ∈ R, c ≠ [] ∧ ((finP m c = false ∧ costP m c = 1000000000) ∨ (finP m c = true ∧ costP m c < 1000000000))) → RelA (R.foldl (pkA m) s) ((R.filter (finP m)).foldl (abR m) r)
  | [], s, r, h, _ => h
  | c :: R, s, r, h, hR => by
    obtain ⟨h1, h2⟩ := hR c (List.mem_cons_self ..)
    rw [List.foldl_cons]
    rcases h2 with ⟨h2, h3⟩ | ⟨h2, h3⟩
    · rw [List.filter_cons, if_neg (by rw [h2]; simp)]
      have : pkA m s c = s := by
        unfold pkA
        rw [h3, if_neg]
        rcases h with ⟨rfl, _⟩ | ⟨_, h5, _⟩
        · simp
        · simp; omega
      rw [this]
      exact relA_fold R s r h (fun x hx => hR x (List.mem_cons_of_mem _ hx))
    · rw [List.filter_cons, if_pos h2, List.foldl_cons]
      exact relA_fold R _ _ (relA_step h h1 h3) (fun x hx => hR x (List.mem_cons_of_mem _ hx))
theorem prm_cost {n : Nat} {m : Nat → Nat → Int} (hm : ∀ a b, a < n → b < n → numB (m a b) = true) (hn : 1 ≤ n ∧ n ≤ 6) {c : List Int} (hc : Ndp n c) (hl : c.length = n) : c ≠ [] ∧ ((finP m c = false ∧ costP m c = 1000000000) ∨ (finP m c = true ∧ costP m c < 1000000000 ∧ costP m c = smN (fun i => m i (vx c i)) n ∧ -6000000 ≤ costP m c ∧ costP m c ≤ 6000000)) := by
  refine ⟨fun e => by rw [e] at hl; simp at hl; omega, ?_⟩
  have h1 := cs_bd hm hc.vt (by omega) (by omega) c.length (Nat.le_refl _)
  unfold finP costP
  rcases h1 with ⟨h1, h2⟩ | ⟨h1, h4, h2, h3⟩
  · exact Or.inl ⟨h1, h2⟩
  · rw [hl] at h2 h3 h4
    rw [hl]
    rw [hl] at h1
    exact Or.inr ⟨h1, by omega, h4, by omega, by omega⟩
theorem best_rel {n : Nat} {m : Nat → Nat → Int} (hm : ∀ a b, a < n → b < n → numB (m a b) = true) (hn : 1 ≤ n ∧ n ≤ 6) : RelA (bstA n m) (asR n m) := by
  unfold bstA asR
  rw [aslA_eq]
  refine relA_fold _ _ _ (Or.inl ⟨rfl, rfl⟩) (fun c hc => ?_)
  obtain ⟨h1, h2⟩ := prmA_mem.1 hc
  obtain ⟨g1, g2⟩ := prm_cost hm hn h1 h2
  exact ⟨g1, g2.imp id (fun h => ⟨h.1, h.2.1⟩)⟩
/-- the best is one, and none costs less. -/
theorem pkA_fold {m : Nat → Nat → Int} : ∀ (R : List (List Int)) (s : Int × List Int), (R.foldl (pkA m) s).1 ≤ s.1 ∧ (∀ c ∈ R, (R.foldl (pkA m) s).1 ≤ costP m c) ∧ (R.foldl (pkA m) s = s ∨ ((R.foldl (pkA m) s).2 ∈ R ∧ (R.foldl (pkA m) s).1 = costP m (R.foldl (pkA m) s).2 ∧ (R.foldl (pkA m) s).1 < s.1))
  | [], s => ⟨Int.le_refl _, fun c hc => (by cases hc), Or.inl rfl⟩
  | c :: R, s => by
    obtain ⟨h1, h2, h3⟩ := pkA_fold R (pkA m s c)
    rw [List.foldl_cons]
    have hp : (pkA m s c).1 ≤ s.1 ∧ (pkA m s c).1 ≤ costP m c ∧ (pkA m s c = s ∨ (pkA m s c = (costP m c, c) ∧ costP m c < s.1)) := by
      unfold pkA
      by_cases e : costP m c < s.1
      · rw [if_pos (decide_eq_true e)]
        exact ⟨by simp; omega, Int.le_refl _, Or.inr ⟨rfl, e⟩⟩
      · rw [if_neg (by simpa using e)]
        exact ⟨Int.le_refl _, by omega, Or.inl rfl⟩
    generalize hq : List.foldl (pkA m) (pkA m s c) R = q at h1 h2 h3 ⊢
    refine ⟨by omega, fun x hx => ?_, ?_⟩
    · rcases List.mem_cons.1 hx with rfl | hx
      · omega
      · exact h2 x hx
    · rcases h3 with h3 | ⟨h3, h4, h5⟩
      · rcases hp.2.2 with h6 | ⟨h6, h7⟩
        · exact Or.inl (by rw [h3, h6])
        · refine Or.inr ?_
          rw [h3, h6]
          exact ⟨List.mem_cons_self .., rfl, h7⟩
      · exact Or.inr ⟨List.mem_cons_of_mem _ h3, h4, by omega⟩
theorem best_spec {n : Nat} {m : Nat → Nat → Int} (hm : ∀ a b, a < n → b < n → numB (m a b) = true) (hn : 1 ≤ n ∧ n ≤ 6) : (bstA n m = (1000000000, []) ∧ ∀ c, Ndp n c → c.length = n → finP m c = false) ∨ (Ndp n (bstA n m).2 ∧ (bstA n m).2.length = n ∧ finP m (bstA n m).2 = true ∧ (bstA n m).1 = costP m (bstA n m).2 ∧ ∀ c, Ndp n c → c.length = n → finP m c = true → (bstA n m).1 ≤ costP m c) := by
  obtain ⟨h1, h2, h3⟩ := pkA_fold (m := m) (prmA n) (1000000000, [])
  rw [show (prmA n).foldl (pkA m) (1000000000, []) = bstA n m from rfl] at h1 h2 h3
  rcases h3 with h3 | ⟨h3, h4, h5⟩
  · refine Or.inl ⟨h3, fun c hc hl => ?_⟩
    have g1 := h2 c (prmA_mem.2 ⟨hc, hl⟩)
    rw [h3] at g1
    rcases (prm_cost hm hn hc hl).2 with g2 | ⟨_, g2, _⟩
    · exact g2.1
    · simp at g1; omega
  · obtain ⟨g1, g2⟩ := prmA_mem.1 h3
    refine Or.inr ⟨g1, g2, ?_, h4, fun c hc hl _ => h2 c (prmA_mem.2 ⟨hc, hl⟩)⟩
    rcases (prm_cost hm hn g1 g2).2 with ⟨_, g3⟩ | ⟨g3, _⟩
    · rw [← h4] at g3
      simp at h5
      omega
    · exact g3
end Go.Proofs.YtfgdhlnmndgjbaaGreatDoor

/-
  Assignments, plain: sums over permutations; a best assignment leaves no negative circuit of exchanges. By an AI agent.
-/
namespace Go.Proofs.YtfgdhlnmndgjbaaGreatDoor

/-! ### sums -/
theorem smN_congr {f g : Nat → Int} : ∀ {n : Nat}, (∀ i, i < n → f i = g i) → smN f n = smN g n
  | 0, _ => rfl
  | n + 1, h => by unfold smN; rw [smN_congr (fun i hi => h i (by omega)), h n (by omega)]
theorem smN_add (f g : Nat → Int) : ∀ n, smN (fun i => f i + g i) n = smN f n + smN g n
  | 0 => rfl
  | n + 1 => by unfold smN; rw [smN_add f g n]; omega
theorem smN_sub (f g : Nat → Int) : ∀ n, smN (fun i => f i - g i) n = smN f n - smN g n
  | 0 => rfl
  | n + 1 => by unfold smN; rw [smN_sub f g n]; omega
theorem smN_le {f g : Nat → Int} : ∀ {n : Nat}, (∀ i, i < n → f i ≤ g i) → smN f n ≤ smN g n
  | 0, _ => Int.le_refl _
  | n + 1, h => by
    have := smN_le (n := n) (fun i hi => h i (by omega))
    have := h n (by omega)
    unfold smN
    omega
theorem smN_lt {f g : Nat → Int} {x : Nat} : ∀ {n : Nat}, (∀ i, i < n → f i ≤ g i) → x < n → f x < g x → smN f n < smN g n
  | n + 1, h, hx, hl => by
    unfold smN
    by_cases e : x = n
    · subst e
      have := smN_le (n := x) (fun i hi => h i (by omega))
      omega
    · have := smN_lt (n := n) (fun i hi => h i (by omega)) (by omega) hl
      have := h n (by omega)
      omega
theorem smN_zero {f : Nat → Int} : ∀ {n : Nat}, (∀ i, i < n → f i = 0) → smN f n = 0
  | 0, _ => rfl
  | n + 1, h => by unfold smN; rw [smN_zero (fun i hi => h i (by omega)), h n (by omega)]; rfl
theorem smN_point (f : Nat → Int) {x : Nat} : ∀ {n : Nat}, x < n → smN (fun y => if y = x then f y else 0) n = f x
  | n + 1, h => by
    unfold smN
    by_cases e : n = x
    · subst e
      rw [smN_zero (fun i hi => if_neg (by omega)), if_pos rfl, Int.zero_add]
    · rw [smN_point f (show x < n by omega), if_neg e, Int.add_zero]
def hitB (w : Nat → Nat) : Nat → Nat → Bool
  | 0, _ => false
  | t + 1, x => hitB w t x || decide (w t = x)
theorem hitB_t {w : Nat → Nat} {x : Nat} : ∀ {k : Nat}, hitB w k x = true ↔ ∃ t, t < k ∧ w t = x
  | 0 => by simp [hitB]
  | k + 1 => by
    unfold hitB
    rw [Bool.or_eq_true, hitB_t, decide_eq_true_eq]
    constructor
    · rintro (⟨t, h1, h2⟩ | h)
      · exact ⟨t, by omega, h2⟩
      · exact ⟨k, by omega, h⟩
    · rintro ⟨t, h1, h2⟩
      by_cases e : t = k
      · subst e; exact Or.inr h2
      · exact Or.inl ⟨t, by omega, h2⟩
theorem hitB_succ (w : Nat → Nat) (t x : Nat) : hitB w (t + 1) x = (hitB w t x || decide (w t = x)) := rfl
theorem smN_hits {n : Nat} (w : Nat → Nat) (h : Nat → Int) : ∀ {k : Nat}, (∀ t, t < k → w t < n) → (∀ i j, i < j → j < k → w i ≠ w j) → smN (fun x => if hitB w k x = true then h x else 0) n = smN (fun t => h (w t)) k
  | 0, _, _ => smN_zero (fun i _ => rfl)
  | k + 1, h1, h2 => by
    have ih := smN_hits (n := n) w h (k := k) (fun t ht => h1 t (by omega)) (fun i j hij hj => h2 i j hij (by omega))
    have hp := smN_point (n := n) h (h1 k (by omega))
    have : smN (fun x => if hitB w (k + 1) x = true then h x else 0) n = smN (fun x => (if hitB w k x = true then h x else 0) + (if x = w k then h x else 0)) n := smN_congr fun x _ => by
      by_cases e : x = w k
      · have hn : hitB w k x = false := by
          rw [Bool.eq_false_iff]
          intro hh
          obtain ⟨t, g1, g2⟩ := hitB_t.1 hh
          exact h2 t k g1 (by omega) (by rw [g2, e])
        rw [hitB_succ, hn, e]
        simp
      · have hd : decide (w k = x) = false := decide_eq_false (fun h => e h.symm)
        rw [hitB_succ, hd, Bool.or_false, if_neg e, Int.add_zero]
    rw [this, smN_add, ih, hp]
    rfl
theorem hit_all {n : Nat} (a : Nat → Nat) (h1 : ∀ t, t < n → a t < n) (h2 : ∀ i j, i < j → j < n → a i ≠ a j) {x : Nat} (hx : x < n) : hitB a n x = true := by
  cases hh : hitB a n x with
  | true => rfl
  | false =>
    have g1 := smN_hits (n := n) a (fun _ => 1) h1 h2
    have g2 := smN_lt (n := n) (f := fun x => if hitB a n x = true then (1 : Int) else 0) (g := fun _ => 1) (fun i _ => by split <;> omega) hx (by simp [hh])
    rw [g1] at g2
    omega
theorem smN_perm {n : Nat} (a : Nat → Nat) (h : Nat → Int) (h1 : ∀ t, t < n → a t < n) (h2 : ∀ i j, i < j → j < n → a i ≠ a j) : smN (fun t => h (a t)) n = smN h n := by
  rw [← smN_hits (n := n) a h h1 h2]
  exact smN_congr fun x hx => by rw [hit_all a h1 h2 hx, if_pos rfl]
theorem smN_tele (b : Nat → Int) : ∀ s, smN (fun t => b (t + 1)) s = smN b s + b s - b 0
  | 0 => by simp [smN]
  | s + 1 => by unfold smN; rw [smN_tele b s]; omega

/-! ### exchanges -/
def stA (m : Nat → Nat → Int) (A : List Int) : Nat → Nat → Int := fun i j => prodZ (m j (vx A i)) (-(m i (vx A i)))
section
variable {n : Nat} {m : Nat → Nat → Int} {A : List Int}
theorem Ndp.at {l : List Int} (h : Ndp n l) (hl : l.length = n) : (∀ t, t < n → vx l t < n) ∧ ∀ i j, i < j → j < n → vx l i ≠ vx l j := ⟨fun t ht => (vt_at h.vt (by omega)).2, fun i j h1 h2 => h.nd i j h1 (by omega)⟩
/-- a list by its numbers. -/
theorem vx_tab {g : Nat → Nat} {t : Nat} (h : t < n) : vx (tab n fun x => ((g x : Nat) : Int)) t = g t := by
  unfold vx
  rw [tab_getD h]
  rfl
theorem ndp_tab {g : Nat → Nat} (h1 : ∀ t, t < n → g t < n) (h2 : ∀ i j, i < j → j < n → g i ≠ g j) : Ndp n (tab n fun x => ((g x : Nat) : Int)) :=
  ⟨allB_t.2 fun t ht => by
    rw [tab_length] at ht
    rw [tab_getD ht]
    have := h1 t ht
    omega, fun i j hij hj => by
    rw [tab_length] at hj
    rw [vx_tab (by omega), vx_tab hj]
    exact h2 i j hij hj⟩
theorem stA_ne {i j : Nat} (h : stA m A i j ≠ 1000000000) : m j (vx A i) ≠ 1000000000 ∧ stA m A i j = m j (vx A i) - m i (vx A i) := by
  unfold stA at h ⊢
  obtain ⟨h1, h2, h3⟩ := prodZ_ne h
  exact ⟨h1, by rw [h3]; omega⟩
theorem no_neg (hm : ∀ a b, a < n → b < n → numB (m a b) = true) (hn : 1 ≤ n ∧ n ≤ 6) (hA : Ndp n A) (hl : A.length = n) (hf : finP m A = true) (opt : ∀ c, Ndp n c → c.length = n → finP m c = true → costP m A ≤ costP m c) :
    ∀ (s : Nat) {x : Nat} {c : Int}, Wk n (stA m A) x x c s → 0 ≤ c := by
  intro s
  induction s using Nat.strongRecOn with
  | ind s ih =>
    intro x c h
    obtain ⟨v, P, h1, h2, h3, h4, h5, h6⟩ := h.split
    by_cases hrep : ∃ a b, a < b ∧ b ≤ s ∧ v a = v b ∧ b - a < s
    · obtain ⟨a, b, g1, g2, g3, g4⟩ := hrep
      have w1 := h6 0 a (Nat.zero_le _) (by omega)
      have w2 := h6 a b (by omega) (by omega)
      have w3 := h6 b s g2 (Nat.le_refl _)
      rw [← g3] at w2 w3
      have q2 := ih _ g4 w2
      have w5 := w1.append w3
      rw [h1, h2] at w5
      have q5 := ih _ (by omega) w5
      rw [h3, h4] at q5
      omega
    · by_cases hs0 : s = 0
      · subst hs0
        rw [h3] at h4
        omega
      · have hdis : ∀ a b, a < b → b < s → v a ≠ v b := fun a b g1 g2 e => hrep ⟨a, b, g1, by omega, e, by omega⟩
        have hvs : v s = v 0 := by rw [h1, h2]
        obtain ⟨a1, a2⟩ := hA.at hl
        have hfin := fun i (hi : i < n) => fnB_t.1 hf i (by omega)
        have hnum := fun i (hi : i < n) => numB_t (hm i (vx A i) hi (a1 i hi))
        have hstep : ∀ t, t < s → m (v (t + 1)) (vx A (v t)) ≠ 1000000000 ∧ P (t + 1) - P t = m (v (t + 1)) (vx A (v t)) - m (v t) (vx A (v t)) := fun t ht => by
          have w := h6 t (t + 1) (by omega) (by omega)
          obtain ⟨_, _, e1, e2⟩ := (w.cast rfl (show t + 1 - t = 1 by omega)).inv1
          have hvt := h5 t (by omega)
          have := hnum (v t) hvt
          have := stA_ne e1
          exact ⟨this.1, by rw [e2]; exact this.2⟩
        -- the exchanged assignment
        let w : Nat → Nat := fun t => v (t + 1)
        have hwn : ∀ t, t < s → w t < n := fun t ht => h5 (t + 1) (by omega)
        have hwd : ∀ i j, i < j → j < s → w i ≠ w j := fun i j g1 g2 e => by
          by_cases e2 : j + 1 = s
          · have e3 : v (i + 1) = v 0 := by
              have : v (i + 1) = v (j + 1) := e
              rw [this, e2, hvs]
            exact hdis 0 (i + 1) (by omega) (by omega) e3.symm
          · exact hdis (i + 1) (j + 1) (by omega) (by omega) e
        let g : Nat → Nat := fun y => if fstN (fun t => decide (w t = y)) s 0 < s then vx A (v (fstN (fun t => decide (w t = y)) s 0)) else vx A y
        have hg1 : ∀ t, t < s → g (w t) = vx A (v t) := fun t ht => by
          have e : fstN (fun q => decide (w q = w t)) s 0 = t := fst_eq ht (by simp) (fun i hi => by simpa using hwd i t hi ht)
          simp only [g, e, if_pos ht]
        have hg2 : ∀ y, hitB w s y = false → g y = vx A y := fun y hy => by
          have : ¬ fstN (fun q => decide (w q = y)) s 0 < s := fun hlt => by
            have hsp : ∀ (p : Nat → Bool) (f k : Nat), fstN p f k < k + f → p (fstN p f k) = true := by
              intro p f
              induction f with
              | zero => intro k hk; unfold fstN at hk; omega
              | succ f ihf =>
                intro k hk
                unfold fstN at hk ⊢
                split
                · rename_i hp; exact hp
                · rename_i hp
                  rw [if_neg hp] at hk
                  exact ihf (k + 1) (by omega)
            have := hsp (fun q => decide (w q = y)) s 0 (by omega)
            have h9 : hitB w s y = true := hitB_t.2 ⟨_, hlt, by simpa using this⟩
            rw [hy] at h9; cases h9
          simp only [g, if_neg this]
        have hgn : ∀ y, y < n → g y < n := fun y hy => by
          cases hh : hitB w s y with
          | false => rw [hg2 y hh]; exact a1 y hy
          | true =>
            obtain ⟨t, g1, rfl⟩ := hitB_t.1 hh
            rw [hg1 t g1]
            exact a1 _ (h5 t (by omega))
        have ainj : ∀ i j, i < n → j < n → vx A i = vx A j → i = j := fun i j hi hj e => by
          rcases Nat.lt_trichotomy i j with q | q | q
          · exact absurd e (a2 i j q hj)
          · exact q
          · exact absurd e.symm (a2 j i q hi)
        have vhit : ∀ t, t < s → hitB w s (v t) = true := fun t ht => by
          cases t with
          | zero => exact hitB_t.2 ⟨s - 1, by omega, by show v (s - 1 + 1) = v 0; rw [show s - 1 + 1 = s by omega, hvs]⟩
          | succ t => exact hitB_t.2 ⟨t, by omega, rfl⟩
        have hgi : ∀ i j, i < n → j < n → g i = g j → i = j := fun i j hi hj e => by
          cases hhi : hitB w s i with
          | false =>
            cases hhj : hitB w s j with
            | false => rw [hg2 i hhi, hg2 j hhj] at e; exact ainj i j hi hj e
            | true =>
              obtain ⟨t, g1, rfl⟩ := hitB_t.1 hhj
              rw [hg2 i hhi, hg1 t g1] at e
              have := ainj i (v t) hi (h5 t (by omega)) e
              rw [this, vhit t g1] at hhi
              cases hhi
          | true =>
            obtain ⟨q, g0, rfl⟩ := hitB_t.1 hhi
            cases hhj : hitB w s j with
            | false =>
              rw [hg1 q g0, hg2 j hhj] at e
              have := ainj (v q) j (h5 q (by omega)) hj e
              rw [← this, vhit q g0] at hhj
              cases hhj
            | true =>
              obtain ⟨t, g1, rfl⟩ := hitB_t.1 hhj
              rw [hg1 q g0, hg1 t g1] at e
              have e2 := ainj (v q) (v t) (h5 q (by omega)) (h5 t (by omega)) e
              have : q = t := by
                rcases Nat.lt_trichotomy q t with z | z | z
                · exact absurd e2 (hdis q t z g1)
                · exact z
                · exact absurd e2.symm (hdis t q z g0)
              rw [this]
        have hG := ndp_tab hgn (fun i j h1 h2 e => absurd (hgi i j (by omega) h2 e) (by omega))
        have hGl := tab_length n (fun x => ((g x : Nat) : Int))
        have hGv : ∀ i, i < n → vx (tab n fun x => ((g x : Nat) : Int)) i = g i := fun i hi => vx_tab hi
        have hGf : finP m (tab n fun x => ((g x : Nat) : Int)) = true := fnB_t.2 fun i hi => by
          rw [hGl] at hi
          rw [hGv i hi]
          cases hh : hitB w s i with
          | false => rw [hg2 i hh]; exact hfin i hi
          | true =>
            obtain ⟨t, g1, rfl⟩ := hitB_t.1 hh
            rw [hg1 t g1]
            exact (hstep t g1).1
        have hopt := opt _ hG hGl hGf
        obtain ⟨_, c1⟩ := prm_cost hm hn hA hl
        obtain ⟨_, c2⟩ := prm_cost hm hn hG hGl
        rcases c1 with ⟨c1, _⟩ | ⟨_, _, c1, _⟩
        · rw [hf] at c1; cases c1
        rcases c2 with ⟨c2, _⟩ | ⟨_, _, c2, _⟩
        · rw [hGf] at c2; cases c2
        rw [c1, c2] at hopt
        have e1 : smN (fun i => m i (vx (tab n fun x => ((g x : Nat) : Int)) i)) n - smN (fun i => m i (vx A i)) n = smN (fun t => m (v (t + 1)) (vx A (v t)) - m (v (t + 1)) (vx A (v (t + 1)))) s := by
          rw [← smN_sub, show (fun t => m (v (t + 1)) (vx A (v t)) - m (v (t + 1)) (vx A (v (t + 1)))) = (fun t => (fun y => m y (vx A (v t)) - m y (vx A y)) (w t)) from rfl]
          have e2 : smN (fun t => (fun y => m y (vx A (v t)) - m y (vx A y)) (w t)) s = smN (fun t => (fun y => m y (g y) - m y (vx A y)) (w t)) s := smN_congr fun t ht => by
            simp only [hg1 t ht]
          rw [e2, ← smN_hits (n := n) w (fun y => m y (g y) - m y (vx A y)) hwn hwd]
          exact smN_congr fun y hy => by
            rw [hGv y hy]
            cases hh : hitB w s y with
            | true => rw [if_pos rfl]
            | false => rw [if_neg (by simp), hg2 y hh]; omega
        have e3 : c = smN (fun t => P (t + 1) - P t) s := by
          rw [smN_sub, smN_tele, h3, h4]
          omega
        have e4 : smN (fun t => P (t + 1) - P t) s = smN (fun t => m (v (t + 1)) (vx A (v t)) - m (v t) (vx A (v t))) s := smN_congr fun t ht => (hstep t ht).2
        have e34 := e3.trans e4
        rw [smN_sub] at e1 e34
        have e5 := smN_tele (fun t => m (v t) (vx A (v t))) s
        simp only [hvs] at e5
        omega
end
end Go.Proofs.YtfgdhlnmndgjbaaGreatDoor

/-
  Prices, plain: the least lengths of exchanges, in place (the program) and by matrices (the reference), are the same; they are prices and prove the best. By an AI agent.
-/
namespace Go.Proofs.YtfgdhlnmndgjbaaGreatDoor

def bd2 (n : Nat) (F : Nat → Nat → Int) : Prop := ∀ a b, a < n → b < n → F a b = 1000000000 ∨ (-2000000 ≤ F a b ∧ F a b ≤ 2000000)
section
variable {n : Nat} {F : Nat → Nat → Int}
theorem Wk.bd2 (hF : bd2 n F) {i k s : Nat} {c : Int} (h : Wk n F i k c s) : -(2000000 * (s : Int)) ≤ c ∧ c ≤ 2000000 * (s : Int) := by
  induction h with
  | nil _ => simp
  | snoc h hk hne ih =>
    have := hF _ _ h.last hk
    rw [Int.natCast_add, Int.mul_add]
    omega
theorem bf_bd2 (hF : bd2 n F) {s i k : Nat} (hi : i < n) (hk : k < n) : bf n F s i k = 1000000000 ∨ (-(2000000 * (s : Int)) ≤ bf n F s i k ∧ bf n F s i k ≤ 2000000 * (s : Int)) := by
  by_cases h : bf n F s i k = 1000000000
  · exact Or.inl h
  · obtain ⟨t, h1, h2⟩ := bf_sound s hi hk h
    have := h2.bd2 hF
    exact Or.inr (by omega)
theorem bf_le2 (hF : bd2 n F) {i k s : Nat} {c : Int} (h : Wk n F i k c s) (hs : s < 400) : bf n F s i k ≠ 1000000000 ∧ bf n F s i k ≤ c := by
  induction h with
  | nil _ => unfold bf; rw [if_pos rfl]; omega
  | snoc hw hk hne ih =>
    rename_i j k s c
    obtain ⟨h1, h2⟩ := ih (by omega)
    have h3 := mnF_le (bf n F s i k) (fun j => prodZ (bf n F s i j) (F j k)) hw.last
    rw [prodZ_fin h1 hne] at h3
    have h4 := bf_bd2 hF (s := s) hw.first hw.last
    have h5 := hF _ _ hw.last hk
    rw [bf]
    omega
/-- the least cost of walks to j. -/
def LeastW (n : Nat) (F : Nat → Nat → Int) (j : Nat) (U : Int) : Prop := (∃ i s, Wk n F i j U s) ∧ ∀ i c s, Wk n F i j c s → U ≤ c
theorem LeastW.uniq {j : Nat} {U V : Int} (h : LeastW n F j U) (g : LeastW n F j V) : U = V := by
  obtain ⟨⟨i, s, h1⟩, h2⟩ := h
  obtain ⟨⟨a, t, g1⟩, g2⟩ := g
  have := h2 _ _ _ g1
  have := g2 _ _ _ h1
  omega
theorem LeastW.bd (hF : bd2 n F) (hn : n ≤ 6) (hc : ∀ x c s, Wk n F x x c s → 0 ≤ c) {j : Nat} {U : Int} (hj : j < n) (h : LeastW n F j U) : -12000000 ≤ U ∧ U ≤ 0 := by
  obtain ⟨⟨i, s, h1⟩, h2⟩ := h
  obtain ⟨c', s', g1, g2, g3⟩ := Wk.short hc _ h1
  have g4 := g1.bd2 hF
  have g5 := h2 _ _ _ (Wk.nil hj)
  omega
/-! the reference's -/
def uR (n : Nat) (F : Nat → Nat → Int) (j : Nat) : Int := mnF 0 (fun i => bf n F n i j) n
theorem uR_least (hF : bd2 n F) (hn : n ≤ 6) (hc : ∀ x c s, Wk n F x x c s → 0 ≤ c) {j : Nat} (hj : j < n) : LeastW n F j (uR n F j) := by
  unfold uR
  refine ⟨?_, fun i c s h => ?_⟩
  · have h0 := mnF_start 0 (fun i => bf n F n i j) n
    rcases mnF_at 0 (fun i => bf n F n i j) n with e | ⟨i, hi, e⟩
    · rw [e]; exact ⟨j, 0, Wk.nil hj⟩
    · rw [e] at h0 ⊢
      obtain ⟨t, _, h1⟩ := bf_sound n hi hj (show bf n F n i j ≠ 1000000000 by omega)
      exact ⟨i, t, h1⟩
  · obtain ⟨c', s', g1, g2, g3⟩ := Wk.short hc _ h
    have g4 := (bf_le2 hF g1 (by omega)).2
    have g5 := bf_mono (n := n) (m := F) (show s' ≤ n by omega) i j
    have g6 : mnF 0 (fun i => bf n F n i j) n ≤ bf n F n i j := mnF_le 0 (fun i => bf n F n i j) h.first
    omega
/-! the program's, in place -/
def relx (F : Nat → Nat → Int) (G : Nat → Int) (i j : Nat) : Nat → Int := fun b => if b = j then leastZ (G j) (prodZ (G i) (F i j)) else G b
def rxJ (F : Nat → Nat → Int) (i : Nat) (G : Nat → Int) : Nat → Nat → Int
  | 0 => G
  | j + 1 => relx F (rxJ F i G j) i j
def rxI (n : Nat) (F : Nat → Nat → Int) (G : Nat → Int) : Nat → Nat → Int
  | 0 => G
  | i + 1 => rxJ F i (rxI n F G i) n
def rxR (n : Nat) (F : Nat → Nat → Int) : Nat → Nat → Int
  | 0 => fun _ => 0
  | r + 1 => rxI n F (rxR n F r) n
theorem relx_le (F : Nat → Nat → Int) (G : Nat → Int) (i j b : Nat) : relx F G i j b ≤ G b := by
  unfold relx leastZ
  split
  · rename_i h; subst h; split <;> omega
  · exact Int.le_refl _
theorem rxJ_le (F : Nat → Nat → Int) (i : Nat) (G : Nat → Int) (b : Nat) {s t : Nat} (h : s ≤ t) : rxJ F i G t b ≤ rxJ F i G s b := by
  induction t with
  | zero => rw [show s = 0 by omega]; exact Int.le_refl _
  | succ t ih =>
    by_cases e : s = t + 1
    · rw [e]; exact Int.le_refl _
    · exact Int.le_trans (relx_le _ _ _ _ _) (ih (by omega))
theorem rxI_le (F : Nat → Nat → Int) (G : Nat → Int) (b : Nat) {s t : Nat} (h : s ≤ t) : rxI n F G t b ≤ rxI n F G s b := by
  induction t with
  | zero => rw [show s = 0 by omega]; exact Int.le_refl _
  | succ t ih =>
    by_cases e : s = t + 1
    · rw [e]; exact Int.le_refl _
    · exact Int.le_trans (rxJ_le F t _ b (Nat.zero_le n)) (ih (by omega))
/-- each is the cost of a walk, and at most 0. -/
def SndG (n : Nat) (F : Nat → Nat → Int) (G : Nat → Int) : Prop := ∀ j, j < n → G j ≤ 0 ∧ ∃ i s, Wk n F i j (G j) s
theorem relx_snd {G : Nat → Int} {i j : Nat} (hi : i < n) (hj : j < n) (h : SndG n F G) : SndG n F (relx F G i j) := by
  intro b hb
  refine ⟨Int.le_trans (relx_le _ _ _ _ _) (h b hb).1, ?_⟩
  unfold relx
  split
  · rename_i e
    subst e
    unfold leastZ
    split
    · exact (h b hb).2
    · rename_i hlt
      have h0 := (h b hb).1
      have hne : prodZ (G i) (F i b) ≠ 1000000000 := by omega
      obtain ⟨h1, h2, h3⟩ := prodZ_ne hne
      obtain ⟨a, s, hw⟩ := (h i hi).2
      rw [h3]
      exact ⟨a, s + 1, Wk.snoc hw hb h2⟩
  · exact (h b hb).2
theorem rxJ_snd {G : Nat → Int} {i : Nat} (hi : i < n) (h : SndG n F G) : ∀ {j}, j ≤ n → SndG n F (rxJ F i G j)
  | 0, _ => h
  | j + 1, hj => relx_snd hi (by omega) (rxJ_snd hi h (by omega))
theorem rxI_snd {G : Nat → Int} (h : SndG n F G) : ∀ {i}, i ≤ n → SndG n F (rxI n F G i)
  | 0, _ => h
  | i + 1, hi => rxJ_snd (by omega) (rxI_snd h (by omega)) (Nat.le_refl _)
theorem rxR_snd : ∀ r, SndG n F (rxR n F r)
  | 0 => fun j hj => ⟨Int.le_refl _, j, 0, Wk.nil hj⟩
  | r + 1 => rxI_snd (rxR_snd r) (Nat.le_refl _)
theorem snd_bd (hF : bd2 n F) (hn : n ≤ 6) (hc : ∀ x c s, Wk n F x x c s → 0 ≤ c) {G : Nat → Int} (h : SndG n F G) {j : Nat} (hj : j < n) : -12000000 ≤ G j ∧ G j ≤ 0 := by
  obtain ⟨h0, i, s, h1⟩ := h j hj
  obtain ⟨c', s', g1, g2, g3⟩ := Wk.short hc _ h1
  have g4 := g1.bd2 hF
  omega
theorem rxR_all {i j s : Nat} {c : Int} (h : Wk n F i j c s) : ∀ {r : Nat}, s ≤ r → rxR n F r j ≤ c := by
  induction h with
  | nil hi => exact fun {r} _ => (rxR_snd r _ hi).1
  | snoc hw hk hne ih =>
    rename_i p q s c
    intro r hr
    obtain ⟨r, rfl⟩ : ∃ r', r = r' + 1 := ⟨r - 1, by omega⟩
    have h1 := ih (r := r) (by omega)
    have hp := hw.last
    have h2 : rxR n F (r + 1) q ≤ rxI n F (rxR n F r) (p + 1) q := rxI_le F _ q (by omega)
    have h3 : rxI n F (rxR n F r) (p + 1) q ≤ rxJ F p (rxI n F (rxR n F r) p) (q + 1) q := rxJ_le F p _ q (by omega)
    have h4 : rxJ F p (rxI n F (rxR n F r) p) q p ≤ rxR n F r p := Int.le_trans (rxJ_le F p _ p (Nat.zero_le q)) (rxI_le F _ p (Nat.zero_le p))
    have h5 : rxJ F p (rxI n F (rxR n F r) p) (q + 1) q = leastZ (rxJ F p (rxI n F (rxR n F r) p) q q) (prodZ (rxJ F p (rxI n F (rxR n F r) p) q p) (F p q)) := by
      show relx F (rxJ F p (rxI n F (rxR n F r) p) q) p q q = _
      unfold relx
      rw [if_pos rfl]
    have h6 := (rxJ_snd (F := F) (j := q) hp (rxI_snd (rxR_snd r) (Nat.le_of_lt hp)) (by omega) p hp).1
    rw [prodZ_fin (by omega) hne] at h5
    have h7 : leastZ (rxJ F p (rxI n F (rxR n F r) p) q q) (rxJ F p (rxI n F (rxR n F r) p) q p + F p q) ≤ rxJ F p (rxI n F (rxR n F r) p) q p + F p q := by unfold leastZ; split <;> omega
    omega
theorem uI_least (hc : ∀ x c s, Wk n F x x c s → 0 ≤ c) {j : Nat} (hj : j < n) : LeastW n F j (rxR n F n j) := by
  refine ⟨(rxR_snd n j hj).2, fun i c s h => ?_⟩
  obtain ⟨c', s', g1, g2, g3⟩ := Wk.short hc _ h
  have := rxR_all g1 (r := n) (by omega)
  omega
theorem uI_uR (hF : bd2 n F) (hn : n ≤ 6) (hc : ∀ x c s, Wk n F x x c s → 0 ≤ c) {j : Nat} (hj : j < n) : rxR n F n j = uR n F j := (uI_least hc hj).uniq (uR_least hF hn hc hj)
end

/-! ### prices -/
section
variable {n : Nat} {m : Nat → Nat → Int} {A : List Int}
/-- A best assignment. -/
structure BstA (n : Nat) (m : Nat → Nat → Int) (A : List Int) : Prop where
  num : ∀ a b, a < n → b < n → numB (m a b) = true
  n6 : 1 ≤ n ∧ n ≤ 6
  nd : Ndp n A
  len : A.length = n
  fin : finP m A = true
  opt : ∀ c, Ndp n c → c.length = n → finP m c = true → costP m A ≤ costP m c
theorem BstA.at (h : BstA n m A) {i : Nat} (hi : i < n) : vx A i < n ∧ m i (vx A i) ≠ 1000000000 ∧ -1000000 ≤ m i (vx A i) ∧ m i (vx A i) ≤ 1000000 := by
  have h1 := (h.nd.at h.len).1 i hi
  have h2 := fnB_t.1 h.fin i (by rw [h.len]; exact hi)
  have h3 := numB_t (h.num i (vx A i) hi h1)
  exact ⟨h1, h2, by omega, by omega⟩
theorem BstA.bd (h : BstA n m A) : bd2 n (stA m A) := fun a b ha hb => by
  have h1 := h.at ha
  have h2 := numB_t (h.num b (vx A a) hb h1.1)
  unfold stA
  by_cases e : m b (vx A a) = 1000000000
  · exact Or.inl (prodZ_inf (Or.inl e))
  · rw [prodZ_fin e (by omega)]
    exact Or.inr (by omega)
theorem BstA.cyc (h : BstA n m A) : ∀ x c s, Wk n (stA m A) x x c s → 0 ≤ c := fun _ _ s hw => no_neg h.num h.n6 h.nd h.len h.fin h.opt s hw
def prU (n : Nat) (m : Nat → Nat → Int) (A : List Int) : Nat → Int := uR n (stA m A)
def invA (n : Nat) (A : List Int) (k : Nat) : Nat := fstN (fun i => decide (vx A i = k)) n 0
def prV (n : Nat) (m : Nat → Nat → Int) (A : List Int) (k : Nat) : Int := m (invA n A k) k - prU n m A (invA n A k)
theorem BstA.inv (h : BstA n m A) {i : Nat} (hi : i < n) : invA n A (vx A i) = i := fst_eq hi (by simp) (fun t ht => by simpa using (h.nd.at h.len).2 t i ht hi)
theorem BstA.hit (h : BstA n m A) {k : Nat} (hk : k < n) : ∃ i, i < n ∧ vx A i = k := hitB_t.1 (hit_all (vx A) (h.nd.at h.len).1 (h.nd.at h.len).2 hk)
theorem BstA.U (h : BstA n m A) {i : Nat} (hi : i < n) : -12000000 ≤ prU n m A i ∧ prU n m A i ≤ 0 := (uR_least h.bd h.n6.2 h.cyc hi).bd h.bd h.n6.2 h.cyc hi
theorem BstA.V (h : BstA n m A) {i : Nat} (hi : i < n) : prV n m A (vx A i) = m i (vx A i) - prU n m A i := by unfold prV; rw [h.inv hi]
theorem BstA.Vb (h : BstA n m A) {k : Nat} (hk : k < n) : -1000000 ≤ prV n m A k ∧ prV n m A k ≤ 13000000 := by
  obtain ⟨i, hi, rfl⟩ := h.hit hk
  rw [h.V hi]
  have := h.at hi
  have := h.U hi
  omega
/-- they are prices. -/
theorem BstA.prices (h : BstA n m A) {i k : Nat} (hi : i < n) (hk : k < n) : prU n m A i + prV n m A k ≤ m i k := by
  obtain ⟨p, hp, rfl⟩ := h.hit hk
  have h1 := h.V hp
  have h2 := h.U hi
  have h3 := h.Vb hk
  have h4 := numB_t (h.num i (vx A p) hi hk)
  by_cases e : m i (vx A p) = 1000000000
  · omega
  · have h5 := h.at hp
    have e2 : stA m A p i = m i (vx A p) - m p (vx A p) := by unfold stA; rw [prodZ_fin e (by omega)]; omega
    obtain ⟨⟨a, s, hw⟩, _⟩ := uR_least h.bd h.n6.2 h.cyc hp
    have hw2 := Wk.snoc hw hi (show stA m A p i ≠ 1000000000 by omega)
    have h6 := (uR_least h.bd h.n6.2 h.cyc hi).2 _ _ _ hw2
    rw [e2] at h6
    unfold prU at h1 ⊢
    omega
/-- together they make up the best cost. -/
theorem BstA.sum (h : BstA n m A) : smN (prU n m A) n + smN (prV n m A) n = costP m A := by
  obtain ⟨_, c1⟩ := prm_cost h.num h.n6 h.nd h.len
  rcases c1 with ⟨c1, _⟩ | ⟨_, _, c1, _⟩
  · rw [h.fin] at c1; cases c1
  rw [c1, ← smN_perm (n := n) (vx A) (prV n m A) (h.nd.at h.len).1 (h.nd.at h.len).2, ← smN_add]
  exact smN_congr fun i hi => by rw [h.V hi]; omega
end
/-- prices of any kind are no more than what an assignment costs. -/
theorem weak_dual {n : Nat} {m : Nat → Nat → Int} (hm : ∀ a b, a < n → b < n → numB (m a b) = true) (hn : 1 ≤ n ∧ n ≤ 6) {u v : Nat → Int} (h : ∀ i k, i < n → k < n → u i + v k ≤ m i k) {c : List Int} (hc : Ndp n c) (hl : c.length = n) (hf : finP m c = true) : smN u n + smN v n ≤ costP m c := by
  obtain ⟨_, c1⟩ := prm_cost hm hn hc hl
  rcases c1 with ⟨c1, _⟩ | ⟨_, _, c1, _⟩
  · rw [hf] at c1; cases c1
  rw [c1, ← smN_perm (n := n) (vx c) v (hc.at hl).1 (hc.at hl).2, ← smN_add]
  exact smN_le fun i hi => h i (vx c i) hi ((hc.at hl).1 i hi)
end Go.Proofs.YtfgdhlnmndgjbaaGreatDoor

/-
  Circuits, plain: those that the program visits in their order, the best of them, and the reference's search by length: they tell the same. By an AI agent.
-/
namespace Go.Proofs.YtfgdhlnmndgjbaaGreatDoor

theorem vx_snoc_lt {l : List Int} {t : Nat} (k : Int) (h : t < l.length) : vx (l ++ [k]) t = vx l t := by
  unfold vx
  rw [List.getD_eq_getElem?_getD, List.getElem?_append_left h, ← List.getD_eq_getElem?_getD]
theorem vx_snoc_eq (l : List Int) (k : Nat) : vx (l ++ [(k : Int)]) l.length = k := by
  unfold vx
  simp [List.getD_eq_getElem?_getD]
theorem coF_snoc {m : Nat → Nat → Int} {l : List Int} (k : Int) : ∀ {t : Nat}, t < l.length → coF m (l ++ [k]) t = coF m l t
  | 0, _ => rfl
  | t + 1, h => by
    unfold coF
    rw [coF_snoc k (t := t) (by omega), vx_snoc_lt k (by omega), vx_snoc_lt k h]
theorem stB_snoc {m : Nat → Nat → Int} {l : List Int} (k : Int) : ∀ {t : Nat}, t < l.length → stB m (l ++ [k]) t = stB m l t
  | 0, _ => rfl
  | t + 1, h => by
    unfold stB
    rw [stB_snoc k (t := t) (by omega), vx_snoc_lt k (by omega), vx_snoc_lt k h]

def laV (l : List Int) : Nat := vx l (l.length - 1)
/-- A way without a vertex twice. -/
structure Pth (n : Nat) (m : Nat → Nat → Int) (l : List Int) : Prop where
  pos : 1 ≤ l.length
  vt : vtB n l = true
  st : stB m l (l.length - 1) = true
  nd : ∀ i j, i < j → j < l.length → vx l i ≠ vx l j
theorem Pth.len {n : Nat} {m : Nat → Nat → Int} {l : List Int} (h : Pth n m l) : l.length ≤ n := by
  rcases Nat.lt_or_ge n l.length with hl | hl
  · obtain ⟨a, b, h1, h2, h3⟩ := pigeon n (vx l) (fun t ht => (vt_at h.vt (by omega)).2)
    exact absurd h3 (h.nd a b h1 (by omega))
  · exact hl
theorem Pth.la {n : Nat} {m : Nat → Nat → Int} {l : List Int} (h : Pth n m l) : laV l < n := (vt_at h.vt (t := l.length - 1) (by have := h.pos; omega)).2
theorem Pth.hd {n : Nat} {m : Nat → Nat → Int} {l : List Int} (h : Pth n m l) : vx l 0 < n := (vt_at h.vt (t := 0) (by have := h.pos; omega)).2
theorem Pth.one {n : Nat} (m : Nat → Nat → Int) {i : Nat} (h : i < n) : Pth n m [(i : Int)] :=
  ⟨by simp, allB_t.2 fun t ht => by
    obtain rfl : t = 0 := by simpa using ht
    simp; omega, rfl, fun a b h1 h2 => by simp at h2; omega⟩
theorem not_mem_vx {n : Nat} {l : List Int} (hv : vtB n l = true) {k : Nat} : (k : Int) ∉ l ↔ ∀ t, t < l.length → vx l t ≠ k := by
  constructor
  · intro h t ht e
    refine h ?_
    have h1 := (vt_at hv ht).1
    rw [← e, ← h1, List.getD_eq_getElem?_getD, List.getElem?_eq_getElem ht]
    exact List.getElem_mem ht
  · intro h hm
    obtain ⟨t, ht, e⟩ := List.getElem_of_mem hm
    have h1 := (vt_at hv ht).1
    rw [List.getD_eq_getElem?_getD, List.getElem?_eq_getElem ht] at h1
    simp only [Option.getD_some] at h1
    exact h t ht (by omega)
theorem Pth.ext {n : Nat} {m : Nat → Nat → Int} {l : List Int} (h : Pth n m l) {k : Nat} (hk : k < n) (h1 : m (laV l) k ≠ 1000000000) (h2 : (k : Int) ∉ l) : Pth n m (l ++ [(k : Int)]) := by
  have hp := h.pos
  refine ⟨by simp, allB_t.2 fun t ht => ?_, ?_, fun i j hij hj => ?_⟩
  · rw [List.length_append, List.length_singleton] at ht
    by_cases e : t = l.length
    · subst e
      simp [List.getD_eq_getElem?_getD]
      omega
    · have := allB_t.1 h.vt t (by omega)
      rwa [List.getD_eq_getElem?_getD, List.getElem?_append_left (by omega), ← List.getD_eq_getElem?_getD]
  · obtain ⟨q, hq⟩ : ∃ q, l.length = q + 1 := ⟨l.length - 1, by omega⟩
    have hst := h.st
    unfold laV at h1
    rw [List.length_append, List.length_singleton, Nat.add_sub_cancel, hq]
    rw [hq, Nat.add_sub_cancel] at hst h1
    unfold stB
    rw [stB_snoc _ (by omega), hst, vx_snoc_lt _ (by omega), ← hq, vx_snoc_eq]
    simp [h1]
  · rw [List.length_append, List.length_singleton] at hj
    rw [vx_snoc_lt _ (show i < l.length by omega)]
    by_cases e : j = l.length
    · subst e
      rw [vx_snoc_eq]
      exact (not_mem_vx h.vt).1 h2 i hij
    · rw [vx_snoc_lt _ (by omega)]
      exact h.nd i j hij (by omega)

/-! ### the program's order -/
def cyC (m : Nat → Nat → Int) (l : List Int) : Int := prodZ (coF m l (l.length - 1)) (m (laV l) (vx l 0))
def negC (m : Nat → Nat → Int) (l : List Int) : Bool := decide (cyC m l < 0)
def ownC (m : Nat → Nat → Int) (l : List Int) : List (List Int) := if m (laV l) (vx l 0) = 1000000000 then [] else [l]
def exB (m : Nat → Nat → Int) (l : List Int) (k : Nat) : Bool := !decide (m (laV l) k = 1000000000) && !l.contains (k : Int)
def cirF (n : Nat) (m : Nat → Nat → Int) : Nat → List Int → List (List Int)
  | 0, l => ownC m l
  | f + 1, l => ownC m l ++ (List.range (n - (vx l 0 + 1))).flatMap fun i => if exB m l (vx l 0 + 1 + i) = true then cirF n m f (l ++ [((vx l 0 + 1 + i : Nat) : Int)]) else []
def cirT (n : Nat) (m : Nat → Nat → Int) (f : Nat) (l : List Int) (j : Nat) : List (List Int) := (List.range j).flatMap fun i => if exB m l (vx l 0 + 1 + i) = true then cirF n m f (l ++ [((vx l 0 + 1 + i : Nat) : Int)]) else []
theorem cirF_succ (n : Nat) (m : Nat → Nat → Int) (f : Nat) (l : List Int) : cirF n m (f + 1) l = ownC m l ++ cirT n m f l (n - (vx l 0 + 1)) := rfl
theorem cirT_succ (n : Nat) (m : Nat → Nat → Int) (f : Nat) (l : List Int) (j : Nat) : cirT n m f l (j + 1) = cirT n m f l j ++ (if exB m l (vx l 0 + 1 + j) = true then cirF n m f (l ++ [((vx l 0 + 1 + j : Nat) : Int)]) else []) := by
  unfold cirT
  rw [List.range_succ, List.flatMap_append]
  simp
theorem exB_t {m : Nat → Nat → Int} {l : List Int} {k : Nat} : exB m l k = true ↔ m (laV l) k ≠ 1000000000 ∧ (k : Int) ∉ l := by
  unfold exB
  simp
def pkC (m : Nat → Nat → Int) (b c : List Int) : List Int := if (negC m c && (decide (b.length = 0) || decide (c.length < b.length))) = true then c else b
def allC (n : Nat) (m : Nat → Nat → Int) (j : Nat) : List (List Int) := (List.range j).flatMap fun i => cirF n m (n - 1) [((i : Nat) : Int)]
theorem allC_succ (n : Nat) (m : Nat → Nat → Int) (j : Nat) : allC n m (j + 1) = allC n m j ++ cirF n m (n - 1) [((j : Nat) : Int)] := by
  unfold allC
  rw [List.range_succ, List.flatMap_append]
  simp
def bstC (n : Nat) (m : Nat → Nat → Int) : List Int := (allC n m n).foldl (pkC m) []

theorem cirF_good {n : Nat} {m : Nat → Nat → Int} : ∀ (f : Nat) {l c : List Int}, Pth n m l → c ∈ cirF n m f l → Pth n m c ∧ m (laV c) (vx c 0) ≠ 1000000000 ∧ l.length ≤ c.length
  | 0, l, c, h, hc => by
    unfold cirF ownC at hc
    split at hc
    · cases hc
    · rename_i hne
      obtain rfl : c = l := by simpa using hc
      exact ⟨h, hne, Nat.le_refl _⟩
  | f + 1, l, c, h, hc => by
    unfold cirF at hc
    rcases List.mem_append.1 hc with hc | hc
    · unfold ownC at hc
      split at hc
      · cases hc
      · rename_i hne
        obtain rfl : c = l := by simpa using hc
        exact ⟨h, hne, Nat.le_refl _⟩
    · obtain ⟨i, hi, hc⟩ := List.mem_flatMap.1 hc
      rw [List.mem_range] at hi
      split at hc
      · rename_i hex
        have he := exB_t.1 hex
        obtain ⟨g1, g2, g3⟩ := cirF_good f (h.ext (by omega) he.1 he.2) hc
        rw [List.length_append, List.length_singleton] at g3
        exact ⟨g1, g2, by omega⟩
      · cases hc
theorem cirT_long {n : Nat} {m : Nat → Nat → Int} {f : Nat} {l c : List Int} {j : Nat} (h : Pth n m l) (hj : vx l 0 + 1 + j ≤ n) (hc : c ∈ cirT n m f l j) : l.length < c.length := by
  unfold cirT at hc
  obtain ⟨i, hi, hc⟩ := List.mem_flatMap.1 hc
  rw [List.mem_range] at hi
  split at hc
  · rename_i hex
    have he := exB_t.1 hex
    obtain ⟨_, _, g3⟩ := cirF_good f (h.ext (by omega) he.1 he.2) hc
    rw [List.length_append, List.length_singleton] at g3
    omega
  · cases hc
theorem allC_good {n : Nat} {m : Nat → Nat → Int} {j : Nat} (hj : j ≤ n) {c : List Int} (hc : c ∈ allC n m j) : Pth n m c ∧ m (laV c) (vx c 0) ≠ 1000000000 := by
  unfold allC at hc
  obtain ⟨i, hi, hc⟩ := List.mem_flatMap.1 hc
  rw [List.mem_range] at hi
  obtain ⟨h1, h2, _⟩ := cirF_good _ (Pth.one m (by omega)) hc
  exact ⟨h1, h2⟩

/-! ### the reference's search -/
def wcF (n : Nat) (m : Nat → Nat → Int) (N : Nat) : Nat → List Int → Option (List Int)
  | 0, l => if l.length = N then (if negC m l = true then some l else none) else none
  | f + 1, l => if l.length = N then (if negC m l = true then some l else none) else (List.range (n - (vx l 0 + 1))).findSome? fun i => if exB m l (vx l 0 + 1 + i) = true then wcF n m N f (l ++ [((vx l 0 + 1 + i : Nat) : Int)]) else none
theorem own_find {m : Nat → Nat → Int} {N : Nat} {l : List Int} : (ownC m l).find? (fun c => decide (c.length = N) && negC m c) = if l.length = N then (if negC m l = true then some l else none) else none := by
  unfold ownC
  split
  · rename_i h
    have : negC m l = false := by
      unfold negC cyC
      rw [prodZ_inf (Or.inr h)]
      rfl
    rw [this]
    simp
  · by_cases e : l.length = N
    · rw [if_pos e]
      by_cases e2 : negC m l = true
      · simp [e, e2]
      · simp [e, e2]
    · rw [if_neg e]
      simp [e]
theorem wc_find {n : Nat} {m : Nat → Nat → Int} {N : Nat} : ∀ (f : Nat) {l : List Int}, Pth n m l → wcF n m N f l = (cirF n m f l).find? (fun c => decide (c.length = N) && negC m c)
  | 0, l, h => by
    unfold wcF cirF
    rw [own_find]
  | f + 1, l, h => by
    rw [cirF_succ, List.find?_append, own_find]
    unfold wcF
    by_cases e : l.length = N
    · rw [if_pos e, if_pos e]
      have : (cirT n m f l (n - (vx l 0 + 1))).find? (fun c => decide (c.length = N) && negC m c) = none := by
        rw [List.find?_eq_none]
        intro c hc
        have := cirT_long h (by have := h.hd; omega) hc
        simp; omega
      rw [this]
      simp
    · rw [if_neg e, if_neg e]
      unfold cirT
      rw [List.find?_flatMap]
      simp only [Option.none_or]
      have hd := h.hd
      have : ∀ (L : List Nat), (∀ i ∈ L, vx l 0 + 1 + i < n) → (L.findSome? fun i => if exB m l (vx l 0 + 1 + i) = true then wcF n m N f (l ++ [((vx l 0 + 1 + i : Nat) : Int)]) else none) = L.findSome? fun x => (if exB m l (vx l 0 + 1 + x) = true then cirF n m f (l ++ [((vx l 0 + 1 + x : Nat) : Int)]) else []).find? fun c => decide (c.length = N) && negC m c := by
        intro L hL
        induction L with
        | nil => rfl
        | cons a L ih =>
          rw [List.findSome?_cons, List.findSome?_cons, ih (fun i hi => hL i (List.mem_cons_of_mem _ hi))]
          have : (if exB m l (vx l 0 + 1 + a) = true then wcF n m N f (l ++ [((vx l 0 + 1 + a : Nat) : Int)]) else none) = (if exB m l (vx l 0 + 1 + a) = true then cirF n m f (l ++ [((vx l 0 + 1 + a : Nat) : Int)]) else []).find? fun c => decide (c.length = N) && negC m c := by
            split
            · rename_i hex
              have he := exB_t.1 hex
              exact wc_find f (h.ext (hL a (List.mem_cons_self ..)) he.1 he.2)
            · rfl
          rw [this]
      exact this _ (fun i hi => by rw [List.mem_range] at hi; omega)
def refI (n : Nat) (m : Nat → Nat → Int) (N i : Nat) : Option (List Int) := wcF n m N (n - 1) [((i : Nat) : Int)]
theorem ref_all {n : Nat} {m : Nat → Nat → Int} (N : Nat) : ∀ j, j ≤ n → (List.range j).findSome? (refI n m N) = (allC n m j).find? (fun c => decide (c.length = N) && negC m c)
  | 0, _ => rfl
  | j + 1, h => by
    rw [allC_succ, List.range_succ, List.findSome?_append, List.find?_append, ref_all N j (by omega)]
    simp only [List.findSome?_cons, List.findSome?_nil]
    unfold refI
    rw [wc_find (n - 1) (Pth.one m (by omega))]
    cases (List.find? (fun c => decide (c.length = N) && negC m c) (cirF n m (n - 1) [((j : Nat) : Int)])) <;> rfl

/-! ### the best -/
def BstP (m : Nat → Nat → Int) (R : List (List Int)) (b : List Int) : Prop :=
  (b = [] ∧ ∀ c ∈ R, negC m c = false) ∨ (b ≠ [] ∧ R.find? (fun c => decide (c.length = b.length) && negC m c) = some b ∧ ∀ c ∈ R, negC m c = true → b.length ≤ c.length)
theorem bst_step {m : Nat → Nat → Int} {R : List (List Int)} {b c : List Int} (h : BstP m R b) (hc : c ≠ []) : BstP m (R ++ [c]) (pkC m b c) := by
  unfold pkC
  have hc0 : 0 < c.length := List.length_pos_iff.2 hc
  by_cases hn : negC m c = true
  · rcases h with ⟨rfl, h1⟩ | ⟨h1, h2, h3⟩
    · rw [hn]
      simp only [List.length_nil, decide_true, Bool.true_or, Bool.and_self, if_true]
      refine Or.inr ⟨hc, ?_, ?_⟩
      · rw [List.find?_append]
        have : R.find? (fun x => decide (x.length = c.length) && negC m x) = none := by
          rw [List.find?_eq_none]
          intro x hx
          simp [h1 x hx]
        rw [this]
        simp [hn]
      · intro x hx hx2
        rcases List.mem_append.1 hx with hx | hx
        · rw [h1 x hx] at hx2; cases hx2
        · obtain rfl : x = c := by simpa using hx
          exact Nat.le_refl _
    · have hb0 : 0 < b.length := List.length_pos_iff.2 h1
      rw [hn]
      have e0 : decide (b.length = 0) = false := decide_eq_false (by omega)
      rw [e0, Bool.false_or, Bool.true_and]
      by_cases hl : c.length < b.length
      · rw [if_pos (decide_eq_true hl)]
        refine Or.inr ⟨hc, ?_, ?_⟩
        · rw [List.find?_append]
          have : R.find? (fun x => decide (x.length = c.length) && negC m x) = none := by
            rw [List.find?_eq_none]
            intro x hx
            by_cases hx2 : negC m x = true
            · have := h3 x hx hx2
              simp; omega
            · simp [hx2]
          rw [this]
          simp [hn]
        · intro x hx hx2
          rcases List.mem_append.1 hx with hx | hx
          · have := h3 x hx hx2
            omega
          · obtain rfl : x = c := by simpa using hx
            exact Nat.le_refl _
      · rw [if_neg (by simpa using hl)]
        refine Or.inr ⟨h1, by rw [List.find?_append, h2]; rfl, ?_⟩
        intro x hx hx2
        rcases List.mem_append.1 hx with hx | hx
        · exact h3 x hx hx2
        · obtain rfl : x = c := by simpa using hx
          omega
  · have hn' := Bool.eq_false_iff.2 hn
    rw [hn', Bool.false_and, if_neg (by simp)]
    rcases h with ⟨rfl, h1⟩ | ⟨h1, h2, h3⟩
    · refine Or.inl ⟨rfl, fun x hx => ?_⟩
      rcases List.mem_append.1 hx with hx | hx
      · exact h1 x hx
      · obtain rfl : x = c := by simpa using hx
        exact hn'
    · refine Or.inr ⟨h1, by rw [List.find?_append, h2]; rfl, fun x hx hx2 => ?_⟩
      rcases List.mem_append.1 hx with hx | hx
      · exact h3 x hx hx2
      · obtain rfl : x = c := by simpa using hx
        rw [hn'] at hx2; cases hx2
theorem bst_fold {m : Nat → Nat → Int} : ∀ (R Q : List (List Int)) (b : List Int), BstP m Q b → (∀ c ∈ R, c ≠ []) → BstP m (Q ++ R) (R.foldl (pkC m) b)
  | [], Q, b, h, _ => by rw [List.append_nil]; exact h
  | c :: R, Q, b, h, hc => by
    rw [show Q ++ c :: R = (Q ++ [c]) ++ R by simp, List.foldl_cons]
    exact bst_fold R _ _ (bst_step h (hc c (List.mem_cons_self ..))) (fun x hx => hc x (List.mem_cons_of_mem _ hx))
theorem bst_spec (n : Nat) (m : Nat → Nat → Int) : BstP m (allC n m n) (bstC n m) := by
  have := bst_fold (m := m) (allC n m n) [] [] (Or.inl ⟨rfl, by simp⟩) (fun c hc => by
    have := (allC_good (Nat.le_refl _) hc).1.pos
    intro e
    rw [e] at this
    simp at this)
  rwa [List.nil_append] at this
theorem bst_in {n : Nat} {m : Nat → Nat → Int} (h : bstC n m ≠ []) : Pth n m (bstC n m) ∧ m (laV (bstC n m)) (vx (bstC n m) 0) ≠ 1000000000 ∧ negC m (bstC n m) = true := by
  rcases bst_spec n m with ⟨h1, _⟩ | ⟨_, h2, _⟩
  · exact absurd h1 h
  · have h3 := List.mem_of_find?_eq_some h2
    have h4 := List.find?_some h2
    obtain ⟨g1, g2⟩ := allC_good (Nat.le_refl _) h3
    exact ⟨g1, g2, by simpa using h4⟩
/-- The search by length meets the best. -/
theorem ref_less {n : Nat} {m : Nat → Nat → Int} {N : Nat} (h : bstC n m = [] ∨ N < (bstC n m).length) {i : Nat} (hi : i < n) : refI n m N i = none := by
  have h0 : (List.range n).findSome? (refI n m N) = none := by
    rw [ref_all N n (Nat.le_refl _), List.find?_eq_none]
    intro c hc
    rcases bst_spec n m with ⟨_, h2⟩ | ⟨h1, _, h3⟩
    · simp [h2 c hc]
    · by_cases e : negC m c = true
      · have := h3 c hc e
        rcases h with h | h
        · exact absurd h h1
        · simp; omega
      · simp [e]
  exact List.findSome?_eq_none_iff.1 h0 i (List.mem_range.2 hi)
theorem ref_at {n : Nat} {m : Nat → Nat → Int} (h : bstC n m ≠ []) : (List.range n).findSome? (refI n m (bstC n m).length) = some (bstC n m) := by
  rcases bst_spec n m with ⟨h1, _⟩ | ⟨_, h2, _⟩
  · exact absurd h1 h
  · rw [ref_all _ n (Nat.le_refl _)]
    exact h2
theorem ref_first {n : Nat} {m : Nat → Nat → Int} (h : bstC n m ≠ []) : ∃ i, i < n ∧ refI n m (bstC n m).length i = some (bstC n m) ∧ ∀ k, k < i → refI n m (bstC n m).length k = none := by
  have h1 := ref_at h
  generalize bstC n m = b at h1
  generalize refI n m b.length = F at h1
  clear h
  have : ∀ j, (List.range j).findSome? F = some b → ∃ i, i < j ∧ F i = some b ∧ ∀ k, k < i → F k = none := by
    intro j
    induction j with
    | zero => intro h; simp at h
    | succ j ih =>
      intro h
      rw [List.range_succ, List.findSome?_append] at h
      cases hr : (List.range j).findSome? F with
      | some x =>
        rw [hr] at h
        simp only [Option.some_or, Option.some.injEq] at h
        subst h
        obtain ⟨i, h1, h2, h3⟩ := ih hr
        exact ⟨i, by omega, h2, h3⟩
      | none =>
        rw [hr] at h
        simp only [Option.none_or, List.findSome?_cons, List.findSome?_nil] at h
        refine ⟨j, by omega, ?_, fun k hk => List.findSome?_eq_none_iff.1 hr k (List.mem_range.2 hk)⟩
        cases hF : F j with
        | none => rw [hF] at h; cases h
        | some y => rw [hF] at h; exact h
  exact this n h1

/-! ### a circuit is a closed walk -/
theorem pth_walk {n : Nat} {m : Nat → Nat → Int} {l : List Int} (hv : vtB n l = true) (hm : ∀ a b, a < n → b < n → numB (m a b) = true) (hl : l.length ≤ 900) : ∀ t, t < l.length → stB m l t = true → Wk n m (vx l 0) (vx l t) (coF m l t) t
  | 0, h, _ => Wk.nil (vt_at hv h).2
  | t + 1, h, hs => by
    have hs2 := hs
    unfold stB at hs2
    simp only [Bool.and_eq_true, Bool.not_eq_true', decide_eq_false_iff_not] at hs2
    have ih := pth_walk hv hm hl t (by omega) hs2.1
    have hb := co_bd hm hv hl t (by omega)
    have hc : coF m l t ≠ 1000000000 := by
      rcases hb with ⟨h1, _⟩ | ⟨_, h1, h2⟩
      · rw [hs2.1] at h1; cases h1
      · omega
    unfold coF
    rw [prodZ_fin hc hs2.2]
    exact Wk.snoc ih (vt_at hv h).2 hs2.2
theorem bst_closed {n : Nat} {m : Nat → Nat → Int} (hm : ∀ a b, a < n → b < n → numB (m a b) = true) (hn6 : n ≤ 6) (h : bstC n m ≠ []) : ∃ x c s, Wk n m x x c s ∧ c < 0 := by
  obtain ⟨hp, h1, h2⟩ := bst_in h
  generalize bstC n m = l at hp h1 h2
  have hl := hp.len
  have hpos := hp.pos
  have hw := pth_walk hp.vt hm (by omega) (l.length - 1) (by omega) hp.st
  have h3 := of_decide_eq_true h2
  have hb := co_bd hm hp.vt (by omega) (l.length - 1) (by omega)
  have hc : coF m l (l.length - 1) ≠ 1000000000 := by
    rcases hb with ⟨h1, _⟩ | ⟨_, h1, h2⟩
    · rw [hp.st] at h1; cases h1
    · omega
  unfold cyC at h3
  rw [prodZ_fin hc h1] at h3
  exact ⟨vx l 0, _, _, Wk.snoc hw hp.hd h1, h3⟩
end Go.Proofs.YtfgdhlnmndgjbaaGreatDoor

/-
  Least costs of so many steps to a vertex: the program's. By an AI agent.
-/
namespace Go.Proofs.YtfgdhlnmndgjbaaGreatDoor
open Go.RowKit

set_option maxHeartbeats 1600000 in
set_option maxRecDepth 100000 in
theorem dot_c (n : Nat) (ad : Option Addr) (cap : Nat) (f : Nat → Int) (ad2 : Option Addr) (cap2 : Nat) (g : Nat → Int) (w : World) (h1 : RdI w ad (tab n f)) (h2 : RdI w ad2 (tab n g)) (hn : n ≤ 6) (hb : ∀ k, k < n → -4000000000 ≤ f k + g k ∧ f k + g k ≤ 4000000000) :
    Calls Tryz.prog 83 #[.slice ad n cap, .slice ad2 n cap2] w fun e w' => e = .returned (.int .i64 (mnF 1000000000 (fun k => prodZ (f k) (g k)) n)) ∧ Below w.heap.size w w' := by
  have H1 := Lib.hid h1; have H2 := Lib.hid h2; have HB := Lib.hid hb
  clear h1 h2 hb
  go_enter Tryz.func83, Tryz.ntmps83
  go_wp2_with fail
  go_loopw [5, 9] (fun v i wr => ∃ k : Nat, k ≤ n ∧ i = .int .i64 k ∧ v = .int .i64 (mnF 1000000000 (fun k => prodZ (f k) (g k)) k) ∧ Below w.heap.size w wr) (fun _ i _ => n - (intOf i).toNat)
  case atStart => exact ⟨0, Nat.zero_le _, rfl, rfl, Below.refl _ _⟩
  case round =>
    obtain ⟨wE, rfl⟩ : ∃ x : World, x = wr := ⟨_, rfl⟩
    obtain ⟨k, hk, rfl, rfl, hbel⟩ := hrel
    by_cases hlt : k < n
    case neg =>
      obtain rfl : k = n := by omega
      go_wp2_with fail
      go_ret
      exact ⟨rfl, hbel⟩
    case pos =>
      obtain ⟨b1, o1, rfl, hb1, c1⟩ := H1.out k (by rw [tab_length]; exact hlt)
      obtain ⟨b2, o2, rfl, hb2, c2⟩ := H2.out k (by rw [tab_length]; exact hlt)
      rw [tab_getD hlt] at c1 c2
      have k1 := bcell hbel hb1 c1
      have k2 := bcell hbel hb2 c2
      have hbd := HB.out k hlt
      have HMN := Lib.hid (show mnF 1000000000 (fun k => prodZ (f k) (g k)) (k + 1) = leastZ (mnF 1000000000 (fun k => prodZ (f k) (g k)) k) (prodZ (f k) (g k)) from rfl)
      generalize mnF 1000000000 (fun k => prodZ (f k) (g k)) k = A at HMN ⊢
      generalize f k = C at k1 hbd HMN
      generalize g k = D at k2 hbd HMN
      have CP := Lib.hid (fun w => product_c C D w (by omega))
      generalize prodZ C D = P at CP HMN
      rw [← leastZ_if] at HMN
      have x1 : (0 : Int) ≤ (k : Int) := by omega
      have x2 : (k : Int) < (n : Int) := by omega
      clear hbd c1 c2
      go_wp2_with fail
      go_quiet ((go_at_call 74; exact Calls.quiet_of_same ((CP.out _).mono (fun e w' h => ⟨h.1, h.2.symm⟩))))
      go_wp2_with fail
      go_roundw
      case rel => exact ⟨k + 1, by omega, by go_num, by rw [HMN.out], bdrewN hbel _⟩
      case measure => simp [intOf]; omega

set_option maxHeartbeats 1600000 in
set_option maxRecDepth 100000 in
theorem applied_c (n : Nat) (ad : Option Addr) (cap : Nat) (m : Nat → Nat → Int) (ad2 : Option Addr) (cap2 : Nat) (g : Nat → Int) (w : World) (hr : RdM w ad (toM n m)) (h2 : RdI w ad2 (tab n g)) (hn : 1 ≤ n ∧ n ≤ 6) (hb : ∀ i k, i < n → k < n → -4000000000 ≤ m i k + g k ∧ m i k + g k ≤ 4000000000) :
    Calls Tryz.prog 49 #[.slice ad n cap, .slice ad2 n cap2] w fun e w' => ∃ a' c', e = .returned (.slice a' n c') ∧ RowI w' w.heap.size (.slice a' n c') (tab n (fun i => mnF 1000000000 (fun k => prodZ (m i k) (g k)) n)) ∧ Below w.heap.size w w' := by
  have HR := Lib.hid hr; have H2 := Lib.hid h2; have HB := Lib.hid hb
  have HO0 := Lib.hid (rowI_new w w.heap.size w.heap.size (Nat.le_refl _) rfl)
  have hb0 : Below w.heap.size w (w.alloc (.cells #[] 3)) := (Below.refl _ _).alloc (Nat.le_refl _) _
  clear hr h2 hb
  go_enter Tryz.func49, Tryz.ntmps49
  go_wp2_with fail
  go_loopw [5, 11] (fun v i wr => ∃ k : Nat, k ≤ n ∧ i = .int .i64 k ∧ RowI wr w.heap.size v (tab k (fun i => mnF 1000000000 (fun k => prodZ (m i k) (g k)) n)) ∧ Below w.heap.size w wr) (fun _ i _ => n - (intOf i).toNat)
  case atStart => exact ⟨0, Nat.zero_le _, rfl, HO0.out, hb0⟩
  case round =>
    obtain ⟨wE, rfl⟩ : ∃ x : World, x = wr := ⟨_, rfl⟩
    obtain ⟨k, hk, rfl, hrow, hbel⟩ := hrel
    obtain ⟨adr, car, rfl⟩ := row_shp hrow
    rw [tab_length] at hrow ⊢
    have HO := Lib.hid hrow; clear hrow
    have hsz := hbel.size
    by_cases hlt : k < n
    case neg =>
      obtain rfl : k = n := by omega
      go_wp2_with fail
      go_ret
      exact ⟨adr, car, rfl, HO.out, hbel⟩
    case pos =>
      obtain ⟨bM, oM, a1, c1, rfl, hbM, k1, r1⟩ := HR.out k (by rw [toM_len]; exact hlt)
      rw [toM_row _ hlt, tab_length] at k1
      rw [toM_row _ hlt] at r1
      have k1 := bcell hbel hbM k1
      have R1 := r1.below hbel
      have CD := Lib.hid (fun u (hb : Below wE.heap.size wE u) => dot_c n a1 c1 (m k) ad2 cap2 g u (R1.below hb) ((H2.out.below hbel).below hb) hn.2 (fun j hj => HB.out k j hlt hj))
      have HSN := Lib.hid (tab_succ k (fun i => mnF 1000000000 (fun k => prodZ (m i k) (g k)) n))
      have hlk := tab_length k (fun i => mnF 1000000000 (fun k => prodZ (m i k) (g k)) n)
      generalize tab k (fun i => mnF 1000000000 (fun k => prodZ (m i k) (g k)) n) = R at HO HSN hlk
      generalize mnF 1000000000 (fun j => prodZ (m k j) (g j)) n = V at CD HSN
      have HLK := Lib.hid hlk
      have x1 : (0 : Int) ≤ (k : Int) := by omega
      have x2 : (k : Int) < (n : Int) := by omega
      clear R1 r1 hlk
      go_wp2_with fail
      refine (CD.out _ (Below.refl _ _)).mono ?_
      rintro e w2 ⟨rfl, hb2⟩
      have HO2 := Lib.hid (HO.out.below hb2)
      have hb3 := ball hbel hb2
      have hsz3 := hb3.size
      clear hb2
      go_wp2_with (at_builtin; refine wpList_appN rfl _ _ rfl w.heap.size _ 0 1 _ R [V] (k + 1) (by rw [HLK.out]; rfl) rfl rfl (RowI.alloc' HO2.out) (rdI_one _ _ _ rfl) (by have := HLK.out; omega) (by simp) (by simp; omega) ?_; intro v5 wm hown hsh hbm hgr)
      have hb5 := (bal_alloc (o := .cells #[.int .i64 V] 3) hb3).trans hbm
      rw [← HSN.out] at hown
      have HO5 := Lib.hid hown; clear hown hsh hgr hbm
      go_wp2_with fail
      go_roundw
      case rel => exact ⟨k + 1, by omega, by go_num, HO5.out, hb5⟩
      case measure => simp [intOf]; omega
end Go.Proofs.YtfgdhlnmndgjbaaGreatDoor

/-
  The unit matrix, and the least costs of ways of 0, 1, .. steps: the program's. By an AI agent.
-/
namespace Go.Proofs.YtfgdhlnmndgjbaaGreatDoor
open Go.RowKit

theorem MatO.oneC {w : World} {B H : Nat} {u : Value} {xs : List Int} (h : CellO w B u xs) (hB : B ≤ w.heap.size) (hH : w.heap.size = H) : MatO (w.alloc (.cells #[u] 38)) B (.slice (some ⟨H, 0, none⟩) 1 1) [xs] [u] := by
  subst hH
  refine ⟨⟨by simp, .inr ⟨w.heap.size, 1, #[u], rfl, hB, heap_alloc_new w _, Nat.le_refl _, by unfold maxLen; omega, rfl, by simp⟩⟩, fun i hi => ?_, fun i j hi hj hij => ?_⟩
  · obtain rfl : i = 0 := by simpa using hi
    exact h.below ((Below.refl _ _).alloc (Nat.le_refl _) _)
  · have h1 : i = 0 := by simpa using hi
    have h2 : j = 0 := by simpa using hj
    omega

theorem ex_unit (n : Nat) (m : Nat → Nat → Int) (b : Nat) : tab n (unF b) = tab n (exF n m b 0) := tab_congr fun i _ => by
  unfold unF exF
  by_cases e : b = i
  · rw [if_pos e, if_pos e.symm]
  · rw [if_neg e, if_neg (fun h => e h.symm)]
theorem getD_appE {vs : List Value} {u : Value} {k : Nat} (h : vs.length = k) : (vs ++ [u]).getD k undef = u := by
  subst h
  exact getD_snocE _ _ _

end Go.Proofs.YtfgdhlnmndgjbaaGreatDoor

/-
  Circuits: membership, and what a circuit costs; the program's. By an AI agent.
-/
namespace Go.Proofs.YtfgdhlnmndgjbaaGreatDoor
open Go.RowKit

set_option maxHeartbeats 400000 in
theorem l1HasW (ad : Option Addr) (cap : Nat) (xs : List Int) (y : Int) (w : World) (hl : xs.length ≤ 1048576) (hr : RdI w ad xs) :
    Calls Tryz.prog 63 #[.slice ad xs.length cap, .int .i64 y] w fun e w' => e = .returned (.bool (decide (y ∈ xs))) ∧ w = w' := by
  have HR := Lib.hid hr; clear hr
  go_enter Tryz.func63, Tryz.ntmps63
  go_wp2
  go_loop [9] (fun i => ∃ k : Nat, k ≤ xs.length ∧ i = .int .i64 k ∧ ∀ j, j < k → xs.getD j 0 ≠ y) (fun i => xs.length - (intOf i).toNat)
  case atStart => exact ⟨0, Nat.zero_le _, rfl, fun j hj => by omega⟩
  case round =>
    obtain ⟨k, hk, rfl, hj⟩ := hrel
    have HJ := Lib.hid hj; clear hj
    by_cases hlt : k < xs.length
    · obtain ⟨b, off, rfl, hb, c⟩ := HR.out k hlt
      generalize hx : xs.getD k 0 = x at c
      have HX := Lib.hid hx; clear hx
      by_cases h1 : x = y
      · have h1' : (x == y) = true := by simpa using h1
        have H1 := Lib.hid h1; clear h1
        go_wp2
        go_ret
        refine ⟨ret_bool ?_, rfl⟩
        symm
        rw [decide_eq_true_iff, ← H1.out, ← HX.out]
        simp [List.getD, hlt]
      · have h1' : (x == y) = false := by simpa using h1
        have H1 := Lib.hid h1; clear h1
        go_wp2
        go_round
        case rel =>
          refine ⟨k + 1, by omega, by go_num, fun j hj => ?_⟩
          by_cases e : j = k
          · subst e; rw [HX.out]; exact H1.out
          · exact HJ.out j (by omega)
        case measure => simp [intOf]; omega
    · have he : k = xs.length := by omega
      subst he
      go_wp2
      go_ret
      refine ⟨ret_bool ?_, rfl⟩
      symm
      rw [decide_eq_false_iff_not]
      intro hc
      obtain ⟨j, hj, e⟩ := List.getElem_of_mem hc
      exact HJ.out j hj (by simp [List.getD, hj, e])

end Go.Proofs.YtfgdhlnmndgjbaaGreatDoor
