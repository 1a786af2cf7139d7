/-
  Some texts of this proof in one: WyG WyH WyI WyJ WyK WyL WyM WyN WyQ WyR. Each part tells what it proves. By an AI agent.
-/
import Derived.Test.YtjkfighooijblaaGreatWyF
import Derived.Deep.DeepCutAuto

/-
  Potentials: program and reference. By an AI agent.
-/
namespace Go.Proofs.YtjkfighooijblaaGreat
open Go.RowKit

def potF (M : List (List Int)) (k : Nat) : Int := mnF 1000000000 (fun i => bf M.length (entM M) M.length i k) M.length
def potL (M : List (List Int)) : List Int := tab M.length (potF M)
def potB (M : List (List Int)) : Bool := okW M && (potL M).all numB
def onL (B : Bool) (X : List Int) : List Int := if B = true then X else []
def LisR (B : Bool) (X : List Int) (w : World) (e : Ending) (w' : World) : Prop := ∃ ad cap, e = .returned (.tuple #[.slice ad (onL B X).length cap, .bool B]) ∧ RdI w' ad (onL B X) ∧ Below w.heap.size w w'
theorem LisR.no {w w' : World} (X : List Int) (hb : Below w.heap.size w w') : LisR false X w (.returned (.tuple #[.slice none 0 0, .bool false])) w' := ⟨none, 0, rfl, RdI.nil _ _, hb⟩
theorem LisR.yes {w w' : World} {ad : Option Addr} {cap n : Nat} {X : List Int} (h : RdI w' ad X) (hn : X.length = n) (hb : Below w.heap.size w w') : LisR true X w (.returned (.tuple #[.slice ad n cap, .bool true])) w' := by
  subst hn
  exact ⟨ad, cap, rfl, h, hb⟩
theorem pot_le {M : List (List Int)} (_hs : sqB M = true) {k : Nat} (hk : k < M.length) : potF M k ≤ 0 := by
  have h1 := mnF_le 1000000000 (fun i => bf M.length (entM M) M.length i k) hk
  have h2 := bf_mono (n := M.length) (m := entM M) (Nat.zero_le M.length) k k
  rw [bf_zero] at h2
  unfold unF at h2
  rw [if_pos rfl] at h2
  unfold potF
  omega
/-- No potential is Infinity. -/
theorem pot_num {M : List (List Int)} (hs : sqB M = true) : (potL M).all numB = allB (potL M) (-1000000) 1000000 := by
  unfold allB
  rw [Bool.eq_iff_iff, List.all_eq_true, List.all_eq_true]
  have h : ∀ x ∈ potL M, x ≤ 0 := fun x hx => by
    unfold potL tab at hx
    obtain ⟨k, hk, rfl⟩ := List.mem_map.1 hx
    exact pot_le hs (by simpa using hk)
  constructor
  · intro h1 x hx
    have := numB_t (h1 x hx)
    have := h x hx
    exact inB_t.2 (by omega)
  · intro h1 x hx
    have := inB_t.1 (h1 x hx)
    unfold numB
    rw [inB_t.2 (by omega)]
    rfl

end Go.Proofs.YtjkfighooijblaaGreat

/-
  The centre: program and reference. By an AI agent.
-/
namespace Go.Proofs.YtjkfighooijblaaGreat
open Go.RowKit

def mstZ (a b : Int) : Int := if b < a then a else b
def mxF (a : Int) (f : Nat → Int) : Nat → Int
  | 0 => a
  | k + 1 => mstZ (mxF a f k) (f k)
def cenF (f : Nat → Int) : Nat → Nat × Int
  | 0 => (0, 1000000000)
  | k + 1 => if f k < (cenF f k).2 then (k, f k) else cenF f k
theorem mxF_congr {a b : Int} {f g : Nat → Int} : ∀ {k : Nat}, a = b → (∀ j, j < k → f j = g j) → mxF a f k = mxF b g k
  | 0, h, _ => h
  | k + 1, h, hf => by
    unfold mxF
    rw [mxF_congr h (fun j hj => hf j (by omega)), hf k (by omega)]
def rmxF (M : List (List Int)) (i : Nat) : Int := mxF (bf M.length (entM M) M.length i 0) (bf M.length (entM M) M.length i) M.length
def cenB (M : List (List Int)) : Bool := cosB M && decide ((cenF (rmxF M) M.length).2 ≠ 1000000000)
def CenR (B : Bool) (p : Nat × Int) (e : Ending) : Prop := e = .returned (.tuple #[.int .i64 (if B = true then (p.1 : Int) else 0), .int .i64 (if B = true then p.2 else 0), .bool B])

set_option maxHeartbeats 800000 in
theorem l1Most_c (a b : Int) (w : World) :
    Calls Tryz.prog 103 #[.int .i64 a, .int .i64 b] w fun e w' => e = .returned (.int .i64 (mstZ a b)) ∧ w = w' := by
  unfold mstZ
  by_cases h : b < a
  · rw [if_pos h]
    go_enter Tryz.func103, Tryz.ntmps103
    go_wp2_with fail
    go_ret
    exact ⟨rfl, rfl⟩
  · rw [if_neg h]
    go_enter Tryz.func103, Tryz.ntmps103
    go_wp2_with fail
    go_ret
    exact ⟨rfl, rfl⟩
theorem mst_if (a b : Int) : (if a < b then b else a) = mstZ a b := by unfold mstZ; split <;> split <;> omega
end Go.Proofs.YtjkfighooijblaaGreat

/-
  Whether numbers are potentials; reduced matrices: program and reference. Printed by gen_wyI.py.
-/
namespace Go.Proofs.YtjkfighooijblaaGreat
open Go.RowKit

def askB (M : List (List Int)) (p : List Int) : Bool := sqB M && (decide (p.length = M.length) && p.all finB)
def ptB (n : Nat) (m : Nat → Nat → Int) (p : List Int) : Bool := (List.range n).all fun i => (List.range n).all fun k => decide (p.getD k 0 ≤ prodZ (p.getD i 0) (m i k))
def hasB (M : List (List Int)) (p : List Int) : Bool := askB M p && ptB M.length (entM M) p
def redM (M : List (List Int)) (p : List Int) : List (List Int) := toM M.length fun i k => prodZ (entM M i k) (p.getD i 0 - p.getD k 0)
def redB (M : List (List Int)) (p : List Int) : Bool := hasB M p && nmB (redM M p)
theorem ptB_t {n : Nat} {m : Nat → Nat → Int} {p : List Int} : ptB n m p = true ↔ ∀ i k, i < n → k < n → p.getD k 0 ≤ prodZ (p.getD i 0) (m i k) := by
  unfold ptB
  rw [List.all_eq_true]
  constructor
  · intro h i k hi hk
    have := List.all_eq_true.1 (h i (List.mem_range.2 hi)) k (List.mem_range.2 hk)
    exact of_decide_eq_true this
  · intro h i hi
    rw [List.all_eq_true]
    intro k hk
    exact decide_eq_true (h i k (List.mem_range.1 hi) (List.mem_range.1 hk))
theorem ptB_f {n : Nat} {m : Nat → Nat → Int} {p : List Int} {i k : Nat} (hi : i < n) (hk : k < n) (h : prodZ (p.getD i 0) (m i k) < p.getD k 0) : ptB n m p = false := by
  rw [Bool.eq_false_iff]
  intro h2
  have := ptB_t.1 h2 i k hi hk
  omega
theorem fin_bd {p : List Int} (h : p.all finB = true) {i : Nat} (hi : i < p.length) : -1000000 ≤ p.getD i 0 ∧ p.getD i 0 ≤ 1000000 := inB_t.1 (List.all_eq_true.1 h _ (getD_memI hi))
theorem ask_facts {M : List (List Int)} {p : List Int} (h : askB M p = true) : sqB M = true ∧ p.length = M.length ∧ p.all finB = true := by
  unfold askB at h
  simp only [Bool.and_eq_true, decide_eq_true_eq] at h
  exact h

end Go.Proofs.YtjkfighooijblaaGreat

/-
  Whether numbers can be and are potentials; reduced matrices: program and reference. By an AI agent.
-/
namespace Go.Proofs.YtjkfighooijblaaGreat
open Go.RowKit

set_option maxHeartbeats 1600000 in
theorem areOne_c (ad : Option Addr) (cap : Nat) (N : Nat) (adp : Option Addr) (capp : Nat) (p : List Int) (w : World) (hp : RdI w adp p) (hl : p.length ≤ 1048576) :
    Calls Tryz.prog 73 #[.slice ad N cap, .slice adp p.length capp] w fun e w' => e = .returned (.bool (decide (p.length = N) && p.all finB)) ∧ w = w' := by
  have C1 := Lib.hid (areFinite_c adp capp p w hp hl)
  clear hp
  generalize p.all finB = V at C1 ⊢
  generalize p.length = n at C1 ⊢
  obtain ⟨q, hq⟩ : ∃ q, ((n : Int) == (N : Int)) = q := ⟨_, rfl⟩
  have hq2 : (n == N) = q := by rw [← hq, (natEq n N).1, (natEq n N).2.1]
  have hq3 : decide (n = N) = q := by rw [← hq, (natEq n N).1]
  rw [hq3]
  clear hq3
  cases q
  · go_enter Tryz.func73, Tryz.ntmps73
    go_wp2_with fail
    go_ret
    exact ⟨rfl, rfl⟩
  · go_enter Tryz.func73, Tryz.ntmps73
    go_wp2_with fail
    refine C1.out.mono ?_
    rintro e w1 ⟨rfl, rfl⟩
    go_wp2_with fail
    go_ret
    exact ⟨rfl, rfl⟩

def areR (M : List (List Int)) (p : List Int) : Value := .tuple #[.bool (hasB M p), .bool (askB M p)]
end Go.Proofs.YtjkfighooijblaaGreat

/-
  Reduced matrices: program and reference. By an AI agent.
-/
namespace Go.Proofs.YtjkfighooijblaaGreat
open Go.RowKit

/-! ### append of numbers at a step of a region that draws its order -/
theorem rdNewsI {w : World} {a : Addr} {xs : List Int} (h : RdI w (some a) xs) : ∀ j u, (ints xs)[j]? = some u → w.cell? (a.add j) = some u := by
  intro j u hu
  have hj : j < xs.length := by
    have := List.getElem?_eq_some_iff.1 hu
    obtain ⟨h1, _⟩ := this
    rwa [ints_length] at h1
  obtain ⟨b, off, e, _, hc⟩ := h j hj
  cases e
  rw [ints_get hj] at hu
  have hadd : (⟨b, off, none⟩ : Addr).add j = ⟨b, off + j, none⟩ := by unfold Addr.add; split <;> simp_all
  rw [hadd, hc]
  exact hu
def ReadsN (w : World) (X : Value) (l : List Int) : Prop := ∃ b off c, X = .slice (some ⟨b, off, none⟩) l.length c ∧ RdI w (some ⟨b, off, none⟩) l
theorem ReadsN.below {w w' : World} {X : Value} {l : List Int} (h : ReadsN w X l) (hb : Below w.heap.size w w') : ReadsN w' X l := by
  obtain ⟨b, off, c, h1, h2⟩ := h
  exact ⟨b, off, c, h1, h2.below hb⟩
theorem step_appI {w : World} {ops : Array Oper} {o : Oper} {a : Act} {K : Act → World → Prop} {Q : Exit → Act → World → Prop} {E : Prop} (hgd : o.guard = none) (s x : Operand)
    (ho : o.op = .call { callee := .builtin .append, args := #[s, x], argTypes := #[25, 25] })
    (B : Nat) (v X : Value) (l m : List Int) (hs : a.eval s = v) (hx : a.eval x = X) (hown : RowI w B v l) (hX : ReadsN w X m) (hl : l.length ≤ 100000) (hm : m.length ≤ 100000) (hB : B ≤ w.heap.size)
    (h : ∀ v' w', RowI w' B v' (l ++ m) → Below B w w' → w.grownBy w' v.ownBlock → K (a.put o.dst v') w') :
    if Region.wanted o (yielded ops a.tmps) = true then Oper.wp Tryz.prog o a w K Q else E := by
  have hw : Region.wanted o (yielded ops a.tmps) = true := by simp [Region.wanted, hgd]
  rw [if_pos hw]
  obtain ⟨iP, hiP, hzP, hsP, hbP⟩ := info_parts Tryz.infoI
  obtain ⟨b, off, c, rfl, hrd⟩ := hX
  obtain ⟨v', w', hr, h2, h3, _, _⟩ := run_append_own_at (P := Tryz.prog) w B 25 o.type 3 iP _ 1 8 Tryz.underlying25 hiP hzP hsP hbP rfl (by omega) v l.length (ints l) hown ⟨b, off, none⟩ m.length c (ints m) (by rw [ints_length]; omega) (rdNewsI hrd) (ints_oneCell m) (by unfold maxLen; omega) (by omega) hB
  unfold Oper.wp execOp
  simp only [ho, resolve, invoke, builtin, Sem.run_bind, Sem.run_pure, Result.andThen_ok, List.map_toArray, List.map_cons, List.map_nil, hs, hx, hr]
  exact h v' w' (row_congr h2 (by simp) (by simp [ints])) ((Below.refl _ _).grown h3 hB (fun q e => (hown.lt q e).1)) h3
theorem readsN_one (u : World) (H : Nat) (x : Int) (hH : u.heap.size = H) : ReadsN (u.alloc (.cells #[.int .i64 x] 3)) (.slice (some ⟨H, 0, none⟩) 1 1) [x] := by
  subst hH
  refine ⟨_, _, 1, rfl, fun j hj => ?_⟩
  obtain rfl : j = 0 := by simpa using hj
  exact ⟨_, _, rfl, by simp, by simp [go_sem]⟩
theorem ReadsN.alloc' {w : World} {X : Value} {l : List Int} {o : Obj} (h : ReadsN w X l) : ReadsN (w.alloc o) X l := h.below ((Below.refl _ _).alloc (Nat.le_refl _) _)
theorem ReadsN.drew' {w : World} {X : Value} {l : List Int} (h : ReadsN w X l) : ReadsN w.drew X l := h.below (Below.refl _ _).drew
theorem RowI.drew' {w : World} {B : Nat} {v : Value} {l : List Int} (h : RowI w B v l) : RowI w.drew B v l := h.below (Below.refl _ _).drew

theorem row_shp {w : World} {B : Nat} {v : Value} {xs : List Int} (h : RowI w B v xs) : ∃ ad c, v = .slice ad xs.length c := by
  rcases h.2 with ⟨e, h0⟩ | ⟨g, cap, cur, e, hg, _⟩
  · exact ⟨none, 0, by rw [e, h0]⟩
  · exact ⟨_, cap, e⟩
def rdF (m : Nat → Nat → Int) (p : List Int) : Nat → Nat → Int := fun i k => prodZ (m i k) (p.getD i 0 - p.getD k 0)
def rdS (m : Nat → Nat → Int) (p : List Int) (i k : Nat) : Nat → Nat → Int := fun a b => if a < i ∨ (a = i ∧ b < k) then rdF m p a b else m a b
theorem rdS_next (m : Nat → Nat → Int) (p : List Int) (i k : Nat) : (fun a b => if a = i ∧ b = k then rdF m p i k else rdS m p i k a b) = rdS m p i (k + 1) := by
  funext a b
  unfold rdS
  by_cases h : a = i ∧ b = k
  · obtain ⟨rfl, rfl⟩ := h
    rw [if_pos ⟨rfl, rfl⟩, if_pos (by omega)]
  · rw [if_neg h]
    by_cases h2 : a < i ∨ (a = i ∧ b < k)
    · rw [if_pos h2, if_pos (by omega)]
    · rw [if_neg h2, if_neg (by omega)]
theorem rdS_row (n : Nat) (m : Nat → Nat → Int) (p : List Int) (i : Nat) : toM n (rdS m p i n) = toM n (rdS m p (i + 1) 0) := toM_congr fun a b ha hb => by
  unfold rdS
  by_cases h : a < i ∨ (a = i ∧ b < n)
  · rw [if_pos h, if_pos (by omega)]
  · rw [if_neg h, if_neg (by omega)]
theorem rdS_end (n : Nat) (m : Nat → Nat → Int) (p : List Int) : toM n (rdS m p n 0) = toM n (rdF m p) := toM_congr fun a b ha hb => by
  unfold rdS
  rw [if_pos (Or.inl ha)]
theorem rdS_start (m : Nat → Nat → Int) (p : List Int) : rdS m p 0 0 = m := by
  funext a b
  unfold rdS
  rw [if_neg (by omega)]

end Go.Proofs.YtjkfighooijblaaGreat

/-
  Ways in a matrix: whether lists are ways, and what they cost; the program's. By an AI agent.
-/
namespace Go.Proofs.YtjkfighooijblaaGreat
open Go.RowKit

/-! ### plain -/
def vtB (n : Nat) (l : List Int) : Bool := allB l 0 ((n : Int) - 1)
def vx (l : List Int) (t : Nat) : Nat := (l.getD t 0).toNat
def coF (m : Nat → Nat → Int) (l : List Int) : Nat → Int
  | 0 => 0
  | t + 1 => prodZ (coF m l t) (m (vx l t) (vx l (t + 1)))
def stB (m : Nat → Nat → Int) (l : List Int) : Nat → Bool
  | 0 => true
  | t + 1 => stB m l t && !decide (m (vx l t) (vx l (t + 1)) = 1000000000)
def wayB (n : Nat) (m : Nat → Nat → Int) (l : List Int) : Bool := inB l.length 1 20 && (vtB n l && stB m l (l.length - 1))
theorem vt_at {n : Nat} {l : List Int} (h : vtB n l = true) {t : Nat} (ht : t < l.length) : l.getD t 0 = (vx l t : Int) ∧ vx l t < n := by
  have := allB_t.1 h t ht
  unfold vx
  omega
theorem co_bd {n : Nat} {m : Nat → Nat → Int} {l : List Int} (hm : ∀ a b, a < n → b < n → numB (m a b) = true) (hv : vtB n l = true) (hl : l.length ≤ 900) : ∀ t, t < l.length → (stB m l t = false ∧ coF m l t = 1000000000) ∨ (stB m l t = true ∧ -(1000000 * (t : Int)) ≤ coF m l t ∧ coF m l t ≤ 1000000 * (t : Int))
  | 0, _ => Or.inr ⟨rfl, by simp [coF]⟩
  | t + 1, ht => by
    have ih := co_bd hm hv hl t (by omega)
    have h1 := (vt_at hv (t := t) (by omega)).2
    have h2 := (vt_at hv ht).2
    have h3 := numB_t (hm _ _ h1 h2)
    unfold stB coF
    by_cases e : m (vx l t) (vx l (t + 1)) = 1000000000
    · left
      rw [e]
      refine ⟨by simp, prodZ_inf (Or.inr rfl)⟩
    · rcases ih with ⟨i1, i2⟩ | ⟨i1, i2, i3⟩
      · left
        rw [i1, i2]
        exact ⟨by simp, prodZ_inf (Or.inl rfl)⟩
      · by_cases e2 : coF m l t = 1000000000
        · omega
        · right
          rw [i1, prodZ_fin e2 e]
          refine ⟨by simp [e], by omega, by omega⟩

set_option maxHeartbeats 1600000 in
set_option maxRecDepth 100000 in
theorem costOfSteps_c (n : Nat) (ad : Option Addr) (cap : Nat) (m : Nat → Nat → Int) (adw : Option Addr) (capw : Nat) (l : List Int) (w : World) (hr : RdM w ad (toM n m)) (hw : RdI w adw l) (hn : 1 ≤ n ∧ n ≤ 6) (hl : 1 ≤ l.length ∧ l.length ≤ 20) (hv : vtB n l = true) (hnum : ∀ a b, a < n → b < n → numB (m a b) = true) :
    Calls Tryz.prog 99 #[.slice ad n cap, .slice adw l.length capw] w fun e w' => e = .returned (.int .i64 (coF m l (l.length - 1))) ∧ Below w.heap.size w w' := by
  have HBD := Lib.hid (co_bd hnum hv (by omega))
  have HVT := Lib.hid (fun t (ht : t < l.length) => vt_at hv ht)
  have HR := Lib.hid hr; have HP := Lib.hid hw; have HNUM := Lib.hid hnum
  have HS := Lib.hid (fun t => show coF m l (t + 1) = prodZ (coF m l t) (m (vx l t) (vx l (t + 1))) from rfl)
  clear hr hw hv hnum
  obtain ⟨N, hN⟩ : ∃ N, l.length = N := ⟨_, rfl⟩
  have HN := Lib.hid hN
  rw [hN] at hl HBD HVT ⊢
  clear hN
  go_enter Tryz.func99, Tryz.ntmps99
  go_wp2_with fail
  go_loopw [5, 6] (fun v i wr => ∃ s : Nat, 1 ≤ s ∧ s ≤ N ∧ i = .int .i64 s ∧ v = .int .i64 (coF m l (s - 1)) ∧ Below w.heap.size w wr) (fun _ i _ => N - (intOf i).toNat)
  case atStart => exact ⟨1, Nat.le_refl _, hl.1, rfl, rfl, Below.refl _ _⟩
  case round =>
    obtain ⟨wE, rfl⟩ : ∃ x : World, x = wr := ⟨_, rfl⟩
    obtain ⟨s, hs1, hs, rfl, rfl, hbel⟩ := hrel
    by_cases hls : s < N
    case neg =>
      obtain rfl : s = N := by omega
      go_wp2_with fail
      go_ret
      exact ⟨rfl, hbel⟩
    case pos =>
      obtain ⟨t, ht⟩ : ∃ t, s - 1 = t := ⟨_, rfl⟩
      have hst : s = t + 1 := by omega
      have hco := HS.out t
      rw [← hst] at hco
      rw [ht]
      obtain ⟨v1, u1⟩ := HVT.out t (by omega)
      obtain ⟨v2, u2⟩ := HVT.out s hls
      obtain ⟨bp, op, rfl, hbp, q1⟩ := HP.out t (by have := HN.out; omega)
      have q2 := HP.out.at (j := s) (by have := HN.out; omega)
      rw [v1] at q1
      rw [v2] at q2
      have q1 := bcell hbel hbp q1
      have q2 := bcell hbel hbp q2
      have hm := numB_t (HNUM.out _ _ u1 u2)
      have hbd := HBD.out t (by omega)
      obtain ⟨bM, oM, rfl, hbM, hrow⟩ := HR.out.rowF (by omega)
      obtain ⟨b2, o2, c2, e2, hl2, hc2⟩ := hrow _ u1
      have e2 := bcell hbel hbM e2
      have k1 := bcell hbel hl2 (hc2 _ u2)
      clear hrow hc2 v1 v2 ht
      generalize coF m l t = C at hbd hco ⊢
      generalize vx l t = a at q1 u1 e2 k1 hco hm
      generalize vx l s = b at q2 u2 k1 hco hm
      generalize m a b = D at k1 hco hm
      have x1 : (0 : Int) ≤ (s : Int) := by omega
      have x2 : (s : Int) < (N : Int) := by omega
      have x3 : (0 : Int) ≤ (t : Int) := by omega
      have x4 : (t : Int) < (N : Int) := by omega
      have x5 : (0 : Int) ≤ (a : Int) := by omega
      have x6 : (a : Int) < (n : Int) := by omega
      have x7 : (0 : Int) ≤ (b : Int) := by omega
      have x8 : (b : Int) < (n : Int) := by omega
      have e1 : IntKind.i64.wrap ((s : Int) - 1) = (t : Int) := by rw [i64_small (by omega) (by omega)]; omega
      have CP := Lib.hid (fun w => product_c C D w (by omega))
      have HCO := Lib.hid hco
      generalize prodZ C D = P at CP HCO
      clear hco hbd hm
      have HST := Lib.hid hst
      clear hst
      go_wp2_with fail
      go_quiet ((go_at_call 64; exact Calls.quiet_of_same ((CP.out _).mono (fun e w' h => ⟨h.1, h.2.symm⟩))))
      go_wp2_with fail
      go_roundw
      case rel => exact ⟨s + 1, by omega, by omega, by go_num, by rw [Nat.add_sub_cancel, HCO.out], bdrewN hbel _⟩
      case measure => simp [intOf]; omega

end Go.Proofs.YtjkfighooijblaaGreat

/-
  Ways in a matrix: whether lists are ways, what they cost, whether potentials prove them. By an AI agent.
-/
namespace Go.Proofs.YtjkfighooijblaaGreat
open Go.RowKit

def cowX (M : List (List Int)) (l : List Int) : Int := coF (entM M) l (l.length - 1)
def cowW (M : List (List Int)) (l : List Int) : Bool := sqB M && wayB M.length (entM M) l
def prB (m : Nat → Nat → Int) (p l : List Int) : Nat → Bool
  | 0 => true
  | t + 1 => prB m p l t && decide (p.getD (vx l (t + 1)) 0 = p.getD (vx l t) 0 + m (vx l t) (vx l (t + 1)))
theorem prB_t {m : Nat → Nat → Int} {p l : List Int} : ∀ {t : Nat}, prB m p l t = true ↔ ∀ s, s < t → p.getD (vx l (s + 1)) 0 = p.getD (vx l s) 0 + m (vx l s) (vx l (s + 1))
  | 0 => ⟨fun _ s hs => absurd hs (Nat.not_lt_zero _), fun _ => rfl⟩
  | t + 1 => by
    unfold prB
    rw [Bool.and_eq_true, prB_t, decide_eq_true_eq]
    constructor
    · rintro ⟨h1, h2⟩ s hs
      by_cases e : s = t
      · subst e; exact h2
      · exact h1 s (by omega)
    · exact fun h => ⟨fun s hs => h s (by omega), h t (by omega)⟩
theorem stB_t {m : Nat → Nat → Int} {l : List Int} : ∀ {t : Nat}, stB m l t = true ↔ ∀ s, s < t → m (vx l s) (vx l (s + 1)) ≠ 1000000000
  | 0 => ⟨fun _ s hs => absurd hs (Nat.not_lt_zero _), fun _ => rfl⟩
  | t + 1 => by
    unfold stB
    rw [Bool.and_eq_true, stB_t, Bool.not_eq_true', decide_eq_false_iff_not]
    constructor
    · rintro ⟨h1, h2⟩ s hs
      by_cases e : s = t
      · subst e; exact h2
      · exact h1 s (by omega)
    · exact fun h => ⟨fun s hs => h s (by omega), h t (by omega)⟩

end Go.Proofs.YtjkfighooijblaaGreat

/-
  Whether potentials prove a way: program and reference. Printed by gen_wyN.py. By an AI agent.
-/
namespace Go.Proofs.YtjkfighooijblaaGreat
open Go.RowKit

def proX (M : List (List Int)) (p l : List Int) : Bool := hasB M p && wayB M.length (entM M) l
def proB (M : List (List Int)) (p l : List Int) : Bool := proX M p l && prB (entM M) p l (l.length - 1)

end Go.Proofs.YtjkfighooijblaaGreat

/-
  Vertices to which ways cost at most a number: program and reference. Printed by gen_wyQ.py. By an AI agent.
-/
namespace Go.Proofs.YtjkfighooijblaaGreat
open Go.RowKit

def wiL (f : Nat → Int) (mo : Int) : Nat → List Int
  | 0 => []
  | k + 1 => if f k ≤ mo then wiL f mo k ++ [(k : Int)] else wiL f mo k
theorem wiL_len (f : Nat → Int) (mo : Int) : ∀ k, (wiL f mo k).length ≤ k
  | 0 => Nat.le_refl _
  | k + 1 => by
    have := wiL_len f mo k
    unfold wiL
    split
    · rw [List.length_append, List.length_singleton]; omega
    · omega
def wiB (M : List (List Int)) (f mo : Int) : Bool := sqB M && (inB f 0 ((M.length : Int) - 1) && (finB mo && cosB M))
def wiX (M : List (List Int)) (f mo : Int) : List Int := wiL (bf M.length (entM M) M.length f.toNat) mo M.length
set_option maxHeartbeats 800000 in
theorem poFin_c (n : Int) (w : World) :
    Calls Tryz.prog 45 #[.int .i64 n] w fun e w' => e = .returned (.bool (finB n)) ∧ w = w' := by
  have c := Lib.hid (fun w => l1In_any n (-1000000) 1000000 w)
  unfold finB
  generalize inB n (-1000000) 1000000 = u at c ⊢
  go_enter Tryz.func45, Tryz.ntmps45
  go_wp2_with fail
  refine (c.out _).mono ?_
  rintro e w' ⟨rfl, rfl⟩
  go_wp2_with fail
  go_ret
  exact ⟨rfl, rfl⟩

end Go.Proofs.YtjkfighooijblaaGreat

/-
  The first cheapest way with the fewest steps, plain: costs of so many steps, least steps, first vertices. By an AI agent.
-/
namespace Go.Proofs.YtjkfighooijblaaGreat

def exF (n : Nat) (m : Nat → Nat → Int) (tv : Nat) : Nat → Nat → Int
  | 0, v => if v = tv then 0 else 1000000000
  | s + 1, v => mnF 1000000000 (fun k => prodZ (m v k) (exF n m tv s k)) n
/-- the first index from k on (of at most f) that has it. -/
def fstN (p : Nat → Bool) : Nat → Nat → Nat
  | 0, k => k
  | f + 1, k => if p k = true then k else fstN p f (k + 1)
theorem fst_from (p : Nat → Bool) : ∀ (f k j : Nat), k ≤ j → j < k + f → p j = true → (∀ i, k ≤ i → i < j → p i = false) → fstN p f k = j
  | 0, k, j, h1, h2, _, _ => by omega
  | f + 1, k, j, h1, h2, h3, h4 => by
    unfold fstN
    by_cases e : k = j
    · subst e; rw [if_pos h3]
    · rw [if_neg (by rw [h4 k (Nat.le_refl _) (by omega)]; simp)]
      exact fst_from p f (k + 1) j (by omega) (by omega) h3 (fun i hi => h4 i (by omega))
theorem fst_eq {p : Nat → Bool} {n j : Nat} (h1 : j < n) (h2 : p j = true) (h3 : ∀ i, i < j → p i = false) : fstN p n 0 = j := fst_from p n 0 j (Nat.zero_le _) (by omega) h2 (fun i _ => h3 i)
def chK (n : Nat) (m : Nat → Nat → Int) (tv s a : Nat) : Nat := fstN (fun k => !(m a k == 1000000000) && decide (prodZ (m a k) (exF n m tv s k) = exF n m tv (s + 1) a)) n 0
def chP (n : Nat) (m : Nat → Nat → Int) (tv : Nat) : Nat → Nat → List Int
  | 0, _ => []
  | s + 1, a => (chK n m tv s a : Int) :: chP n m tv s (chK n m tv s a)
theorem chP_len (n : Nat) (m : Nat → Nat → Int) (tv : Nat) : ∀ s a, (chP n m tv s a).length = s
  | 0, _ => rfl
  | s + 1, a => by unfold chP; rw [List.length_cons, chP_len n m tv s]
def chS (n : Nat) (m : Nat → Nat → Int) (a b : Nat) : Nat := fstN (fun s => decide (exF n m b s a = bf n m n a b)) n 0
def chL (n : Nat) (m : Nat → Nat → Int) (a b : Nat) : List Int := (a : Int) :: chP n m b (chS n m a b) a
def chB (M : List (List Int)) (f t : Int) : Bool := sqB M && (inB f 0 ((M.length : Int) - 1) && (inB t 0 ((M.length : Int) - 1) && (okW M && !decide (bf M.length (entM M) M.length f.toNat t.toNat = 1000000000))))
def chX (M : List (List Int)) (f t : Int) : List Int := chL M.length (entM M) f.toNat t.toNat

section
variable {n : Nat} {m : Nat → Nat → Int}
theorem ex_sound {tv : Nat} (hto : tv < n) : ∀ (s : Nat) {v : Nat}, v < n → exF n m tv s v ≠ 1000000000 → Wk n m v tv (exF n m tv s v) s
  | 0, v, hv, h => by
    unfold exF at h ⊢
    split at h
    · rename_i e
      subst e
      rw [if_pos rfl]
      exact Wk.nil hv
    · exact absurd rfl h
  | s + 1, v, hv, h => by
    rw [exF] at h ⊢
    rcases mnF_at 1000000000 (fun k => prodZ (m v k) (exF n m tv s k)) n with e | ⟨k, hk, e⟩
    · rw [e] at h; exact absurd rfl h
    · rw [e] at h ⊢
      obtain ⟨h1, h2, h3⟩ := prodZ_ne h
      exact ((Wk.one hv hk h1).append (ex_sound hto s hk h2)).cast h3.symm (by omega)
theorem ex_bd (hm : ∀ a b, a < n → b < n → numB (m a b) = true) {tv : Nat} (hto : tv < n) {s v : Nat} (hv : v < n) : exF n m tv s v = 1000000000 ∨ (-(1000000 * (s : Int)) ≤ exF n m tv s v ∧ exF n m tv s v ≤ 1000000 * (s : Int)) := by
  by_cases h : exF n m tv s v = 1000000000
  · exact Or.inl h
  · exact Or.inr ((ex_sound hto s hv h).bd hm)
theorem Wk.inv1 {i k : Nat} {c : Int} (h : Wk n m i k c 1) : i < n ∧ k < n ∧ m i k ≠ 1000000000 ∧ c = m i k := by
  generalize hs : 1 = s at h
  cases h with
  | nil _ => cases hs
  | snoc h1 h2 h3 =>
    rename_i j s c
    obtain rfl : s = 0 := by omega
    generalize hz : 0 = z at h1
    cases h1 with
    | nil h => exact ⟨h, h2, h3, by omega⟩
    | snoc _ _ _ => cases hz
theorem ex_le (hm : ∀ a b, a < n → b < n → numB (m a b) = true) {tv : Nat} : ∀ (s : Nat) {v : Nat} {c : Int}, Wk n m v tv c s → s < 900 → exF n m tv s v ≠ 1000000000 ∧ exF n m tv s v ≤ c
  | 0, v, c, h, _ => by
    generalize hs : 0 = s at h
    cases h with
    | nil _ => unfold exF; rw [if_pos rfl]; omega
    | snoc _ _ _ => cases hs
  | s + 1, v, c, h, hs => by
    have hto := h.last
    obtain ⟨u, P, hu0, hus, hP0, hPs, _, hw⟩ := h.split
    have h1 := hw 0 1 (by omega) (by omega)
    have h2 := hw 1 (s + 1) (by omega) (Nat.le_refl _)
    rw [hu0, hP0] at h1
    rw [hus, hPs] at h2
    obtain ⟨i1, i2, i3, i4⟩ := h1.inv1
    obtain ⟨j1, j2⟩ := ex_le hm s h2 (by omega)
    have h3 := mnF_le 1000000000 (fun k => prodZ (m v k) (exF n m tv s k)) i2
    rw [prodZ_fin i3 j1] at h3
    have h4 := ex_bd hm hto (s := s) i2
    have h5 := numB_t (hm _ _ i1 i2)
    rw [exF]
    omega
/-- the cheapest cost is met by fewer than n steps. -/
theorem ex_meet (hm : ∀ a b, a < n → b < n → numB (m a b) = true) (hn6 : n ≤ 6) (hfix : ∀ i k, i < n → k < n → bf n m n i k = bf n m (n + 1) i k) {a b : Nat} (ha : a < n) (hb : b < n) (h : bf n m n a b ≠ 1000000000) : ∃ s, s < n ∧ exF n m b s a = bf n m n a b := by
  obtain ⟨t, _, h1⟩ := bf_sound n ha hb h
  obtain ⟨c, s, h2, h3, h4⟩ := h1.short (fun x c s hw => fix_closed hm hn6 hfix hw)
  obtain ⟨_, h5⟩ := fix_le hm hn6 hfix h2
  obtain ⟨h6, h7⟩ := ex_le hm s h2 (by omega)
  obtain ⟨_, h8⟩ := fix_le hm hn6 hfix (ex_sound hb s ha h6)
  exact ⟨s, h4, by omega⟩
theorem ex_next {tv s a : Nat} (h : exF n m tv (s + 1) a ≠ 1000000000) : ∃ k, k < n ∧ m a k ≠ 1000000000 ∧ exF n m tv s k ≠ 1000000000 ∧ prodZ (m a k) (exF n m tv s k) = exF n m tv (s + 1) a := by
  rw [exF] at h ⊢
  rcases mnF_at 1000000000 (fun k => prodZ (m a k) (exF n m tv s k)) n with e | ⟨k, hk, e⟩
  · rw [e] at h; exact absurd rfl h
  · rw [e] at h ⊢
    obtain ⟨h1, h2, h3⟩ := prodZ_ne h
    exact ⟨k, hk, h1, h2, rfl⟩
end
end Go.Proofs.YtjkfighooijblaaGreat
