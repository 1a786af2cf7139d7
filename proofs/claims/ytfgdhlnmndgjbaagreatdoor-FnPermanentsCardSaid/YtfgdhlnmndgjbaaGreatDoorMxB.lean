/-
  Lists of lists of numbers in memory: as they are read, and as one's own. By an AI agent.
-/
import Derived.Test.YtfgdhlnmndgjbaaGreatDoorRowI
import Derived.Test.YtfgdhlnmndgjbaaGreatDoorNum
import Derived.Laws.OwnMore
import Derived.OneCell
namespace Go.Proofs.YtfgdhlnmndgjbaaGreatDoor
open Go.RowKit

theorem Tryz.infoM : (Tryz.prog.info? 38).map (fun i => (i.zero, i.size, i.bytes)) = some (some (.slice none 0 0), 1, 24) := by kernel_rfl
theorem Own.ne_ty {w : World} {g g' : Nat} {E E' : TypeId} {cs cs' : List Value} (h : Own w g E cs) (h' : Own w g' E' cs') (hE : E ≠ E') : g ≠ g' := by
  rintro rfl
  obtain ⟨c, hb, _⟩ := h
  obtain ⟨c', hb', _⟩ := h'
  rw [hb] at hb'
  simp at hb'
  exact hE hb'.2
theorem row_ne_ty {w : World} {B g n : Nat} {E E' : TypeId} {v : Value} {xs cs : List Value} {size : Nat} (h : w.ownsRow B E size v n xs) (h' : Own w g E' cs) (hE : E ≠ E') : v.ownBlock ≠ some g := by
  intro he
  obtain ⟨_, ⟨rfl, _⟩ | ⟨g', cap, cur, rfl, _, hh, _⟩⟩ := h
  · simp [Value.ownBlock] at he
  · simp [Value.ownBlock] at he
    subst he
    obtain ⟨c', hb', _⟩ := h'
    rw [hh] at hb'
    simp at hb'
    exact hE hb'.2

theorem row_mono {w : World} {B B' size n : Nat} {E : TypeId} {v : Value} {xs : List Value} (h : w.ownsRow B E size v n xs) (hB : B' ≤ B) : w.ownsRow B' E size v n xs := by
  refine ⟨h.1, ?_⟩
  rcases h.2 with hn | ⟨g, cap, cur, rfl, hb, hgg, rest⟩
  · exact .inl hn
  · exact .inr ⟨g, cap, cur, rfl, Nat.le_trans hB hb, hgg, rest⟩
theorem addr_plain (b off k : Nat) : (⟨b, off, none⟩ : Addr).add k = ⟨b, off + k, none⟩ := by
  unfold Addr.add
  split <;> simp_all
theorem getD_setE {l : List Int} {k : Nat} (h : k < l.length) (x : Int) : (l.set k x).getD k 0 = x := by simp [List.getD_eq_getElem?_getD, h]

/-! ### as they are read -/
def RdM (w : World) (ad : Option Addr) (M : List (List Int)) : Prop :=
  ∀ i, i < M.length → ∃ b off a c, ad = some ⟨b, off, none⟩ ∧ b < w.heap.size ∧ w.cell? ⟨b, off + i, none⟩ = some (.slice a (M.getD i []).length c) ∧ RdI w a (M.getD i [])
theorem RdM.nil (w : World) (ad : Option Addr) : RdM w ad [] := fun _ h => by simp at h
theorem RdM.below {w w' : World} {ad : Option Addr} {M : List (List Int)} (h : RdM w ad M) (hb : Below w.heap.size w w') : RdM w' ad M := fun i hi => by
  obtain ⟨b, off, a, c, e, hl, hc, hr⟩ := h i hi
  exact ⟨b, off, a, c, e, Nat.lt_of_lt_of_le hl hb.size, bcell hb hl hc, hr.below hb⟩
theorem RdM.at {w : World} {b off : Nat} {M : List (List Int)} (h : RdM w (some ⟨b, off, none⟩) M) {i : Nat} (hi : i < M.length) : ∃ a c, w.cell? ⟨b, off + i, none⟩ = some (.slice a (M.getD i []).length c) ∧ RdI w a (M.getD i []) := by
  obtain ⟨b', off', a, c, e, _, hc, hr⟩ := h i hi
  cases e
  exact ⟨a, c, hc, hr⟩

/-! ### as one's own -/
def CellO (w : World) (B : Nat) (v : Value) (xs : List Int) : Prop :=
  ∃ ad cap, v = .slice ad xs.length cap ∧ xs.length ≤ cap ∧ ((ad = none ∧ xs = []) ∨ ∃ g off ys, ad = some ⟨g, off, none⟩ ∧ B ≤ g ∧ Own w g 3 (ints ys) ∧ ∀ j, j < xs.length → off + j < ys.length ∧ xs.getD j 0 = ys.getD (off + j) 0)
theorem CellO.of_row {w : World} {B : Nat} {v : Value} {xs : List Int} (h : RowI w B v xs) : CellO w B v xs := by
  rcases Own.of_row h with ⟨h1, h0, h2⟩ | ⟨g, cap, h1, hB, hc, _, ho⟩
  · have : xs = [] := by simpa [ints] using h2
    subst this
    exact ⟨none, 0, h1, Nat.le_refl _, Or.inl ⟨rfl, rfl⟩⟩
  · exact ⟨_, cap, h1, hc, Or.inr ⟨g, 0, xs, rfl, hB, ho, fun j hj => ⟨by omega, by rw [Nat.zero_add]⟩⟩⟩
theorem CellO.of_block {w w' : World} {B : Nat} {v : Value} {xs : List Int} (h : CellO w B v xs) (e : ∀ q, v.ownBlock = some q → w'.heap[q]? = w.heap[q]?) : CellO w' B v xs := by
  obtain ⟨ad, cap, rfl, hcp, h⟩ := h
  refine ⟨ad, cap, rfl, hcp, ?_⟩
  rcases h with h | ⟨g, off, ys, rfl, hB, ho, hj⟩
  · exact Or.inl h
  · exact Or.inr ⟨g, off, ys, rfl, hB, ho.of_block (e g rfl), hj⟩
theorem CellO.lt {w : World} {B : Nat} {v : Value} {xs : List Int} (h : CellO w B v xs) {q : Nat} (hq : v.ownBlock = some q) : B ≤ q ∧ q < w.heap.size := by
  obtain ⟨ad, cap, rfl, _, h⟩ := h
  rcases h with ⟨rfl, _⟩ | ⟨g, off, ys, rfl, hB, ho, hj⟩
  · cases hq
  · simp only [Value.ownBlock, Option.some.injEq] at hq
    subst hq
    exact ⟨hB, ho.lt⟩
theorem CellO.below {w w' : World} {B : Nat} {v : Value} {xs : List Int} (h : CellO w B v xs) (hb : Below w.heap.size w w') : CellO w' B v xs := h.of_block fun q hq => hb.block q (h.lt hq).2
theorem CellO.mono {w : World} {B B' : Nat} {v : Value} {xs : List Int} (h : CellO w B v xs) (hB : B' ≤ B) : CellO w B' v xs := by
  obtain ⟨ad, cap, rfl, hcp, h⟩ := h
  refine ⟨ad, cap, rfl, hcp, ?_⟩
  rcases h with h | ⟨g, off, ys, rfl, hB', r⟩
  · exact Or.inl h
  · exact Or.inr ⟨g, off, ys, rfl, Nat.le_trans hB hB', r⟩
theorem CellO.rd {w : World} {B : Nat} {ad : Option Addr} {n cap : Nat} {xs : List Int} (h : CellO w B (.slice ad n cap) xs) : RdI w ad xs := by
  obtain ⟨ad', cap', e, _, h⟩ := h
  injection e with e1 _ _
  subst e1
  rcases h with ⟨rfl, rfl⟩ | ⟨g, off, ys, rfl, hB, ho, hj⟩
  · exact RdI.nil _ _
  · intro j hj'
    obtain ⟨h1, h2⟩ := hj j hj'
    exact ⟨g, off, rfl, ho.lt, by rw [h2]; exact ho.cell? (ints_get h1)⟩
theorem CellO.cap {w : World} {B : Nat} {ad : Option Addr} {n cap : Nat} {xs : List Int} (h : CellO w B (.slice ad n cap) xs) : xs.length ≤ cap := by
  obtain ⟨ad', cap', e, hc, _⟩ := h
  injection e with _ _ e
  rw [e]; exact hc
theorem CellO.ne_row {w : World} {B B' n : Nat} {u v : Value} {xs : List Int} {vs : List Value} (h : CellO w B v xs) (hu : w.ownsRow B' 38 1 u n vs) {q : Nat} (hq : v.ownBlock = some q) : u.ownBlock ≠ some q := by
  obtain ⟨ad, cap, rfl, _, h⟩ := h
  rcases h with ⟨rfl, _⟩ | ⟨g, off, ys, rfl, hB, ho, hj⟩
  · cases hq
  · simp only [Value.ownBlock, Option.some.injEq] at hq
    subst hq
    exact row_ne_ty hu ho (by decide)

structure MatO (w : World) (B : Nat) (v : Value) (M : List (List Int)) (vs : List Value) : Prop where
  row : w.ownsRow B 38 1 v M.length vs
  each : ∀ i, i < M.length → CellO w B (vs.getD i undef) (M.getD i [])
  apart : ∀ i j, i < M.length → j < M.length → i ≠ j → ∀ q, (vs.getD i undef).ownBlock = some q → (vs.getD j undef).ownBlock ≠ some q
theorem MatO.nil (w : World) (B : Nat) : MatO w B (.slice none 0 0) [] [] := ⟨⟨rfl, Or.inl ⟨rfl, rfl⟩⟩, fun i hi => by simp at hi, fun i j hi => by simp at hi⟩
theorem MatO.empty (w : World) (B H : Nat) (hB : B ≤ w.heap.size) (hH : w.heap.size = H) : MatO (w.alloc (.cells #[] 38)) B (.slice (some ⟨H, 0, none⟩) 0 0) [] [] := by
  subst hH
  exact ⟨World.ownsRow_made w #[] 0 hB (by decide) rfl, fun i hi => by simp at hi, fun i j hi => by simp at hi⟩
theorem MatO.len {w : World} {B : Nat} {v : Value} {M : List (List Int)} {vs : List Value} (h : MatO w B v M vs) : vs.length = M.length := by have := h.row.1; omega
theorem MatO.below {w w' : World} {B : Nat} {v : Value} {M : List (List Int)} {vs : List Value} (h : MatO w B v M vs) (hb : Below w.heap.size w w') : MatO w' B v M vs :=
  ⟨row_below h.row hb, fun i hi => (h.each i hi).below hb, h.apart⟩
theorem MatO.mono {w : World} {B B' : Nat} {v : Value} {M : List (List Int)} {vs : List Value} (h : MatO w B v M vs) (hB : B' ≤ B) : MatO w B' v M vs :=
  ⟨row_mono h.row hB, fun i hi => (h.each i hi).mono hB, h.apart⟩
theorem MatO.chg {w w' : World} {B c : Nat} {v : Value} {M : List (List Int)} {vs : List Value} (h : MatO w B v M vs) (hc : Chg c w w') (hB : c < B) : MatO w' B v M vs :=
  ⟨row_chg h.row hc hB, fun i hi => (h.each i hi).of_block fun q hq => by have := (h.each i hi).lt hq; exact hc.block q this.2 (by omega), h.apart⟩
theorem MatO.shape {w : World} {B : Nat} {v : Value} {M : List (List Int)} {vs : List Value} (h : MatO w B v M vs) : ∃ ad cap, v = .slice ad M.length cap ∧ M.length ≤ cap ∧ cap ≤ maxLen ∧ (ad = none → M = []) := by
  rcases Own.of_row h.row with ⟨h1, h0, h2⟩ | ⟨g, cap, h1, hB, hc, hm, ho⟩
  · exact ⟨none, 0, by rw [h1, h0], by omega, by unfold maxLen; omega, fun _ => List.length_eq_zero_iff.1 h0⟩
  · exact ⟨_, cap, h1, hc, hm, fun e => by cases e⟩
theorem MatO.rd {w : World} {B : Nat} {ad : Option Addr} {n cap : Nat} {M : List (List Int)} {vs : List Value} (h : MatO w B (.slice ad n cap) M vs) : RdM w ad M := by
  intro i hi
  rcases Own.of_row h.row with ⟨_, h0, _⟩ | ⟨g, cap', h1, hB, _, _, ho⟩
  · omega
  · injection h1 with h1 _ _
    subst h1
    have hi' : i < vs.length := by rw [h.len]; exact hi
    have hc : w.cell? ⟨g, i, none⟩ = some (vs.getD i undef) := ho.cell? (by simp [List.getD, hi'])
    have he := h.each i hi
    obtain ⟨a, c, e, _⟩ := he
    have hr := h.each i hi
    rw [e] at hc hr
    exact ⟨g, 0, a, c, rfl, ho.lt, by rw [Nat.zero_add]; exact hc, hr.rd⟩
theorem getD_snocL {α : Type} (l : List α) (x d : α) {i : Nat} (h : i < l.length) : (l ++ [x]).getD i d = l.getD i d := by
  simp [List.getD_eq_getElem?_getD, List.getElem?_append_left h]
theorem getD_snocE {α : Type} (l : List α) (x d : α) : (l ++ [x]).getD l.length d = x := by
  simp [List.getD_eq_getElem?_getD]
/-- One row more. -/
theorem MatO.snoc {w w4 : World} {B K : Nat} {v v' u : Value} {M : List (List Int)} {vs : List Value} {xs : List Int} (h : MatO w B v M vs) (hu : CellO w B u xs) (hK : ∀ q, u.ownBlock = some q → K ≤ q) (hvs : ∀ i q, i < M.length → (vs.getD i undef).ownBlock = some q → q < K)
    (hown : w4.ownsRow B 38 1 v' (M.length + 1) (vs ++ [u])) (hg : w.grownBy w4 v.ownBlock) : MatO w4 B v' (M ++ [xs]) (vs ++ [u]) := by
  have hl := h.len
  refine ⟨row_congr hown (by simp) rfl, fun i hi => ?_, fun i j hi hj hij q => ?_⟩
  · rw [List.length_append, List.length_singleton] at hi
    by_cases e : i = M.length
    · subst e
      rw [getD_snocE, ← hl, getD_snocE]
      exact hu.of_block fun q hq => hg.block q (hu.lt hq).2 fun e => hu.ne_row h.row hq e.symm
    · rw [getD_snocL _ _ _ (by omega), getD_snocL _ _ _ (by omega)]
      have h3 := h.each i (by omega)
      exact h3.of_block fun q hq => hg.block q (h3.lt hq).2 fun e => h3.ne_row h.row hq e.symm
  · rw [List.length_append, List.length_singleton] at hi hj
    by_cases e : i = M.length
    · subst e
      rw [← hl, getD_snocE, getD_snocL _ _ _ (by omega)]
      intro h1 h2
      have := hK q h1
      have := hvs j q (by omega) h2
      omega
    · by_cases e' : j = M.length
      · subst e'
        rw [← hl, getD_snocE, getD_snocL _ _ _ (by omega)]
        intro h1 h2
        have := hK q h2
        have := hvs i q (by omega) h1
        omega
      · rw [getD_snocL _ _ _ (by omega), getD_snocL _ _ _ (by omega)]
        exact h.apart i j (by omega) (by omega) hij q
theorem MatO.low {w : World} {B : Nat} {v : Value} {M : List (List Int)} {vs : List Value} (h : MatO w B v M vs) : ∀ i q, i < M.length → (vs.getD i undef).ownBlock = some q → q < w.heap.size := fun i _ hi hq => ((h.each i hi).lt hq).2
/-- append of a row in the list of a plain region. -/
theorem wpList_appM {w : World} {ops : Array Oper} {rest : List Oper} {o : Oper} {a : Act} {Q : Exit → Act → World → Prop} (hgd : o.guard = none) (s x : Operand)
    (ho : o.op = .call { callee := .builtin .append, args := #[s, x], argTypes := #[23, 23] })
    (B K H : Nat) (v u : Value) (M : List (List Int)) (vs : List Value) (xs : List Int) (N : Nat) (hN : M.length + 1 = N) (hs : a.eval s = v) (hx : a.eval x = .slice (some ⟨H, 0, none⟩) 1 1) (hcu : w.cell? ⟨H, 0, none⟩ = some u)
    (hm : MatO w B v M vs) (hu : CellO w B u xs) (hK : ∀ q, u.ownBlock = some q → K ≤ q) (hvs : ∀ i q, i < M.length → (vs.getD i undef).ownBlock = some q → q < K) (hl : M.length ≤ 1000) (hB : B ≤ w.heap.size)
    (h : ∀ ad' cap' w', MatO w' B (.slice ad' N cap') (M ++ [xs]) (vs ++ [u]) → Below B w w' → wpList Tryz.prog ops Q rest (a.put o.dst (.slice ad' N cap')) w') : wpList Tryz.prog ops Q (o :: rest) a w := by
  refine wpList_plain hgd fun _ hQ => ?_
  obtain ⟨iP, hiP, hzP, hsP, hbP⟩ := info_parts Tryz.infoM
  have ec : u.oneCell' = true := by obtain ⟨_, _, rfl, _⟩ := hu; rfl
  obtain ⟨v', w', hr, h2, h3, _, _⟩ := run_append_own_at (P := Tryz.prog) w B 23 o.type 38 iP _ 1 24 Tryz.underlying23 hiP hzP hsP hbP rfl (by omega) v M.length vs hm.row ⟨H, 0, none⟩ 1 1 [u] rfl (fun j z hz => by
    obtain rfl : j = 0 := by
      have := (List.getElem?_eq_some_iff.1 hz).1
      simpa using this
    simp at hz
    subst hz
    rw [addr_plain]
    exact hcu) (fun z hz => by simp at hz; subst hz; exact ec) (by unfold maxLen; omega) (by omega) hB
  have hmat := hm.snoc hu hK hvs h2 h3
  have hbl := (Below.refl B w).grown h3 hB (fun q e => (hm.row.lt q e).1)
  obtain ⟨ad', cap', e, _⟩ := hmat.shape
  rw [List.length_append, List.length_singleton, hN] at e
  subst e
  unfold Oper.wp execOp
  simp only [ho, resolve, invoke, builtin, Sem.run_bind, Sem.run_pure, Result.andThen_ok, List.map_toArray, List.map_cons, List.map_nil, hs, hx, hr]
  exact hQ _ _ (h _ _ w' hmat hbl)

/-- The cells of a matrix of one's own. -/
theorem MatO.cells {w : World} {B : Nat} {v : Value} {M : List (List Int)} {vs : List Value} (h : MatO w B v M vs) (h0 : 0 < M.length) : ∃ g cap, v = .slice (some ⟨g, 0, none⟩) M.length cap ∧ B ≤ g ∧ M.length ≤ cap ∧ Own w g 38 vs := by
  rcases Own.of_row h.row with ⟨_, h1, _⟩ | ⟨g, cap, h1, hB, hc, _, ho⟩
  · omega
  · exact ⟨g, cap, h1, hB, hc, ho⟩
/-- Where a row lies. -/
def rowAt (u : Value) : Nat × Nat := match u with
  | .slice (some a) _ _ => (a.block, a.off)
  | _ => (0, 0)
def rowCap (u : Value) : Nat := match u with
  | .slice _ _ c => c
  | _ => 0
theorem MatO.rowOf {w : World} {B : Nat} {v : Value} {M : List (List Int)} {vs : List Value} (h : MatO w B v M vs) {i : Nat} (hi : i < M.length) (hr : 0 < (M.getD i []).length) :
    vs.getD i undef = .slice (some ⟨(rowAt (vs.getD i undef)).1, (rowAt (vs.getD i undef)).2, none⟩) (M.getD i []).length (rowCap (vs.getD i undef)) ∧ B ≤ (rowAt (vs.getD i undef)).1 ∧ (rowAt (vs.getD i undef)).1 < w.heap.size ∧
    ∀ j, j < (M.getD i []).length → w.cell? ⟨(rowAt (vs.getD i undef)).1, (rowAt (vs.getD i undef)).2 + j, none⟩ = some (.int .i64 ((M.getD i []).getD j 0)) ∧ w.frozen? ⟨(rowAt (vs.getD i undef)).1, (rowAt (vs.getD i undef)).2 + j, none⟩ = false := by
  obtain ⟨ad, cap, e, _, h2⟩ := h.each i hi
  rcases h2 with ⟨_, h3⟩ | ⟨g, off, ys, rfl, hB, ho, hj⟩
  · rw [h3] at hr; simp at hr
  · rw [e]
    refine ⟨rfl, hB, ho.lt, fun j hj' => ?_⟩
    obtain ⟨h4, h5⟩ := hj j hj'
    exact ⟨by rw [h5]; exact ho.cell? (ints_get h4), ho.frozen _⟩
/-- A number is stored. -/
theorem MatO.set {w : World} {B : Nat} {v : Value} {M : List (List Int)} {vs : List Value} (h : MatO w B v M vs) {i j : Nat} (hi : i < M.length) (hj : j < (M.getD i []).length) (x : Int) :
    MatO (w.setCell ⟨(rowAt (vs.getD i undef)).1, (rowAt (vs.getD i undef)).2 + j, none⟩ (.int .i64 x)) B v (M.set i ((M.getD i []).set j x)) vs := by
  obtain ⟨ad, cap, e, hcp, h2⟩ := h.each i hi
  rcases h2 with ⟨_, h3⟩ | ⟨g, off, ys, rfl, hB, ho, hj2⟩
  · rw [h3] at hj; simp at hj
  have eg : rowAt (vs.getD i undef) = (g, off) := by rw [e]; rfl
  rw [eg]
  simp only
  refine ⟨?_, fun a ha => ?_, fun a b ha hb => h.apart a b (by simpa using ha) (by simpa using hb)⟩
  · rw [List.length_set]
    exact ownsRow_setCell_other h.row (row_ne_ty h.row ho (by decide)) _
  · rw [List.length_set] at ha
    by_cases ea : a = i
    · subst ea
      have e1 : (M.set a ((M.getD a []).set j x)).getD a [] = (M.getD a []).set j x := by simp [List.getD_eq_getElem?_getD, ha]
      rw [e1]
      refine ⟨_, cap, by rw [List.length_set]; exact e, by rw [List.length_set]; exact hcp, Or.inr ⟨g, off, ys.set (off + j) x, rfl, hB, by rw [← ints_set]; exact ho.set _ _, fun k hk => ?_⟩⟩
      rw [List.length_set] at hk
      obtain ⟨h4, h5⟩ := hj2 k hk
      refine ⟨by simpa using h4, ?_⟩
      by_cases ek : k = j
      · subst ek
        rw [getD_setE hk, getD_setE h4]
      · rw [List.getD_eq_getElem?_getD, List.getElem?_set_ne (by omega), ← List.getD_eq_getElem?_getD, h5, List.getD_eq_getElem?_getD, List.getD_eq_getElem?_getD, List.getElem?_set_ne (by omega)]
    · have e1 : (M.set i ((M.getD i []).set j x)).getD a [] = M.getD a [] := by rw [List.getD_eq_getElem?_getD, List.getElem?_set_ne (by omega), ← List.getD_eq_getElem?_getD]
      rw [e1]
      refine (h.each a ha).of_block fun q hq => ?_
      have hq2 : q ≠ g := fun e2 => h.apart i a hi ha (by omega) g (by rw [e]; rfl) (by rw [hq, e2])
      exact Deep.blk_setCell_other _ _ _ _ hq2
/-- The row's numbers, the matrix' rows. -/
def toM (n : Nat) (F : Nat → Nat → Int) : List (List Int) := tab n fun i => tab n (F i)
theorem toM_len (n : Nat) (F : Nat → Nat → Int) : (toM n F).length = n := tab_length _ _
theorem toM_row {n : Nat} (F : Nat → Nat → Int) {i : Nat} (h : i < n) : (toM n F).getD i [] = tab n (F i) := tab_getD h _
theorem toM_set {n : Nat} (F : Nat → Nat → Int) {i : Nat} (j : Nat) (x : Int) (h : i < n) : (toM n F).set i (((toM n F).getD i []).set j x) = toM n (fun a b => if a = i ∧ b = j then x else F a b) := by
  rw [toM_row F h]
  unfold toM
  rw [tab_set, tab_set]
  congr 1
  funext a
  by_cases e : a = i
  · subst e
    rw [if_pos rfl]
    congr 1
    funext b
    by_cases e2 : b = j <;> simp [e2]
  · rw [if_neg e]
    congr 1
    funext b
    exact (if_neg (fun h => e h.1)).symm
theorem toM_congr {n : Nat} {F G : Nat → Nat → Int} (h : ∀ i j, i < n → j < n → F i j = G i j) : toM n F = toM n G := tab_congr fun i hi => tab_congr fun j hj => h i j hi hj

end Go.Proofs.YtfgdhlnmndgjbaaGreatDoor
