/-
  The reference's list of possible assignments: lists of rows in memory, appended in one. By an AI agent.
-/
import Derived.Test.YtfgdhlnmndgjbaaGreatDoorAsD
import Derived.Test.YtfgdhlnmndgjbaaGreatDoorMxI
import Derived.Test.YtfgdhlnmndgjbaaGreatDoorWyG
namespace Go.Proofs.YtfgdhlnmndgjbaaGreatDoor
open Go.RowKit

/-- A list of rows: its cells lie from R on, its rows from B on. -/
structure MatL (w : World) (R B : Nat) (v : Value) (M : List (List Int)) (vs : List Value) : Prop where
  row : w.ownsRow R 38 1 v M.length vs
  each : ∀ i, i < M.length → CellO w B (vs.getD i undef) (M.getD i [])
theorem MatL.nil (w : World) (R B : Nat) : MatL w R B (.slice none 0 0) [] [] := ⟨⟨rfl, Or.inl ⟨rfl, rfl⟩⟩, fun i hi => by simp at hi⟩
theorem MatL.len {w : World} {R B : Nat} {v : Value} {M : List (List Int)} {vs : List Value} (h : MatL w R B v M vs) : vs.length = M.length := by have := h.row.1; omega
theorem MatL.below {w w' : World} {R B : Nat} {v : Value} {M : List (List Int)} {vs : List Value} (h : MatL w R B v M vs) (hb : Below w.heap.size w w') : MatL w' R B v M vs :=
  ⟨row_below h.row hb, fun i hi => (h.each i hi).below hb⟩
theorem MatL.mono {w : World} {R R' B B' : Nat} {v : Value} {M : List (List Int)} {vs : List Value} (h : MatL w R B v M vs) (hR : R' ≤ R) (hB : B' ≤ B) : MatL w R' B' v M vs :=
  ⟨row_mono h.row hR, fun i hi => (h.each i hi).mono hB⟩
theorem MatL.shape {w : World} {R B : Nat} {v : Value} {M : List (List Int)} {vs : List Value} (h : MatL w R B v M vs) : ∃ ad cap, v = .slice ad M.length cap ∧ M.length ≤ cap ∧ (ad = none → v = .slice none 0 0) ∧ ∀ a, ad = some a → ∃ g, a = ⟨g, 0, none⟩ ∧ Own w g 38 vs := by
  rcases Own.of_row h.row with ⟨h1, h0, h2⟩ | ⟨g, cap, h1, hB, hc, hm, ho⟩
  · exact ⟨none, 0, by rw [h1, h0], by omega, fun _ => h1, fun a e => by cases e⟩
  · exact ⟨_, cap, h1, hc, (fun e => by cases e), fun a e => by cases e; exact ⟨g, rfl, ho⟩⟩
theorem MatL.rd {w : World} {R B : Nat} {ad : Option Addr} {n cap : Nat} {M : List (List Int)} {vs : List Value} (h : MatL w R B (.slice ad n cap) M vs) : RdM w ad M := by
  intro i hi
  rcases Own.of_row h.row with ⟨_, h0, _⟩ | ⟨g, cap', h1, hB, _, _, ho⟩
  · omega
  · injection h1 with h1 _ _
    subst h1
    have hi' : i < vs.length := by rw [h.len]; exact hi
    have hc : w.cell? ⟨g, i, none⟩ = some (vs.getD i undef) := ho.cell? (by simp [List.getD, hi'])
    have he := h.each i hi
    obtain ⟨a, c, e, _⟩ := he
    have hr := h.each i hi
    rw [e] at hc hr
    exact ⟨g, 0, a, c, rfl, ho.lt, by rw [Nat.zero_add]; exact hc, hr.rd⟩
/-- One row alone. -/
theorem MatL.one (w : World) (R B : Nat) (u : Value) (xs : List Int) (hu : CellO w B u xs) (hR : R ≤ w.heap.size) : MatL (w.alloc (.cells #[u] 38)) R B (.slice (some ⟨w.heap.size, 0, none⟩) 1 1) [xs] [u] :=
  ⟨⟨rfl, Or.inr ⟨w.heap.size, 1, #[u], rfl, hR, heap_alloc_new w _, Nat.le_refl _, by unfold maxLen; omega, rfl, rfl⟩⟩, fun i hi => by
    obtain rfl : i = 0 := by simpa using hi
    exact hu.below ((Below.refl _ _).alloc (Nat.le_refl _) _)⟩
theorem MatL.cat {w w4 : World} {R R2 B : Nat} {v v2 v' : Value} {M M2 : List (List Int)} {vs us : List Value} (h : MatL w R B v M vs) (hu : MatL w R2 B v2 M2 us)
    (hown : w4.ownsRow R 38 1 v' (M.length + M2.length) (vs ++ us)) (hg : w.grownBy w4 v.ownBlock) : MatL w4 R B v' (M ++ M2) (vs ++ us) := by
  have hl := h.len
  refine ⟨row_congr hown (by simp) rfl, fun i hi => ?_⟩
  rw [List.length_append] at hi
  by_cases e : i < M.length
  · have e1 : (M ++ M2).getD i [] = M.getD i [] := by rw [List.getD_eq_getElem?_getD, List.getElem?_append_left e, ← List.getD_eq_getElem?_getD]
    have e2 : (vs ++ us).getD i undef = vs.getD i undef := by rw [List.getD_eq_getElem?_getD, List.getElem?_append_left (by omega), ← List.getD_eq_getElem?_getD]
    rw [e1, e2]
    have h3 := h.each i e
    exact h3.of_block fun q hq => hg.block q (h3.lt hq).2 fun e => h3.ne_row h.row hq e.symm
  · have e1 : (M ++ M2).getD i [] = M2.getD (i - M.length) [] := by rw [List.getD_eq_getElem?_getD, List.getElem?_append_right (by omega), ← List.getD_eq_getElem?_getD]
    have e2 : (vs ++ us).getD i undef = us.getD (i - M.length) undef := by rw [List.getD_eq_getElem?_getD, List.getElem?_append_right (by omega), hl, ← List.getD_eq_getElem?_getD]
    rw [e1, e2]
    have h3 := hu.each (i - M.length) (by omega)
    exact h3.of_block fun q hq => hg.block q (h3.lt hq).2 fun e => h3.ne_row h.row hq e.symm
theorem run_append_none {P : Program} (w : World) (t ty e : TypeId) (i : TypeInfo) (ht : P.underlying t = some (.slice e)) (hi : P.info? e = some i) (ad : Option Addr) (n cap : Nat) (hc : n ≤ cap) :
    (Builtin.append_ #[t, t] ty #[.slice ad n cap, .slice none 0 0]).run P w = .ok (.slice ad n cap) w := by
  cases ad <;> simp [Builtin.append_, run_underlying ht, sizeOf, typeInfo, hi, Builtin.lenOf, Builtin.firstCells, loadCells, storeCells, hc]
/-- The numbers of the row that append takes. -/
theorem MatL.run {w : World} {R R2 B : Nat} {v v2 : Value} {M M2 : List (List Int)} {vs us : List Value} (ty : TypeId) (h : MatL w R B v M vs) (hu : MatL w R2 B v2 M2 us) (hl : M.length ≤ 100000) (hl2 : M2.length ≤ 100000) (hR : R ≤ w.heap.size) :
    ∃ v' w', (Builtin.append_ #[23, 23] ty #[v, v2]).run Tryz.prog w = .ok v' w' ∧ MatL w' R B v' (M ++ M2) (vs ++ us) ∧ Below R w w' := by
  obtain ⟨iP, hiP, hzP, hsP, hbP⟩ := info_parts Tryz.infoM
  obtain ⟨ad, cap, rfl, hc, hn, _⟩ := h.shape
  obtain ⟨ad2, cap2, rfl, hc2, hn2, hs2⟩ := hu.shape
  cases ad2 with
  | none =>
    have e0 := hn2 rfl
    injection e0 with _ e1 e2
    have em : M2 = [] := List.length_eq_zero_iff.1 e1
    subst em
    have eu : us = [] := List.length_eq_zero_iff.1 (by rw [hu.len]; rfl)
    subst eu
    subst e2
    refine ⟨_, w, run_append_none w _ ty _ iP Tryz.underlying23 hiP ad M.length cap hc, ?_, Below.refl _ _⟩
    rw [List.append_nil, List.append_nil]
    exact h
  | some a2 =>
    obtain ⟨g, rfl, ho⟩ := hs2 a2 rfl
    obtain ⟨v', w', hr, h2, h3, _, _⟩ := run_append_own_at (P := Tryz.prog) w R 23 ty 38 iP _ 1 24 Tryz.underlying23 hiP hzP hsP hbP rfl (by omega) _ M.length vs h.row ⟨g, 0, none⟩ M2.length cap2 us (by rw [hu.len]; omega) (fun j z hz => by
      rw [addr_plain, Nat.zero_add]
      exact ho.cell? hz) (fun z hz => by
        obtain ⟨j, hj, e⟩ := List.getElem_of_mem hz
        have h5 := hu.each j (by rw [← hu.len]; exact hj)
        rw [List.getD_eq_getElem?_getD, List.getElem?_eq_getElem hj, Option.getD_some, e] at h5
        obtain ⟨_, _, rfl, _⟩ := h5
        rfl) (by unfold maxLen; omega) (by omega) hR
    exact ⟨v', w', hr, h.cat hu h2 h3, (Below.refl R w).grown h3 hR (fun q e => (h.row.lt q e).1)⟩
/-- append of rows in the list of a plain region. -/
theorem wpList_appL {w : World} {ops : Array Oper} {rest : List Oper} {o : Oper} {a : Act} {Q : Exit → Act → World → Prop} (hgd : o.guard = none) (s x : Operand)
    (ho : o.op = .call { callee := .builtin .append, args := #[s, x], argTypes := #[23, 23] })
    (R R2 B : Nat) (v v2 : Value) (M M2 : List (List Int)) (vs us : List Value) (N : Nat) (hN : M.length + M2.length = N) (hs : a.eval s = v) (hx : a.eval x = v2)
    (hm : MatL w R B v M vs) (hu : MatL w R2 B v2 M2 us) (hl : M.length ≤ 100000) (hl2 : M2.length ≤ 100000) (hR : R ≤ w.heap.size)
    (h : ∀ ad' cap' w', MatL w' R B (.slice ad' N cap') (M ++ M2) (vs ++ us) → Below R w w' → wpList Tryz.prog ops Q rest (a.put o.dst (.slice ad' N cap')) w') : wpList Tryz.prog ops Q (o :: rest) a w := by
  refine wpList_plain hgd fun _ hQ => ?_
  obtain ⟨v', w', hr, hmat, hbl⟩ := hm.run o.type hu hl hl2 hR
  obtain ⟨ad', cap', e, _⟩ := hmat.shape
  rw [List.length_append, hN] at e
  subst e
  unfold Oper.wp execOp
  simp only [ho, resolve, invoke, builtin, Sem.run_bind, Sem.run_pure, Result.andThen_ok, List.map_toArray, List.map_cons, List.map_nil, hs, hx, hr]
  exact hQ _ _ (h _ _ w' hmat hbl)

/-- append of nothing in a plain region. -/
theorem wpList_appNil {w : World} {ops : Array Oper} {rest : List Oper} {o : Oper} {a : Act} {Q : Exit → Act → World → Prop} (hgd : o.guard = none) (s x : Operand)
    (ho : o.op = .call { callee := .builtin .append, args := #[s, x], argTypes := #[38, 38] })
    (ad : Option Addr) (n cap c2 : Nat) (hs : a.eval s = .slice ad n cap) (hx : a.eval x = .slice none 0 c2) (hc : n ≤ cap)
    (h : wpList Tryz.prog ops Q rest (a.put o.dst (.slice ad n cap)) w) : wpList Tryz.prog ops Q (o :: rest) a w := by
  refine wpList_plain hgd fun _ hQ => ?_
  obtain ⟨iP, hiP, hzP, hsP, hbP⟩ := info_parts Tryz.infoI
  have hr : (Builtin.append_ #[38, 38] o.type #[.slice ad n cap, .slice none 0 c2]).run Tryz.prog w = .ok (.slice ad n cap) w := by
    cases ad <;> simp [Builtin.append_, run_underlying Tryz.underlying38, sizeOf, typeInfo, hiP, Builtin.lenOf, Builtin.firstCells, storeCells, hc]
  unfold Oper.wp execOp
  simp only [ho, resolve, invoke, builtin, Sem.run_bind, Sem.run_pure, Result.andThen_ok, List.map_toArray, List.map_cons, List.map_nil, hs, hx, hr]
  exact hQ _ _ h

set_option maxHeartbeats 800000 in
/-- a list's copy, the nil list's too. -/
theorem l1OwnZ_c (B : Nat) (ad : Option Addr) (cap : Nat) (l : List Int) (w : World) (hr : CellO w B (.slice ad l.length cap) l) (hl : l.length ≤ 100000) :
    Calls Tryz.prog 64 #[.slice ad l.length cap] w fun e w' => ∃ v', e = .returned v' ∧ RowI w' w.heap.size v' l ∧ Below w.heap.size w w' := by
  have HO := Lib.hid (rowI_new w w.heap.size w.heap.size (Nat.le_refl _) rfl)
  have hrd := hr.rd
  have HX := Lib.hid (hrd.below ((Below.refl _ _).alloc (Nat.le_refl _) (.cells #[] 3)))
  obtain ⟨ad', cap', e, _, h2⟩ := hr
  injection e with e1 _ e3
  subst e1
  clear hrd
  rcases h2 with ⟨rfl, rfl⟩ | ⟨g, off, ys, rfl, _⟩
  · go_enter Tryz.func64, Tryz.ntmps64
    go_wp2_with (at_builtin; refine wpList_appNil rfl _ _ rfl (some ⟨w.heap.size, 0, none⟩) 0 0 cap rfl rfl (Nat.le_refl _) ?_)
    go_ret
    exact ⟨_, rfl, HO.out, (Below.refl _ _).alloc (Nat.le_refl _) _⟩
  · go_enter Tryz.func64, Tryz.ntmps64
    go_wp2_with (at_builtin; refine wpList_appN rfl _ _ rfl w.heap.size _ _ _ _ [] l l.length (by simp) rfl rfl HO.out HX.out (by simp) hl (by simp) ?_; intro v5 wm hown hsh hbm hgr)
    rw [List.nil_append] at hown
    have HOW := Lib.hid hown; clear hown hgr hsh
    obtain ⟨av, cv, rfl, _⟩ := HOW.out.shape
    go_wp2_with fail
    go_ret
    exact ⟨_, rfl, HOW.out, ((Below.refl _ _).alloc (Nat.le_refl _) _).trans hbm⟩

theorem asl_len {n : Nat} {m : Nat → Nat → Int} (hn : n ≤ 6) : ∀ (f : Nat) (l : List Int), (asl n m f l).length ≤ 6 ^ f
  | 0, l => by unfold asl; split <;> simp
  | f + 1, l => by
    have h1 : 1 ≤ 6 ^ f := Nat.pow_pos (by omega)
    have hT : ∀ j, (aslT n m f l j).length ≤ j * 6 ^ f := by
      intro j
      induction j with
      | zero => simp [aslT]
      | succ j ih =>
        rw [aslT_succ, List.length_append, Nat.add_mul, Nat.one_mul]
        refine Nat.add_le_add ih ?_
        split
        · exact asl_len hn f _
        · simp
    unfold asl
    split
    · rw [List.length_singleton, Nat.pow_succ]; omega
    · have h2 := hT n
      have h3 : n * 6 ^ f ≤ 6 * 6 ^ f := Nat.mul_le_mul_right _ hn
      rw [Nat.pow_succ]
      have : (aslT n m f l n).length = ((List.range n).flatMap fun k : Nat => if (!decide (m l.length k = 1000000000) && !l.contains (k : Int)) = true then asl n m f (l ++ [(k : Int)]) else []).length := rfl
      omega
theorem aslT_len {n : Nat} {m : Nat → Nat → Int} (hn : n ≤ 6) (f : Nat) (l : List Int) : ∀ j, (aslT n m f l j).length ≤ j * 6 ^ f
  | 0 => by simp [aslT]
  | j + 1 => by
    rw [aslT_succ, List.length_append, Nat.add_mul, Nat.one_mul]
    refine Nat.add_le_add (aslT_len hn f l j) ?_
    split
    · exact asl_len hn f _
    · simp
theorem pow6 {f : Nat} (h : f ≤ 6) : 6 ^ f ≤ 46656 := Nat.pow_le_pow_right (by omega) h
end Go.Proofs.YtfgdhlnmndgjbaaGreatDoor
