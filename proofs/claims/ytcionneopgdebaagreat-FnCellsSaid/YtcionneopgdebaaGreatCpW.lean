/-
  Some texts of this proof in one: CpW CpX. Each part tells what it proves. By an AI agent.
-/
import Derived.Test.YtcionneopgdebaaGreatCpL
import Derived.Test.YtcionneopgdebaaGreatCeK
import Derived.Test.YtcionneopgdebaaGreatCeG
import Derived.Test.YtcionneopgdebaaGreatSkip

/-
  Rows of a list of lists copied into a new one: what holds whatever has come up. By an AI agent.
-/
namespace Go.Proofs.YtcionneopgdebaaGreat
open Go.RowKit

/-- Rows as append takes them. -/
structure SrcL (w : World) (B : Nat) (v : Value) (M : List (List Int)) (us : List Value) : Prop where
  sh : (v = .slice none 0 0 ∧ M = [] ∧ us = []) ∨ ∃ g o c, v = .slice (some ⟨g, o, none⟩) M.length c ∧ us.length = M.length ∧ ∀ j u, us[j]? = some u → w.cell? ⟨g, o + j, none⟩ = some u
  each : ∀ i, i < M.length → CellO w B (us.getD i undef) (M.getD i [])
theorem SrcL.below {w w' : World} {B : Nat} {v : Value} {M : List (List Int)} {us : List Value} (h : SrcL w B v M us) (hb : Below w.heap.size w w') : SrcL w' B v M us := by
  refine ⟨?_, fun i hi => (h.each i hi).below hb⟩
  rcases h.sh with h1 | ⟨g, o, c, h1, h2, h3⟩
  · exact Or.inl h1
  · exact Or.inr ⟨g, o, c, h1, h2, fun j u hu => bcell hb (cell_lt (h3 j u hu)) (h3 j u hu)⟩
theorem SrcL.of_mat {w : World} {R B : Nat} {v : Value} {M : List (List Int)} {vs : List Value} (h : MatL w R B v M vs) : SrcL w B v M vs := by
  refine ⟨?_, h.each⟩
  rcases Own.of_row h.row with ⟨h1, h0, h2⟩ | ⟨g, cap, h1, hB, hc, _, ho⟩
  · exact Or.inl ⟨h1, List.length_eq_zero_iff.1 h0, h2⟩
  · exact Or.inr ⟨g, 0, cap, h1, h.len, fun j u hu => by rw [Nat.zero_add]; exact ho.cell? hu⟩
set_option maxRecDepth 100000 in
/-- the first rows. -/
theorem cutL_head {w : World} {R B : Nat} {ad : Option Addr} {n cap k : Nat} {M : List (List Int)} {vs : List Value} (h : MatL w R B (.slice ad n cap) M vs) (hn : M.length = n) (hk : k ≤ n) :
    (∀ w' : World, (Instr.slice 26 (.slice ad n cap) none (some (.int .i64 (k : Int))) none).run Tryz.prog w' = .ok (.slice ad k cap) w') ∧ SrcL w B (.slice ad k cap) (M.take k) (vs.take k) := by
  have hlen := h.len
  have hel : ∀ i, i < (M.take k).length → CellO w B ((vs.take k).getD i undef) ((M.take k).getD i []) := fun i hi => by
    rw [List.length_take] at hi
    have h1 : (vs.take k).getD i undef = vs.getD i undef := by rw [List.getD_eq_getElem?_getD, List.getElem?_take_of_lt (by omega), ← List.getD_eq_getElem?_getD]
    have h2 : (M.take k).getD i [] = M.getD i [] := by rw [List.getD_eq_getElem?_getD, List.getElem?_take_of_lt (by omega), ← List.getD_eq_getElem?_getD]
    rw [h1, h2]
    exact h.each i (by omega)
  rcases Own.of_row h.row with ⟨h1, h0, h2⟩ | ⟨g, cap', h1, hB, hc, _, ho⟩
  · injection h1 with h1 h3 h4
    subst h1; subst h3; subst h4
    obtain rfl : k = 0 := by omega
    refine ⟨fun w' => ?_, ⟨Or.inl ⟨rfl, rfl, rfl⟩, hel⟩⟩
    rw [run_slice_h w' _ _ _ _ Tryz.underlying26 _ _ (by omega) (by omega)]
    simp [go_sem]
  · injection h1 with h1 h3 h4
    subst h1; subst h3; subst h4
    refine ⟨fun w' => ?_, ⟨Or.inr ⟨g, 0, cap, by rw [List.length_take, Nat.min_eq_left (by omega)], by rw [List.length_take, List.length_take]; omega, fun j u hu => ?_⟩, hel⟩⟩
    · rw [run_slice_h w' _ _ _ _ Tryz.underlying26 _ _ (by omega) (by omega)]
      simp [go_sem]
    · rw [Nat.zero_add]
      rw [List.getElem?_take] at hu
      split at hu
      · exact ho.cell? hu
      · cases hu
set_option maxRecDepth 100000 in
/-- the rows behind. -/
theorem cutL_tail {w : World} {R B : Nat} {ad : Option Addr} {n cap k : Nat} {M : List (List Int)} {vs : List Value} (h : MatL w R B (.slice ad n cap) M vs) (hn : M.length = n) (hk : k ≤ n) :
    ∃ v2, (∀ w' : World, (Instr.slice 26 (.slice ad n cap) (some (.int .i64 (k : Int))) none none).run Tryz.prog w' = .ok v2 w') ∧ SrcL w B v2 (M.drop k) (vs.drop k) ∧ ∃ ad2 cap2, v2 = .slice ad2 (n - k) cap2 := by
  have hlen := h.len
  have hel : ∀ i, i < (M.drop k).length → CellO w B ((vs.drop k).getD i undef) ((M.drop k).getD i []) := fun i hi => by
    rw [List.length_drop] at hi
    have h1 : (vs.drop k).getD i undef = vs.getD (k + i) undef := by rw [List.getD_eq_getElem?_getD, List.getElem?_drop, ← List.getD_eq_getElem?_getD]
    have h2 : (M.drop k).getD i [] = M.getD (k + i) [] := by rw [List.getD_eq_getElem?_getD, List.getElem?_drop, ← List.getD_eq_getElem?_getD]
    rw [h1, h2]
    exact h.each (k + i) (by omega)
  rcases Own.of_row h.row with ⟨h1, h0, h2⟩ | ⟨g, cap', h1, hB, hc, _, ho⟩
  · injection h1 with h1 h3 h4
    subst h1; subst h3; subst h4
    obtain rfl : k = 0 := by omega
    have hM : M = [] := List.length_eq_zero_iff.1 hn
    refine ⟨.slice none 0 0, fun w' => ?_, ⟨Or.inl ⟨rfl, by rw [hM]; rfl, by rw [h2]; rfl⟩, hel⟩, none, 0, rfl⟩
    rw [run_slice_l w' _ _ _ _ Tryz.underlying26 _ _ (by omega) (by omega)]
    simp [go_sem]
  · injection h1 with h1 h3 h4
    subst h1; subst h3; subst h4
    have hcells : ∀ j u, (vs.drop k)[j]? = some u → w.cell? ⟨g, k + j, none⟩ = some u := fun j u hu => by
      rw [List.getElem?_drop] at hu
      exact ho.cell? hu
    by_cases hc1 : cap = k
    · have hkn : k = M.length := by omega
      have hnil : M.drop k = [] := List.drop_eq_nil_of_le (by omega)
      have hnil2 : vs.drop k = [] := List.drop_eq_nil_of_le (by omega)
      refine ⟨.slice (some ⟨g, 0, none⟩) (M.length - k) 0, fun w' => ?_, ⟨Or.inr ⟨g, 0, 0, by rw [List.length_drop], by rw [hnil, hnil2]; rfl, fun j u hu => by rw [hnil2] at hu; cases hu⟩, hel⟩, _, _, rfl⟩
      rw [run_slice_l w' _ _ _ _ Tryz.underlying26 _ _ (by omega) (by omega)]
      simp [go_sem, hc1]
    · refine ⟨.slice (some ⟨g, k, none⟩) (M.length - k) (cap - k), fun w' => ?_, ⟨Or.inr ⟨g, k, cap - k, by rw [List.length_drop], by rw [List.length_drop, List.length_drop]; omega, hcells⟩, hel⟩, _, _, rfl⟩
      rw [run_slice_l w' _ _ _ _ Tryz.underlying26 _ _ (by omega) (by omega)]
      simp [go_sem, hc1]
theorem MatL.runS {w : World} {R B : Nat} {v v2 : Value} {M M2 : List (List Int)} {vs us : List Value} (ty : TypeId) (h : MatL w R B v M vs) (hu : SrcL w B v2 M2 us) (hl : M.length ≤ 100000) (hl2 : M2.length ≤ 100000) (hR : R ≤ w.heap.size) :
    ∃ v' w', (Builtin.append_ #[26, 26] ty #[v, v2]).run Tryz.prog w = .ok v' w' ∧ MatL w' R B v' (M ++ M2) (vs ++ us) ∧ w.grownBy w' v.ownBlock ∧ Below R w w' ∧ (v'.ownBlock = v.ownBlock ∨ v'.ownBlock = some w.heap.size) := by
  obtain ⟨iP, hiP, hzP, hsP, hbP⟩ := info_parts Tryz.infoM
  obtain ⟨ad, cap, rfl, hc, hn, _⟩ := h.shape
  have hlen := h.len
  rcases hu.sh with ⟨rfl, rfl, rfl⟩ | ⟨g, o, c, rfl, hul, hcell⟩
  · refine ⟨_, w, run_append_none w _ ty _ iP Tryz.underlying26 hiP ad M.length cap hc, ?_, ⟨rfl, rfl, rfl, Nat.le_refl _, fun _ _ _ => rfl⟩, Below.refl _ _, Or.inl rfl⟩
    rw [List.append_nil, List.append_nil]
    exact h
  · obtain ⟨v', w', hr, h2, h3, _, h9⟩ := run_append_own_at (P := Tryz.prog) w R 26 ty 29 iP _ 1 24 Tryz.underlying26 hiP hzP hsP hbP rfl (by omega) _ M.length vs h.row ⟨g, o, none⟩ M2.length c us (by rw [hul]; omega) (fun j z hz => by
      rw [addr_plain]
      exact hcell j z hz) (fun z hz => by
        obtain ⟨j, hj, e⟩ := List.getElem_of_mem hz
        have h5 := hu.each j (by omega)
        rw [List.getD_eq_getElem?_getD, List.getElem?_eq_getElem hj, Option.getD_some, e] at h5
        obtain ⟨_, _, rfl, _⟩ := h5
        rfl) (by unfold maxLen; omega) (by omega) hR
    refine ⟨v', w', hr, ⟨row_congr h2 (by simp) rfl, fun i hi => ?_⟩, h3, (Below.refl R w).grown h3 hR (fun q e => (h.row.lt q e).1), h9⟩
    rw [List.length_append] at hi
    by_cases e : i < M.length
    · have e1 : (M ++ M2).getD i [] = M.getD i [] := by rw [List.getD_eq_getElem?_getD, List.getElem?_append_left e, ← List.getD_eq_getElem?_getD]
      have e2 : (vs ++ us).getD i undef = vs.getD i undef := by rw [List.getD_eq_getElem?_getD, List.getElem?_append_left (by omega), ← List.getD_eq_getElem?_getD]
      rw [e1, e2]
      have h4 := h.each i e
      exact h4.of_block fun q hq => h3.block q (h4.lt hq).2 fun e => h4.ne_row h.row hq e.symm
    · have e1 : (M ++ M2).getD i [] = M2.getD (i - M.length) [] := by rw [List.getD_eq_getElem?_getD, List.getElem?_append_right (by omega), ← List.getD_eq_getElem?_getD]
      have e2 : (vs ++ us).getD i undef = us.getD (i - M.length) undef := by rw [List.getD_eq_getElem?_getD, List.getElem?_append_right (by omega), hlen, ← List.getD_eq_getElem?_getD]
      rw [e1, e2]
      have h4 := hu.each (i - M.length) (by omega)
      exact h4.of_block fun q hq => h3.block q (h4.lt hq).2 fun e => h4.ne_row h.row hq e.symm

theorem MatL.grown {w w' : World} {R R2 B n : Nat} {v u : Value} {M : List (List Int)} {vs us : List Value} (h : MatL w R B v M vs) (hr : w.ownsRow R2 29 1 u n us) (hg : w.grownBy w' u.ownBlock) (hne : v.ownBlock ≠ u.ownBlock) : MatL w' R B v M vs :=
  ⟨h.row.kept hg (Or.inr hne), fun i hi => (h.each i hi).of_block fun q hq => hg.block q ((h.each i hi).lt hq).2 (fun e => (h.each i hi).ne_row hr hq e.symm)⟩
/-- Three appends into a new list: whatever has come up. -/
structure PuI (W : World) (B : Nat) (v1 v2 xv : Value) (M1 M2 : List (List Int)) (xs : List Int) (u1 u2 : List Value) (l0 l4 l6 l7 l11 : Bool) (w : World) (s33 s37 s39 s40 s44 : Value) : Prop where
  bel : Below W.heap.size W w
  o4 : l4 = true → l0 = true
  o7 : l7 = true → l4 = true ∧ l6 = true
  o11 : l11 = true → l7 = true
  a0 : l0 = true → ∃ T, s33 = .slice (some ⟨T, 0, none⟩) 0 0 ∧ W.heap.size ≤ T ∧ T < w.heap.size ∧ (l4 = false → MatL w W.heap.size B s33 [] [])
  a6 : l6 = true → ∃ T, s39 = .slice (some ⟨T, 0, none⟩) 1 1 ∧ W.heap.size ≤ T ∧ T < w.heap.size ∧ (l7 = false → MatL w W.heap.size B s39 [xs] [xv])
  d06 : l0 = true → l6 = true → s33.ownBlock ≠ s39.ownBlock
  d46 : l4 = true → l6 = true → l7 = false → s37.ownBlock ≠ s39.ownBlock
  a4 : l4 = true → l7 = false → MatL w W.heap.size B s37 M1 u1
  a7 : l7 = true → l11 = false → MatL w W.heap.size B s40 (M1 ++ [xs]) (u1 ++ [xv])
  a11 : l11 = true → MatL w W.heap.size B s44 (M1 ++ [xs] ++ M2) (u1 ++ [xv] ++ u2)
section
variable {W : World} {B : Nat} {v1 v2 xv : Value} {M1 M2 : List (List Int)} {xs : List Int} {u1 u2 : List Value} {l0 l4 l6 l7 l11 : Bool} {w : World} {s33 s37 s39 s40 s44 : Value}
theorem PuI.start (a b c d e : Value) : PuI W B v1 v2 xv M1 M2 xs u1 u2 false false false false false W a b c d e :=
  ⟨Below.refl _ _, fun e => (by cases e), fun e => (by cases e), fun e => (by cases e), fun e => (by cases e), fun e => (by cases e), fun e => (by cases e), fun e => (by cases e), fun e => (by cases e), fun e => (by cases e), fun e => (by cases e)⟩
theorem PuI.empty (h : PuI W B v1 v2 xv M1 M2 xs u1 u2 false l4 l6 l7 l11 w s33 s37 s39 s40 s44) : PuI W B v1 v2 xv M1 M2 xs u1 u2 true l4 l6 l7 l11 (w.alloc (.cells #[] 29)) (.slice (some ⟨w.heap.size, 0, none⟩) 0 0) s37 s39 s40 s44 := by
  have h4 : l4 = false := by cases hc : l4; rfl; have := h.o4 hc; cases this
  have h7 : l7 = false := by cases hc : l7; rfl; have := (h.o7 hc).1; rw [h4] at this; cases this
  have h11 : l11 = false := by cases hc : l11; rfl; have := h.o11 hc; rw [h7] at this; cases this
  subst h4; subst h7; subst h11
  have hb : Below w.heap.size w (w.alloc (.cells #[] 29)) := bal_alloc (Below.refl _ _)
  have hs := h.bel.size
  refine ⟨ball h.bel hb, fun e => (by cases e), fun e => (by cases e), fun e => (by cases e), fun _ => ⟨_, rfl, hs, by simp, fun _ => ⟨World.ownsRow_made w #[] 0 hs (by decide) rfl, fun i hi => by simp at hi⟩⟩, fun e => ?_, fun _ e => ?_, fun e => (by cases e), fun e => (by cases e), fun e => (by cases e), fun e => (by cases e)⟩
  · obtain ⟨T, e1, e2, e3, e4⟩ := h.a6 e
    exact ⟨T, e1, e2, Nat.lt_of_lt_of_le e3 hb.size, fun q => (e4 q).below hb⟩
  · obtain ⟨T, e1, e2, e3, _⟩ := h.a6 e
    rw [e1]
    simp only [Value.ownBlock, ne_eq, Option.some.injEq]
    omega
theorem PuI.one (hx : CellO W B xv xs) (h : PuI W B v1 v2 xv M1 M2 xs u1 u2 l0 l4 false l7 l11 w s33 s37 s39 s40 s44) : PuI W B v1 v2 xv M1 M2 xs u1 u2 l0 l4 true l7 l11 (w.alloc (.cells #[xv] 29)) s33 s37 (.slice (some ⟨w.heap.size, 0, none⟩) 1 1) s40 s44 := by
  have h7 : l7 = false := by cases hc : l7; rfl; have := (h.o7 hc).2; cases this
  have h11 : l11 = false := by cases hc : l11; rfl; have := h.o11 hc; rw [h7] at this; cases this
  subst h7; subst h11
  have hb : Below w.heap.size w (w.alloc (.cells #[xv] 29)) := bal_alloc (Below.refl _ _)
  have hs := h.bel.size
  refine ⟨ball h.bel hb, h.o4, fun e => (by cases e), fun e => (by cases e), fun e => ?_, fun _ => ⟨_, rfl, hs, by simp, fun _ => MatL.one w W.heap.size B xv xs (hx.below h.bel) hs⟩, fun e _ => ?_, fun e _ _ => ?_, fun e _ => (h.a4 e rfl).below hb, fun e => (by cases e), fun e => (by cases e)⟩
  · obtain ⟨T, e1, e2, e3, e4⟩ := h.a0 e
    exact ⟨T, e1, e2, Nat.lt_of_lt_of_le e3 hb.size, fun q => (e4 q).below hb⟩
  · obtain ⟨T, e1, e2, e3, _⟩ := h.a0 e
    rw [e1]
    simp only [Value.ownBlock, ne_eq, Option.some.injEq]
    omega
  · intro q
    have := ((h.a4 e rfl).row.lt w.heap.size q).2
    omega
theorem PuI.app1 (h1 : SrcL W B v1 M1 u1) (hl : M1.length ≤ 100000) (h : PuI W B v1 v2 xv M1 M2 xs u1 u2 true false l6 l7 l11 w s33 s37 s39 s40 s44) (ty : TypeId) :
    ∃ v' w', (Builtin.append_ #[26, 26] ty #[s33, v1]).run Tryz.prog w = .ok v' w' ∧ PuI W B v1 v2 xv M1 M2 xs u1 u2 true true l6 l7 l11 w' s33 v' s39 s40 s44 := by
  have h7 : l7 = false := by cases hc : l7; rfl; have := (h.o7 hc).1; cases this
  have h11 : l11 = false := by cases hc : l11; rfl; have := h.o11 hc; rw [h7] at this; cases this
  subst h7; subst h11
  obtain ⟨T, e1, e2, e3, e4⟩ := h.a0 rfl
  have hm := e4 rfl
  obtain ⟨v', w', hr, hm2, hg, hb, hloc⟩ := hm.runS ty (h1.below h.bel) (by simp) hl h.bel.size
  rw [List.nil_append, List.nil_append] at hm2
  refine ⟨v', w', hr, h.bel.trans hb, fun _ => rfl, fun e => (by cases e), fun e => (by cases e), fun _ => ⟨T, e1, e2, Nat.lt_of_lt_of_le e3 hg.size, fun e => (by cases e)⟩, fun e => ?_, fun _ e => h.d06 rfl e, fun _ e _ => ?_, fun _ _ => hm2, fun e => (by cases e), fun e => (by cases e)⟩
  · obtain ⟨T2, f1, f2, f3, f4⟩ := h.a6 e
    exact ⟨T2, f1, f2, Nat.lt_of_lt_of_le f3 hg.size, fun q => (f4 q).grown hm.row hg (fun e5 => h.d06 rfl e e5.symm)⟩
  · rcases hloc with f | f
    · rw [f]; exact h.d06 rfl e
    · obtain ⟨T2, f1, f2, f3, f4⟩ := h.a6 e
      rw [f, f1]
      simp only [Value.ownBlock, ne_eq, Option.some.injEq]
      omega
theorem PuI.app2 (hl : M1.length ≤ 100000) (h : PuI W B v1 v2 xv M1 M2 xs u1 u2 true true true false l11 w s33 s37 s39 s40 s44) (ty : TypeId) :
    ∃ v' w', (Builtin.append_ #[26, 26] ty #[s37, s39]).run Tryz.prog w = .ok v' w' ∧ PuI W B v1 v2 xv M1 M2 xs u1 u2 true true true true l11 w' s33 s37 s39 v' s44 := by
  have h11 : l11 = false := by cases hc : l11; rfl; have := h.o11 hc; cases this
  subst h11
  obtain ⟨T, e1, e2, e3, _⟩ := h.a0 rfl
  obtain ⟨T2, f1, f2, f3, f4⟩ := h.a6 rfl
  have hm := h.a4 rfl rfl
  obtain ⟨v', w', hr, hm2, hg, hb, _⟩ := hm.runS ty (SrcL.of_mat (f4 rfl)) hl (by simp) h.bel.size
  exact ⟨v', w', hr, h.bel.trans hb, fun _ => rfl, fun _ => ⟨rfl, rfl⟩, fun e => (by cases e), fun _ => ⟨T, e1, e2, Nat.lt_of_lt_of_le e3 hg.size, fun e => (by cases e)⟩, fun _ => ⟨T2, f1, f2, Nat.lt_of_lt_of_le f3 hg.size, fun e => (by cases e)⟩, fun _ _ => h.d06 rfl rfl, fun _ _ e => (by cases e), fun _ e => (by cases e), fun _ _ => hm2, fun e => (by cases e)⟩
theorem PuI.app3 (h2 : SrcL W B v2 M2 u2) (hl : M1.length ≤ 50000) (hl2 : M2.length ≤ 100000) (h : PuI W B v1 v2 xv M1 M2 xs u1 u2 true true true true false w s33 s37 s39 s40 s44) (ty : TypeId) :
    ∃ v' w', (Builtin.append_ #[26, 26] ty #[s40, v2]).run Tryz.prog w = .ok v' w' ∧ PuI W B v1 v2 xv M1 M2 xs u1 u2 true true true true true w' s33 s37 s39 s40 v' := by
  obtain ⟨T, e1, e2, e3, _⟩ := h.a0 rfl
  obtain ⟨T2, f1, f2, f3, _⟩ := h.a6 rfl
  have hm := h.a7 rfl rfl
  obtain ⟨v', w', hr, hm2, hg, hb, _⟩ := hm.runS ty (h2.below h.bel) (by rw [List.length_append, List.length_singleton]; omega) hl2 h.bel.size
  exact ⟨v', w', hr, h.bel.trans hb, fun _ => rfl, fun _ => ⟨rfl, rfl⟩, fun _ => rfl, fun _ => ⟨T, e1, e2, Nat.lt_of_lt_of_le e3 hg.size, fun e => (by cases e)⟩, fun _ => ⟨T2, f1, f2, Nat.lt_of_lt_of_le f3 hg.size, fun e => (by cases e)⟩, fun _ _ => h.d06 rfl rfl, fun _ _ e => (by cases e), fun _ e => (by cases e), fun _ e => (by cases e), fun _ => hm2⟩
end
/-- what has come up that only reads. -/
structure PuS (k : Nat) (lv xv v1 v2 : Value) (L : Nat → Bool) (s34 s35 s36 s38 s41 s42 s43 s44 s4 : Value) : Prop where
  p1 : L 1 = true → s34 = lv
  p2 : L 2 = true → s35 = .int .i64 (k : Int)
  p3 : L 3 = true → s36 = v1
  p5 : L 5 = true → s38 = xv
  p8 : L 8 = true → s41 = lv
  p9 : L 9 = true → s42 = .int .i64 (k : Int)
  p10 : L 10 = true → s43 = v2
  p12 : L 12 = true → s4 = s44
  q12 : L 12 = true → L 11 = true
end Go.Proofs.YtcionneopgdebaaGreat

/-
  A list put in its place among others: the reference's cePut. By an AI agent.
-/
namespace Go.Proofs.YtcionneopgdebaaGreat
open Go.RowKit
open LstSort (ltL insL)

theorem step_runLL {w w' : World} {ops : Array Oper} {o : Oper} {a : Act} {K : Act → World → Prop} {Q : Exit → Act → World → Prop} {E : Prop} (hgd : o.guard = none) (s x : Operand)
    (ho : o.op = .call { callee := .builtin .append, args := #[s, x], argTypes := #[26, 26] }) (v X v' : Value) (hs : a.eval s = v) (hx : a.eval x = X)
    (hr : (Builtin.append_ #[26, 26] o.type #[v, X]).run Tryz.prog w = .ok v' w') (h : K (a.put o.dst v') w') : if Region.wanted o (yielded ops a.tmps) = true then Oper.wp Tryz.prog o a w K Q else E := by
  have hw : Region.wanted o (yielded ops a.tmps) = true := by simp [Region.wanted, hgd]
  rw [if_pos hw]
  unfold Oper.wp execOp
  simp only [ho, resolve, invoke, builtin, Sem.run_bind, Sem.run_pure, Result.andThen_ok, List.map_toArray, List.map_cons, List.map_nil, hs, hx, hr]
  exact h
/-- What cePut gives. -/
def PutR (R : Nat) (M : List (List Int)) (w : World) (e : Ending) (w' : World) : Prop := ∃ ad cap vs, e = .returned (.slice ad M.length cap) ∧ MatL w' R R (.slice ad M.length cap) M vs ∧ Below w.heap.size w w'
set_option maxHeartbeats 3200000 in
set_option maxRecDepth 100000 in
theorem cePut_c (R : Nat) (ad : Option Addr) (cap : Nat) (M : List (List Int)) (vs : List Value) (adx : Option Addr) (capx : Nat) (xs : List Int) (w : World) (hM : MatL w R R (.slice ad M.length cap) M vs) (hx : CellO w R (.slice adx xs.length capx) xs) (hR : R ≤ w.heap.size) (hl : M.length ≤ 50000) (hxl : xs.length ≤ 100000) (hrl : ∀ r ∈ M, r.length ≤ 100000) :
    Calls Tryz.prog 54 #[.slice ad M.length cap, .slice adx xs.length capx] w (PutR R (insL xs M) w) := by
  have HM := Lib.hid hM; have HX := Lib.hid hx
  have hxr := hx.rd
  have HBF := Lib.hid (fun k (hk : k < M.length) a c (h : RdI w a (M.getD k [])) => ceBefore_c a adx c capx (M.getD k []) xs w h hxr (hrl _ (by rw [List.getD_eq_getElem?_getD, List.getElem?_eq_getElem hk, Option.getD_some]; exact List.getElem_mem hk)) hxl)
  have HSA := Lib.hid (fun k (hk : k < M.length) a c (h : RdI w a (M.getD k [])) => l1Same_c a c (M.getD k []) adx capx xs w (by have := hrl (M.getD k []) (by rw [List.getD_eq_getElem?_getD, List.getElem?_eq_getElem hk, Option.getD_some]; exact List.getElem_mem hk); omega) h hxr)
  have HAT := Lib.hid (fun k (h1 : k ≤ M.length) (h2 : ∀ i, i < k → ltL (M.getD i []) xs = true) (h3 : k < M.length → ltL (M.getD k []) xs = false) => LstSort.insL_at (p := xs) h1 h2 h3)
  have HRD := Lib.hid (fun k (hk : k < M.length) => hM.rd k hk)
  obtain ⟨RES, hRES⟩ : ∃ z, insL xs M = z := ⟨_, rfl⟩
  simp only [hRES] at HAT
  rw [hRES]
  obtain ⟨m, hm⟩ : ∃ m, xs.length = m := ⟨_, rfl⟩
  rw [hm] at HX hxl
  simp only [hm] at HBF HSA
  obtain ⟨n, hn⟩ : ∃ n, M.length = n := ⟨_, rfl⟩
  rw [hn] at HM HBF HSA HAT HRD hl ⊢
  rw [hm]
  have HN := Lib.hid hn
  clear hM hx hxr hrl hRES hm hn
  go_enter Tryz.func54, Tryz.ntmps54
  go_wp2_with fail
  go_loopw [5] (fun i wr => ∃ k : Nat, k ≤ n ∧ i = .int .i64 k ∧ (∀ j, j < k → ltL (M.getD j []) xs = true) ∧ w = wr) (fun i _ => n - (intOf i).toNat)
  case atStart => exact ⟨0, Nat.zero_le _, rfl, fun j hj => by omega, rfl⟩
  case round =>
    obtain ⟨k, hk, rfl, hlow, rfl⟩ := hrel
    have HLOW := Lib.hid hlow; clear hlow
    by_cases hlt : k < n
    case neg =>
      obtain rfl : n = k := by omega
      have HFZ := Lib.hid (show RES = M.take n ++ xs :: M.drop n from by rw [HAT.out n (Nat.le_refl _) HLOW.out (fun h => absurd h (by omega)), if_neg (fun g => by have := g.1; omega)])
      go_upto_region 6 with fail
      have HWB := Lib.hid (show Below w.heap.size w w.drew from (Below.refl _ _).drew)
      have HMW := Lib.hid (HM.out.below HWB.out)
      have HXW := Lib.hid (HX.out.below HWB.out)
      obtain ⟨HRH, hsh⟩ := cutL_head HMW.out HN.out (show n ≤ n by omega)
      obtain ⟨v2, HRT, hst, ad2, cap2, hv2⟩ := cutL_tail HMW.out HN.out (show n ≤ n by omega)
      subst hv2
      obtain ⟨N2, hN2⟩ : ∃ z, n - n = z := ⟨_, rfl⟩
      rw [hN2] at hst
      simp only [hN2] at HRT
      have HSH := Lib.hid hsh; have HST := Lib.hid hst
      have HTL := Lib.hid (show (M.take n).length ≤ 100000 from by rw [List.length_take]; omega)
      have HTS := Lib.hid (show (M.take n).length ≤ 50000 from by rw [List.length_take]; omega)
      have HTD := Lib.hid (show (M.drop n).length ≤ 100000 from by rw [List.length_drop, HN.out]; omega)
      have HWS := Lib.hid (show R ≤ w.drew.heap.size from by have := HWB.out.size; omega)
      clear hsh hst hN2 HBF HSA HAT HRD HM HX
      refine wp_region_inv (fun L ac w' => ∃ s4 s33 s34 s35 s36 s37 s38 s39 s40 s41 s42 s43 s44 : Value, ac = { tmps := #[.slice ad n cap, .slice adx m capx, undef, undef, s4, .int .i64 n, .int .i64 n, .slice ad n cap, .int .i64 n, .bool false, .bool false, undef, undef, undef, undef, undef, undef, .bool false, u18, u19, .int .i64 n, .slice ad n cap, .int .i64 n, .bool false, .bool false, undef, undef, undef, undef, undef, undef, .bool false, undef, s33, s34, s35, s36, s37, s38, s39, s40, s41, s42, s43, s44], defers := [] } ∧ PuS n (.slice (ad) n cap) (.slice adx m capx) (.slice (ad) n cap) (.slice ad2 N2 cap2) L s34 s35 s36 s38 s41 s42 s43 s44 s4 ∧ PuI w.drew R (.slice (ad) n cap) (.slice ad2 N2 cap2) (.slice adx m capx) (M.take n) (M.drop n) xs (vs.take n) (vs.drop n) (L 0) (L 4) (L 6) (L 7) (L 11) w' s33 s37 s39 s40 s44) (by kernel_rfl) (by kernel_rfl) ?_ ?_ ?_
      · exact ⟨_, _, _, _, _, _, _, _, _, _, _, _, _, rfl, ⟨(fun e => by cases e), (fun e => by cases e), (fun e => by cases e), (fun e => by cases e), (fun e => by cases e), (fun e => by cases e), (fun e => by cases e), (fun e => by cases e), (fun e => by cases e)⟩, PuI.start _ _ _ _ _⟩
      · rintro L ac w' ⟨s4, s33, s34, s35, s36, s37, s38, s39, s40, s41, s42, s43, s44, rfl, HS, HE⟩ hL
        have HREL := Lib.hid (show PuI w.drew R (.slice (ad) n cap) (.slice ad2 N2 cap2) (.slice adx m capx) (M.take n) (M.drop n) xs (vs.take n) (vs.drop n) true true true true true w' s33 s37 s39 s40 s44 from by have h := HE; rw [hL 0 (by decide), hL 4 (by decide), hL 6 (by decide), hL 7 (by decide), hL 11 (by decide)] at h; exact h)
        obtain rfl := HS.p12 (hL 12 (by decide))
        clear HS HE hL HRH HRT
        have hml := (HREL.out.a11 rfl).mono (R' := R) (B' := R) (by have := HWS.out; omega) (Nat.le_refl _)
        rw [List.append_assoc, List.singleton_append, ← HFZ.out] at hml
        obtain ⟨ad9, cap9, rfl, _⟩ := hml.shape
        obtain ⟨N9, hN9⟩ : ∃ z, RES.length = z := ⟨_, rfl⟩
        have HML := Lib.hid hml; have HN9 := Lib.hid hN9
        have HBF := Lib.hid (show Below w.heap.size w w' from HWB.out.trans (HREL.out.bel.mono HWB.out.size))
        rw [hN9]
        clear hml hN9 HREL
        go_wp2_with fail
        go_ret
        exact ⟨ad9, cap9, _, by rw [HN9.out]; rfl, HML.out, HBF.out⟩
      · rintro i L ac w' ⟨s4, s33, s34, s35, s36, s37, s38, s39, s40, s41, s42, s43, s44, rfl, HS, HE⟩ hi hL hw
        have hi : i < 13 := hi
        have HSS := Lib.hid HS; have HEE := Lib.hid HE; have HWt := Lib.hid hw
        clear HS HE hw
        rcases (show i = 0 ∨ i = 1 ∨ i = 2 ∨ i = 3 ∨ i = 4 ∨ i = 5 ∨ i = 6 ∨ i = 7 ∨ i = 8 ∨ i = 9 ∨ i = 10 ∨ i = 11 ∨ i = 12 by omega) with rfl | rfl | rfl | rfl | rfl | rfl | rfl | rfl | rfl | rfl | rfl | rfl | rfl
        · refine' wpOp_step (o := ?oPa0) ?hoPa0 (fun K hK => ?stPa0)
          case hoPa0 => rfl
          case stPa0 =>
            have HK := Lib.hid hK; clear hK
            have HNX := Lib.hid (PuI.empty (show PuI w.drew R (.slice (ad) n cap) (.slice ad2 N2 cap2) (.slice adx m capx) (M.take n) (M.drop n) xs (vs.take n) (vs.drop n) false (L 4) (L 6) (L 7) (L 11) w' s33 s37 s39 s40 s44 from by have h := HEE.out; rw [hL] at h; exact h))
            go_simp
            refine HK.out _ _ ⟨_, _, _, _, _, _, _, _, _, _, _, _, _, rfl, ?_, ?_⟩
            · have h := HSS.out; exact ⟨(fun e => h.p1 e), (fun e => h.p2 e), (fun e => h.p3 e), (fun e => h.p5 e), (fun e => h.p8 e), (fun e => h.p9 e), (fun e => h.p10 e), (fun e => h.p12 e), (fun e => h.q12 e)⟩
            · exact HNX.out
        · refine' wpOp_step (o := ?oPa1) ?hoPa1 (fun K hK => ?stPa1)
          case hoPa1 => rfl
          case stPa1 =>
            have HK := Lib.hid hK; clear hK
            go_simp
            refine HK.out _ _ ⟨_, _, _, _, _, _, _, _, _, _, _, _, _, rfl, ?_, ?_⟩
            · have h := HSS.out; exact ⟨(fun _ => rfl), (fun e => h.p2 e), (fun e => h.p3 e), (fun e => h.p5 e), (fun e => h.p8 e), (fun e => h.p9 e), (fun e => h.p10 e), (fun e => h.p12 e), (fun e => h.q12 e)⟩
            · exact HEE.out
        · refine' wpOp_step (o := ?oPa2) ?hoPa2 (fun K hK => ?stPa2)
          case hoPa2 => rfl
          case stPa2 =>
            have HK := Lib.hid hK; clear hK
            go_simp
            refine HK.out _ _ ⟨_, _, _, _, _, _, _, _, _, _, _, _, _, rfl, ?_, ?_⟩
            · have h := HSS.out; exact ⟨(fun e => h.p1 e), (fun _ => rfl), (fun e => h.p3 e), (fun e => h.p5 e), (fun e => h.p8 e), (fun e => h.p9 e), (fun e => h.p10 e), (fun e => h.p12 e), (fun e => h.q12 e)⟩
            · exact HEE.out
        · refine' wpOp_step (o := ?oPa3) ?hoPa3 (fun K hK => ?stPa3)
          case hoPa3 => rfl
          case stPa3 =>
            have HK := Lib.hid hK; clear hK
            obtain rfl := HSS.out.p1 (HWt.out 1 (by kernel_rfl))
            obtain rfl := HSS.out.p2 (HWt.out 2 (by kernel_rfl))
            have hq := HRH w'
            go_simp
            refine HK.out _ _ ⟨_, _, _, _, _, _, _, _, _, _, _, _, _, rfl, ?_, ?_⟩
            · have h := HSS.out; exact ⟨(fun e => h.p1 e), (fun e => h.p2 e), (fun _ => rfl), (fun e => h.p5 e), (fun e => h.p8 e), (fun e => h.p9 e), (fun e => h.p10 e), (fun e => h.p12 e), (fun e => h.q12 e)⟩
            · exact HEE.out
        · refine' wpOp_step (o := ?oPa4) ?hoPa4 (fun K hK => ?stPa4)
          case hoPa4 => rfl
          case stPa4 =>
            have HK := Lib.hid hK; clear hK
            obtain rfl := HSS.out.p3 (HWt.out 3 (by kernel_rfl))
            have h0 : L 0 = true := HWt.out 0 (by kernel_rfl)
            obtain ⟨v', wN, hrun, hnx⟩ := PuI.app1 HSH.out HTL.out (show PuI w.drew R (.slice (ad) n cap) (.slice ad2 N2 cap2) (.slice adx m capx) (M.take n) (M.drop n) xs (vs.take n) (vs.drop n) true false (L 6) (L 7) (L 11) w' s33 s37 s39 s40 s44 from by have h := HEE.out; rw [hL, h0] at h; exact h) 26
            have hrun : (Builtin.append_ #[26, 26] 26 #[s33, (.slice (ad) n cap)]).run Tryz.prog w' = .ok v' wN := hrun
            have HNX := Lib.hid (show PuI w.drew R (.slice (ad) n cap) (.slice ad2 N2 cap2) (.slice adx m capx) (M.take n) (M.drop n) xs (vs.take n) (vs.drop n) (L 0) true (L 6) (L 7) (L 11) wN s33 v' s39 s40 s44 from by rw [h0]; exact hnx)
            clear hnx h0
            refine step_runLL (by rfl) _ _ (by rfl) s33 (.slice (ad) n cap) v' (by rfl) (by rfl) hrun ?_
            refine HK.out _ _ ⟨_, _, _, _, _, _, _, _, _, _, _, _, _, rfl, ?_, ?_⟩
            · have h := HSS.out; exact ⟨(fun e => h.p1 e), (fun e => h.p2 e), (fun e => h.p3 e), (fun e => h.p5 e), (fun e => h.p8 e), (fun e => h.p9 e), (fun e => h.p10 e), (fun e => h.p12 e), (fun e => h.q12 e)⟩
            · exact HNX.out
        · refine' wpOp_step (o := ?oPa5) ?hoPa5 (fun K hK => ?stPa5)
          case hoPa5 => rfl
          case stPa5 =>
            have HK := Lib.hid hK; clear hK
            go_simp
            refine HK.out _ _ ⟨_, _, _, _, _, _, _, _, _, _, _, _, _, rfl, ?_, ?_⟩
            · have h := HSS.out; exact ⟨(fun e => h.p1 e), (fun e => h.p2 e), (fun e => h.p3 e), (fun _ => rfl), (fun e => h.p8 e), (fun e => h.p9 e), (fun e => h.p10 e), (fun e => h.p12 e), (fun e => h.q12 e)⟩
            · exact HEE.out
        · refine' wpOp_step (o := ?oPa6) ?hoPa6 (fun K hK => ?stPa6)
          case hoPa6 => rfl
          case stPa6 =>
            have HK := Lib.hid hK; clear hK
            obtain rfl := HSS.out.p5 (HWt.out 5 (by kernel_rfl))
            have HNX := Lib.hid (PuI.one HXW.out (show PuI w.drew R (.slice (ad) n cap) (.slice ad2 N2 cap2) (.slice adx m capx) (M.take n) (M.drop n) xs (vs.take n) (vs.drop n) (L 0) (L 4) false (L 7) (L 11) w' s33 s37 s39 s40 s44 from by have h := HEE.out; rw [hL] at h; exact h))
            go_simp
            refine HK.out _ _ ⟨_, _, _, _, _, _, _, _, _, _, _, _, _, rfl, ?_, ?_⟩
            · have h := HSS.out; exact ⟨(fun e => h.p1 e), (fun e => h.p2 e), (fun e => h.p3 e), (fun e => h.p5 e), (fun e => h.p8 e), (fun e => h.p9 e), (fun e => h.p10 e), (fun e => h.p12 e), (fun e => h.q12 e)⟩
            · exact HNX.out
        · refine' wpOp_step (o := ?oPa7) ?hoPa7 (fun K hK => ?stPa7)
          case hoPa7 => rfl
          case stPa7 =>
            have HK := Lib.hid hK; clear hK
            have h4 : L 4 = true := HWt.out 4 (by kernel_rfl); have h6 : L 6 = true := HWt.out 6 (by kernel_rfl); have h0 := HEE.out.o4 h4
            obtain ⟨v', wN, hrun, hnx⟩ := PuI.app2 HTL.out (show PuI w.drew R (.slice (ad) n cap) (.slice ad2 N2 cap2) (.slice adx m capx) (M.take n) (M.drop n) xs (vs.take n) (vs.drop n) true true true false (L 11) w' s33 s37 s39 s40 s44 from by have h := HEE.out; rw [hL, h0, h4, h6] at h; exact h) 26
            have hrun : (Builtin.append_ #[26, 26] 26 #[s37, s39]).run Tryz.prog w' = .ok v' wN := hrun
            have HNX := Lib.hid (show PuI w.drew R (.slice (ad) n cap) (.slice ad2 N2 cap2) (.slice adx m capx) (M.take n) (M.drop n) xs (vs.take n) (vs.drop n) (L 0) (L 4) (L 6) true (L 11) wN s33 s37 s39 v' s44 from by rw [h0, h4, h6]; exact hnx)
            clear hnx h0 h4 h6
            refine step_runLL (by rfl) _ _ (by rfl) s37 s39 v' (by rfl) (by rfl) hrun ?_
            refine HK.out _ _ ⟨_, _, _, _, _, _, _, _, _, _, _, _, _, rfl, ?_, ?_⟩
            · have h := HSS.out; exact ⟨(fun e => h.p1 e), (fun e => h.p2 e), (fun e => h.p3 e), (fun e => h.p5 e), (fun e => h.p8 e), (fun e => h.p9 e), (fun e => h.p10 e), (fun e => h.p12 e), (fun e => h.q12 e)⟩
            · exact HNX.out
        · refine' wpOp_step (o := ?oPa8) ?hoPa8 (fun K hK => ?stPa8)
          case hoPa8 => rfl
          case stPa8 =>
            have HK := Lib.hid hK; clear hK
            go_simp
            refine HK.out _ _ ⟨_, _, _, _, _, _, _, _, _, _, _, _, _, rfl, ?_, ?_⟩
            · have h := HSS.out; exact ⟨(fun e => h.p1 e), (fun e => h.p2 e), (fun e => h.p3 e), (fun e => h.p5 e), (fun _ => rfl), (fun e => h.p9 e), (fun e => h.p10 e), (fun e => h.p12 e), (fun e => h.q12 e)⟩
            · exact HEE.out
        · refine' wpOp_step (o := ?oPa9) ?hoPa9 (fun K hK => ?stPa9)
          case hoPa9 => rfl
          case stPa9 =>
            have HK := Lib.hid hK; clear hK
            go_simp
            refine HK.out _ _ ⟨_, _, _, _, _, _, _, _, _, _, _, _, _, rfl, ?_, ?_⟩
            · have h := HSS.out; exact ⟨(fun e => h.p1 e), (fun e => h.p2 e), (fun e => h.p3 e), (fun e => h.p5 e), (fun e => h.p8 e), (fun _ => rfl), (fun e => h.p10 e), (fun e => h.p12 e), (fun e => h.q12 e)⟩
            · exact HEE.out
        · refine' wpOp_step (o := ?oPa10) ?hoPa10 (fun K hK => ?stPa10)
          case hoPa10 => rfl
          case stPa10 =>
            have HK := Lib.hid hK; clear hK
            obtain rfl := HSS.out.p8 (HWt.out 8 (by kernel_rfl))
            obtain rfl := HSS.out.p9 (HWt.out 9 (by kernel_rfl))
            have hq := HRT w'
            go_simp
            refine HK.out _ _ ⟨_, _, _, _, _, _, _, _, _, _, _, _, _, rfl, ?_, ?_⟩
            · have h := HSS.out; exact ⟨(fun e => h.p1 e), (fun e => h.p2 e), (fun e => h.p3 e), (fun e => h.p5 e), (fun e => h.p8 e), (fun e => h.p9 e), (fun _ => rfl), (fun e => h.p12 e), (fun e => h.q12 e)⟩
            · exact HEE.out
        · refine' wpOp_step (o := ?oPa11) ?hoPa11 (fun K hK => ?stPa11)
          case hoPa11 => rfl
          case stPa11 =>
            have HK := Lib.hid hK; clear hK
            obtain rfl := HSS.out.p10 (HWt.out 10 (by kernel_rfl))
            have h7 : L 7 = true := HWt.out 7 (by kernel_rfl); obtain ⟨h4, h6⟩ := HEE.out.o7 h7; have h0 := HEE.out.o4 h4
            obtain ⟨v', wN, hrun, hnx⟩ := PuI.app3 HST.out HTS.out HTD.out (show PuI w.drew R (.slice (ad) n cap) (.slice ad2 N2 cap2) (.slice adx m capx) (M.take n) (M.drop n) xs (vs.take n) (vs.drop n) true true true true false w' s33 s37 s39 s40 s44 from by have h := HEE.out; rw [hL, h0, h4, h6, h7] at h; exact h) 26
            have hrun : (Builtin.append_ #[26, 26] 26 #[s40, (.slice ad2 N2 cap2)]).run Tryz.prog w' = .ok v' wN := hrun
            have HNX := Lib.hid (show PuI w.drew R (.slice (ad) n cap) (.slice ad2 N2 cap2) (.slice adx m capx) (M.take n) (M.drop n) xs (vs.take n) (vs.drop n) (L 0) (L 4) (L 6) (L 7) true wN s33 s37 s39 s40 v' from by rw [h0, h4, h6, h7]; exact hnx)
            clear hnx h0 h4 h6 h7
            refine step_runLL (by rfl) _ _ (by rfl) s40 (.slice ad2 N2 cap2) v' (by rfl) (by rfl) hrun ?_
            refine HK.out _ _ ⟨_, _, _, _, _, _, _, _, _, _, _, _, _, rfl, ?_, ?_⟩
            · have h := HSS.out; exact ⟨(fun e => h.p1 e), (fun e => h.p2 e), (fun e => h.p3 e), (fun e => h.p5 e), (fun e => h.p8 e), (fun e => h.p9 e), (fun e => h.p10 e), (fun e => absurd (h.q12 e) (by rw [hL]; simp)), (fun _ => rfl)⟩
            · exact HNX.out
        · refine' wpOp_step (o := ?oPa12) ?hoPa12 (fun K hK => ?stPa12)
          case hoPa12 => rfl
          case stPa12 =>
            have HK := Lib.hid hK; clear hK
            go_simp
            refine HK.out _ _ ⟨_, _, _, _, _, _, _, _, _, _, _, _, _, rfl, ?_, ?_⟩
            · have h := HSS.out; exact ⟨(fun e => h.p1 e), (fun e => h.p2 e), (fun e => h.p3 e), (fun e => h.p5 e), (fun e => h.p8 e), (fun e => h.p9 e), (fun e => h.p10 e), (fun _ => rfl), (fun _ => HWt.out 11 (by kernel_rfl))⟩
            · exact HEE.out
    case pos =>
      obtain ⟨b, o, a, c, rfl, hb, kc, hr⟩ := HRD.out k hlt
      have C1 := Lib.hid (HBF.out k hlt a c hr)
      have C2 := Lib.hid (HSA.out k hlt a c hr)
      have x1 : (0 : Int) ≤ (k : Int) := by omega
      have x2 : (k : Int) < (n : Int) := by omega
      have d1 : decide ((k : Int) < (n : Int)) = true := decide_eq_true (by omega)
      cases hLT : ltL (M.getD k []) xs
      case true =>
        rw [hLT] at C1
        have HS := Lib.hid (show ∀ j, j < k + 1 → ltL (M.getD j []) xs = true from fun j hj => by
          by_cases e : j = k
          · subst e; exact hLT
          · exact HLOW.out j (by omega))
        clear hLT
        generalize (M.getD k []).length = lk at kc C1 C2
        go_wp2_with fail
        refine C1.out.mono ?_
        rintro e w1 ⟨rfl, rfl⟩
        go_wp2_with fail
        go_roundw
        case rel => exact ⟨k + 1, by omega, by go_num, HS.out, by first | rfl | trivial⟩
        case measure => simp [intOf]; omega
      case false =>
        rw [hLT] at C1
        have HFIN := Lib.hid (HAT.out k hk HLOW.out (fun _ => hLT))
        clear hLT
        obtain ⟨EQ, hEQ⟩ : ∃ z, decide (M.getD k [] = xs) = z := ⟨_, rfl⟩
        rw [hEQ] at C2
        have HEQ := Lib.hid hEQ
        clear hEQ
        generalize (M.getD k []).length = lk at kc C1 C2
        go_wp2_with fail
        refine C1.out.mono ?_
        rintro e w1 ⟨rfl, rfl⟩
        go_wp2_with fail
        refine C2.out.mono ?_
        rintro e w1 ⟨rfl, hb1⟩
        cases EQ
        case true =>
          have HE := Lib.hid (show RES = M from by rw [HFIN.out, if_pos ⟨by first | exact hlt | (have := HN.out; omega), of_decide_eq_true HEQ.out⟩])
          go_wp2_with fail
          go_ret
          exact ⟨_, _, vs, by rw [HE.out, HN.out]; rfl, by rw [HE.out, HN.out]; exact HM.out.below hb1, hb1⟩
        case false =>
          have HFZ := Lib.hid (show RES = M.take k ++ xs :: M.drop k from by rw [HFIN.out, if_neg (fun g => of_decide_eq_false HEQ.out g.2)])
          clear HFIN HEQ
          go_upto_region 6 with fail
          have HWB := Lib.hid (show Below w.heap.size w w1.drew from hb1.drew)
          have HMW := Lib.hid (HM.out.below HWB.out)
          have HXW := Lib.hid (HX.out.below HWB.out)
          obtain ⟨HRH, hsh⟩ := cutL_head HMW.out HN.out (show k ≤ n by omega)
          obtain ⟨v2, HRT, hst, ad2, cap2, hv2⟩ := cutL_tail HMW.out HN.out (show k ≤ n by omega)
          subst hv2
          obtain ⟨N2, hN2⟩ : ∃ z, n - k = z := ⟨_, rfl⟩
          rw [hN2] at hst
          simp only [hN2] at HRT
          have HSH := Lib.hid hsh; have HST := Lib.hid hst
          have HTL := Lib.hid (show (M.take k).length ≤ 100000 from by rw [List.length_take]; omega)
          have HTS := Lib.hid (show (M.take k).length ≤ 50000 from by rw [List.length_take]; omega)
          have HTD := Lib.hid (show (M.drop k).length ≤ 100000 from by rw [List.length_drop, HN.out]; omega)
          have HWS := Lib.hid (show R ≤ w1.drew.heap.size from by have := HWB.out.size; omega)
          clear hsh hst hN2 HBF HSA HAT HRD HM HX
          refine wp_region_inv (fun L ac w' => ∃ s4 s33 s34 s35 s36 s37 s38 s39 s40 s41 s42 s43 s44 : Value, ac = { tmps := #[.slice (some ⟨b, o, none⟩) n cap, .slice adx m capx, undef, undef, s4, .int .i64 k, .int .i64 k, .slice (some ⟨b, o, none⟩) n cap, .int .i64 n, .bool true, .bool true, .slice (some ⟨b, o, none⟩) n cap, .int .i64 k, .pointer (some ⟨b, o + k, none⟩), .slice a lk c, .slice adx m capx, .bool false, .bool false, u18, u19, .int .i64 k, .slice (some ⟨b, o, none⟩) n cap, .int .i64 n, .bool true, .bool true, .slice (some ⟨b, o, none⟩) n cap, .int .i64 k, .pointer (some ⟨b, o + k, none⟩), .slice a lk c, .slice adx m capx, .bool false, .bool false, undef, s33, s34, s35, s36, s37, s38, s39, s40, s41, s42, s43, s44], defers := [] } ∧ PuS k (.slice (some ⟨b, o, none⟩) n cap) (.slice adx m capx) (.slice (some ⟨b, o, none⟩) k cap) (.slice ad2 N2 cap2) L s34 s35 s36 s38 s41 s42 s43 s44 s4 ∧ PuI w1.drew R (.slice (some ⟨b, o, none⟩) k cap) (.slice ad2 N2 cap2) (.slice adx m capx) (M.take k) (M.drop k) xs (vs.take k) (vs.drop k) (L 0) (L 4) (L 6) (L 7) (L 11) w' s33 s37 s39 s40 s44) (by kernel_rfl) (by kernel_rfl) ?_ ?_ ?_
          · exact ⟨_, _, _, _, _, _, _, _, _, _, _, _, _, rfl, ⟨(fun e => by cases e), (fun e => by cases e), (fun e => by cases e), (fun e => by cases e), (fun e => by cases e), (fun e => by cases e), (fun e => by cases e), (fun e => by cases e), (fun e => by cases e)⟩, PuI.start _ _ _ _ _⟩
          · rintro L ac w' ⟨s4, s33, s34, s35, s36, s37, s38, s39, s40, s41, s42, s43, s44, rfl, HS, HE⟩ hL
            have HREL := Lib.hid (show PuI w1.drew R (.slice (some ⟨b, o, none⟩) k cap) (.slice ad2 N2 cap2) (.slice adx m capx) (M.take k) (M.drop k) xs (vs.take k) (vs.drop k) true true true true true w' s33 s37 s39 s40 s44 from by have h := HE; rw [hL 0 (by decide), hL 4 (by decide), hL 6 (by decide), hL 7 (by decide), hL 11 (by decide)] at h; exact h)
            obtain rfl := HS.p12 (hL 12 (by decide))
            clear HS HE hL HRH HRT
            have hml := (HREL.out.a11 rfl).mono (R' := R) (B' := R) (by have := HWS.out; omega) (Nat.le_refl _)
            rw [List.append_assoc, List.singleton_append, ← HFZ.out] at hml
            obtain ⟨ad9, cap9, rfl, _⟩ := hml.shape
            obtain ⟨N9, hN9⟩ : ∃ z, RES.length = z := ⟨_, rfl⟩
            have HML := Lib.hid hml; have HN9 := Lib.hid hN9
            have HBF := Lib.hid (show Below w.heap.size w w' from HWB.out.trans (HREL.out.bel.mono HWB.out.size))
            rw [hN9]
            clear hml hN9 HREL
            go_wp2_with fail
            go_ret
            exact ⟨ad9, cap9, _, by rw [HN9.out]; rfl, HML.out, HBF.out⟩
          · rintro i L ac w' ⟨s4, s33, s34, s35, s36, s37, s38, s39, s40, s41, s42, s43, s44, rfl, HS, HE⟩ hi hL hw
            have hi : i < 13 := hi
            have HSS := Lib.hid HS; have HEE := Lib.hid HE; have HWt := Lib.hid hw
            clear HS HE hw
            rcases (show i = 0 ∨ i = 1 ∨ i = 2 ∨ i = 3 ∨ i = 4 ∨ i = 5 ∨ i = 6 ∨ i = 7 ∨ i = 8 ∨ i = 9 ∨ i = 10 ∨ i = 11 ∨ i = 12 by omega) with rfl | rfl | rfl | rfl | rfl | rfl | rfl | rfl | rfl | rfl | rfl | rfl | rfl
            · refine' wpOp_step (o := ?oPb0) ?hoPb0 (fun K hK => ?stPb0)
              case hoPb0 => rfl
              case stPb0 =>
                have HK := Lib.hid hK; clear hK
                have HNX := Lib.hid (PuI.empty (show PuI w1.drew R (.slice (some ⟨b, o, none⟩) k cap) (.slice ad2 N2 cap2) (.slice adx m capx) (M.take k) (M.drop k) xs (vs.take k) (vs.drop k) false (L 4) (L 6) (L 7) (L 11) w' s33 s37 s39 s40 s44 from by have h := HEE.out; rw [hL] at h; exact h))
                go_simp
                refine HK.out _ _ ⟨_, _, _, _, _, _, _, _, _, _, _, _, _, rfl, ?_, ?_⟩
                · have h := HSS.out; exact ⟨(fun e => h.p1 e), (fun e => h.p2 e), (fun e => h.p3 e), (fun e => h.p5 e), (fun e => h.p8 e), (fun e => h.p9 e), (fun e => h.p10 e), (fun e => h.p12 e), (fun e => h.q12 e)⟩
                · exact HNX.out
            · refine' wpOp_step (o := ?oPb1) ?hoPb1 (fun K hK => ?stPb1)
              case hoPb1 => rfl
              case stPb1 =>
                have HK := Lib.hid hK; clear hK
                go_simp
                refine HK.out _ _ ⟨_, _, _, _, _, _, _, _, _, _, _, _, _, rfl, ?_, ?_⟩
                · have h := HSS.out; exact ⟨(fun _ => rfl), (fun e => h.p2 e), (fun e => h.p3 e), (fun e => h.p5 e), (fun e => h.p8 e), (fun e => h.p9 e), (fun e => h.p10 e), (fun e => h.p12 e), (fun e => h.q12 e)⟩
                · exact HEE.out
            · refine' wpOp_step (o := ?oPb2) ?hoPb2 (fun K hK => ?stPb2)
              case hoPb2 => rfl
              case stPb2 =>
                have HK := Lib.hid hK; clear hK
                go_simp
                refine HK.out _ _ ⟨_, _, _, _, _, _, _, _, _, _, _, _, _, rfl, ?_, ?_⟩
                · have h := HSS.out; exact ⟨(fun e => h.p1 e), (fun _ => rfl), (fun e => h.p3 e), (fun e => h.p5 e), (fun e => h.p8 e), (fun e => h.p9 e), (fun e => h.p10 e), (fun e => h.p12 e), (fun e => h.q12 e)⟩
                · exact HEE.out
            · refine' wpOp_step (o := ?oPb3) ?hoPb3 (fun K hK => ?stPb3)
              case hoPb3 => rfl
              case stPb3 =>
                have HK := Lib.hid hK; clear hK
                obtain rfl := HSS.out.p1 (HWt.out 1 (by kernel_rfl))
                obtain rfl := HSS.out.p2 (HWt.out 2 (by kernel_rfl))
                have hq := HRH w'
                go_simp
                refine HK.out _ _ ⟨_, _, _, _, _, _, _, _, _, _, _, _, _, rfl, ?_, ?_⟩
                · have h := HSS.out; exact ⟨(fun e => h.p1 e), (fun e => h.p2 e), (fun _ => rfl), (fun e => h.p5 e), (fun e => h.p8 e), (fun e => h.p9 e), (fun e => h.p10 e), (fun e => h.p12 e), (fun e => h.q12 e)⟩
                · exact HEE.out
            · refine' wpOp_step (o := ?oPb4) ?hoPb4 (fun K hK => ?stPb4)
              case hoPb4 => rfl
              case stPb4 =>
                have HK := Lib.hid hK; clear hK
                obtain rfl := HSS.out.p3 (HWt.out 3 (by kernel_rfl))
                have h0 : L 0 = true := HWt.out 0 (by kernel_rfl)
                obtain ⟨v', wN, hrun, hnx⟩ := PuI.app1 HSH.out HTL.out (show PuI w1.drew R (.slice (some ⟨b, o, none⟩) k cap) (.slice ad2 N2 cap2) (.slice adx m capx) (M.take k) (M.drop k) xs (vs.take k) (vs.drop k) true false (L 6) (L 7) (L 11) w' s33 s37 s39 s40 s44 from by have h := HEE.out; rw [hL, h0] at h; exact h) 26
                have hrun : (Builtin.append_ #[26, 26] 26 #[s33, (.slice (some ⟨b, o, none⟩) k cap)]).run Tryz.prog w' = .ok v' wN := hrun
                have HNX := Lib.hid (show PuI w1.drew R (.slice (some ⟨b, o, none⟩) k cap) (.slice ad2 N2 cap2) (.slice adx m capx) (M.take k) (M.drop k) xs (vs.take k) (vs.drop k) (L 0) true (L 6) (L 7) (L 11) wN s33 v' s39 s40 s44 from by rw [h0]; exact hnx)
                clear hnx h0
                refine step_runLL (by rfl) _ _ (by rfl) s33 (.slice (some ⟨b, o, none⟩) k cap) v' (by rfl) (by rfl) hrun ?_
                refine HK.out _ _ ⟨_, _, _, _, _, _, _, _, _, _, _, _, _, rfl, ?_, ?_⟩
                · have h := HSS.out; exact ⟨(fun e => h.p1 e), (fun e => h.p2 e), (fun e => h.p3 e), (fun e => h.p5 e), (fun e => h.p8 e), (fun e => h.p9 e), (fun e => h.p10 e), (fun e => h.p12 e), (fun e => h.q12 e)⟩
                · exact HNX.out
            · refine' wpOp_step (o := ?oPb5) ?hoPb5 (fun K hK => ?stPb5)
              case hoPb5 => rfl
              case stPb5 =>
                have HK := Lib.hid hK; clear hK
                go_simp
                refine HK.out _ _ ⟨_, _, _, _, _, _, _, _, _, _, _, _, _, rfl, ?_, ?_⟩
                · have h := HSS.out; exact ⟨(fun e => h.p1 e), (fun e => h.p2 e), (fun e => h.p3 e), (fun _ => rfl), (fun e => h.p8 e), (fun e => h.p9 e), (fun e => h.p10 e), (fun e => h.p12 e), (fun e => h.q12 e)⟩
                · exact HEE.out
            · refine' wpOp_step (o := ?oPb6) ?hoPb6 (fun K hK => ?stPb6)
              case hoPb6 => rfl
              case stPb6 =>
                have HK := Lib.hid hK; clear hK
                obtain rfl := HSS.out.p5 (HWt.out 5 (by kernel_rfl))
                have HNX := Lib.hid (PuI.one HXW.out (show PuI w1.drew R (.slice (some ⟨b, o, none⟩) k cap) (.slice ad2 N2 cap2) (.slice adx m capx) (M.take k) (M.drop k) xs (vs.take k) (vs.drop k) (L 0) (L 4) false (L 7) (L 11) w' s33 s37 s39 s40 s44 from by have h := HEE.out; rw [hL] at h; exact h))
                go_simp
                refine HK.out _ _ ⟨_, _, _, _, _, _, _, _, _, _, _, _, _, rfl, ?_, ?_⟩
                · have h := HSS.out; exact ⟨(fun e => h.p1 e), (fun e => h.p2 e), (fun e => h.p3 e), (fun e => h.p5 e), (fun e => h.p8 e), (fun e => h.p9 e), (fun e => h.p10 e), (fun e => h.p12 e), (fun e => h.q12 e)⟩
                · exact HNX.out
            · refine' wpOp_step (o := ?oPb7) ?hoPb7 (fun K hK => ?stPb7)
              case hoPb7 => rfl
              case stPb7 =>
                have HK := Lib.hid hK; clear hK
                have h4 : L 4 = true := HWt.out 4 (by kernel_rfl); have h6 : L 6 = true := HWt.out 6 (by kernel_rfl); have h0 := HEE.out.o4 h4
                obtain ⟨v', wN, hrun, hnx⟩ := PuI.app2 HTL.out (show PuI w1.drew R (.slice (some ⟨b, o, none⟩) k cap) (.slice ad2 N2 cap2) (.slice adx m capx) (M.take k) (M.drop k) xs (vs.take k) (vs.drop k) true true true false (L 11) w' s33 s37 s39 s40 s44 from by have h := HEE.out; rw [hL, h0, h4, h6] at h; exact h) 26
                have hrun : (Builtin.append_ #[26, 26] 26 #[s37, s39]).run Tryz.prog w' = .ok v' wN := hrun
                have HNX := Lib.hid (show PuI w1.drew R (.slice (some ⟨b, o, none⟩) k cap) (.slice ad2 N2 cap2) (.slice adx m capx) (M.take k) (M.drop k) xs (vs.take k) (vs.drop k) (L 0) (L 4) (L 6) true (L 11) wN s33 s37 s39 v' s44 from by rw [h0, h4, h6]; exact hnx)
                clear hnx h0 h4 h6
                refine step_runLL (by rfl) _ _ (by rfl) s37 s39 v' (by rfl) (by rfl) hrun ?_
                refine HK.out _ _ ⟨_, _, _, _, _, _, _, _, _, _, _, _, _, rfl, ?_, ?_⟩
                · have h := HSS.out; exact ⟨(fun e => h.p1 e), (fun e => h.p2 e), (fun e => h.p3 e), (fun e => h.p5 e), (fun e => h.p8 e), (fun e => h.p9 e), (fun e => h.p10 e), (fun e => h.p12 e), (fun e => h.q12 e)⟩
                · exact HNX.out
            · refine' wpOp_step (o := ?oPb8) ?hoPb8 (fun K hK => ?stPb8)
              case hoPb8 => rfl
              case stPb8 =>
                have HK := Lib.hid hK; clear hK
                go_simp
                refine HK.out _ _ ⟨_, _, _, _, _, _, _, _, _, _, _, _, _, rfl, ?_, ?_⟩
                · have h := HSS.out; exact ⟨(fun e => h.p1 e), (fun e => h.p2 e), (fun e => h.p3 e), (fun e => h.p5 e), (fun _ => rfl), (fun e => h.p9 e), (fun e => h.p10 e), (fun e => h.p12 e), (fun e => h.q12 e)⟩
                · exact HEE.out
            · refine' wpOp_step (o := ?oPb9) ?hoPb9 (fun K hK => ?stPb9)
              case hoPb9 => rfl
              case stPb9 =>
                have HK := Lib.hid hK; clear hK
                go_simp
                refine HK.out _ _ ⟨_, _, _, _, _, _, _, _, _, _, _, _, _, rfl, ?_, ?_⟩
                · have h := HSS.out; exact ⟨(fun e => h.p1 e), (fun e => h.p2 e), (fun e => h.p3 e), (fun e => h.p5 e), (fun e => h.p8 e), (fun _ => rfl), (fun e => h.p10 e), (fun e => h.p12 e), (fun e => h.q12 e)⟩
                · exact HEE.out
            · refine' wpOp_step (o := ?oPb10) ?hoPb10 (fun K hK => ?stPb10)
              case hoPb10 => rfl
              case stPb10 =>
                have HK := Lib.hid hK; clear hK
                obtain rfl := HSS.out.p8 (HWt.out 8 (by kernel_rfl))
                obtain rfl := HSS.out.p9 (HWt.out 9 (by kernel_rfl))
                have hq := HRT w'
                go_simp
                refine HK.out _ _ ⟨_, _, _, _, _, _, _, _, _, _, _, _, _, rfl, ?_, ?_⟩
                · have h := HSS.out; exact ⟨(fun e => h.p1 e), (fun e => h.p2 e), (fun e => h.p3 e), (fun e => h.p5 e), (fun e => h.p8 e), (fun e => h.p9 e), (fun _ => rfl), (fun e => h.p12 e), (fun e => h.q12 e)⟩
                · exact HEE.out
            · refine' wpOp_step (o := ?oPb11) ?hoPb11 (fun K hK => ?stPb11)
              case hoPb11 => rfl
              case stPb11 =>
                have HK := Lib.hid hK; clear hK
                obtain rfl := HSS.out.p10 (HWt.out 10 (by kernel_rfl))
                have h7 : L 7 = true := HWt.out 7 (by kernel_rfl); obtain ⟨h4, h6⟩ := HEE.out.o7 h7; have h0 := HEE.out.o4 h4
                obtain ⟨v', wN, hrun, hnx⟩ := PuI.app3 HST.out HTS.out HTD.out (show PuI w1.drew R (.slice (some ⟨b, o, none⟩) k cap) (.slice ad2 N2 cap2) (.slice adx m capx) (M.take k) (M.drop k) xs (vs.take k) (vs.drop k) true true true true false w' s33 s37 s39 s40 s44 from by have h := HEE.out; rw [hL, h0, h4, h6, h7] at h; exact h) 26
                have hrun : (Builtin.append_ #[26, 26] 26 #[s40, (.slice ad2 N2 cap2)]).run Tryz.prog w' = .ok v' wN := hrun
                have HNX := Lib.hid (show PuI w1.drew R (.slice (some ⟨b, o, none⟩) k cap) (.slice ad2 N2 cap2) (.slice adx m capx) (M.take k) (M.drop k) xs (vs.take k) (vs.drop k) (L 0) (L 4) (L 6) (L 7) true wN s33 s37 s39 s40 v' from by rw [h0, h4, h6, h7]; exact hnx)
                clear hnx h0 h4 h6 h7
                refine step_runLL (by rfl) _ _ (by rfl) s40 (.slice ad2 N2 cap2) v' (by rfl) (by rfl) hrun ?_
                refine HK.out _ _ ⟨_, _, _, _, _, _, _, _, _, _, _, _, _, rfl, ?_, ?_⟩
                · have h := HSS.out; exact ⟨(fun e => h.p1 e), (fun e => h.p2 e), (fun e => h.p3 e), (fun e => h.p5 e), (fun e => h.p8 e), (fun e => h.p9 e), (fun e => h.p10 e), (fun e => absurd (h.q12 e) (by rw [hL]; simp)), (fun _ => rfl)⟩
                · exact HNX.out
            · refine' wpOp_step (o := ?oPb12) ?hoPb12 (fun K hK => ?stPb12)
              case hoPb12 => rfl
              case stPb12 =>
                have HK := Lib.hid hK; clear hK
                go_simp
                refine HK.out _ _ ⟨_, _, _, _, _, _, _, _, _, _, _, _, _, rfl, ?_, ?_⟩
                · have h := HSS.out; exact ⟨(fun e => h.p1 e), (fun e => h.p2 e), (fun e => h.p3 e), (fun e => h.p5 e), (fun e => h.p8 e), (fun e => h.p9 e), (fun e => h.p10 e), (fun _ => rfl), (fun _ => HWt.out 11 (by kernel_rfl))⟩
                · exact HEE.out
end Go.Proofs.YtcionneopgdebaaGreat
