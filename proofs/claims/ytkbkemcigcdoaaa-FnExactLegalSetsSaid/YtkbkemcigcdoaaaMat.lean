/-
  Lists of lists of numbers: what a call hands back, how the harness compares and marks them.
-/
import Derived.Test.YtkbkemcigcdoaaaFire
namespace Go.Proofs.Ytkbkemcigcdoaaa
open Go.RowKit

/-- A slice of slices of numbers in memory of the call's own, no two rows over one block. -/
def ResR (w : World) (B : Nat) (v : Value) (rows : List (List Int)) : Prop :=
  (v = .slice none 0 0 ∧ rows = []) ∨ ∃ g cap vs, v = .slice (some ⟨g, 0, none⟩) rows.length cap ∧ B ≤ g ∧ Own w g 23 vs ∧ vs.length = rows.length ∧
    (∀ i, i < rows.length → ResI w B 3 (vs.getD i undef) (rows.getD i [])) ∧ ∀ i j, i < rows.length → j < rows.length → i ≠ j → ∀ q, (vs.getD i undef).ownBlock = some q → (vs.getD j undef).ownBlock ≠ some q

/-- The same, as it is read. -/
def RdR (w : World) (v : Value) (rows : List (List Int)) : Prop :=
  ∃ ad cap, v = .slice ad rows.length cap ∧ ∀ i, i < rows.length → ∃ b off u, ad = some ⟨b, off, none⟩ ∧ b < w.heap.size ∧ w.cell? ⟨b, off + i, none⟩ = some u ∧ RdV w u (rows.getD i [])

theorem RdV.below {w w' : World} {v : Value} {xs : List Int} (h : RdV w v xs) (hb : Below w.heap.size w w') : RdV w' v xs := by
  obtain ⟨ad, cap, e, h⟩ := h
  exact ⟨ad, cap, e, h.below hb⟩
theorem ResR.rdR {w : World} {B : Nat} {v : Value} {rows : List (List Int)} (h : ResR w B v rows) : RdR w v rows := by
  rcases h with ⟨rfl, rfl⟩ | ⟨g, cap, vs, rfl, _, ho, hl, hr, _⟩
  · exact ⟨none, 0, rfl, fun i hi => by simp at hi⟩
  · refine ⟨_, cap, rfl, fun i hi => ⟨g, 0, vs.getD i undef, rfl, ho.lt, ?_, (hr i hi).rdV⟩⟩
    rw [Nat.zero_add]
    exact ho.cell? (by simp [List.getD, show i < vs.length by omega])
theorem ResR.of_block {w w' : World} {B : Nat} {v : Value} {rows : List (List Int)} (h : ResR w B v rows) (e : ∀ q, q < w.heap.size → w'.heap[q]? = w.heap[q]?) : ResR w' B v rows := by
  rcases h with h | ⟨g, cap, vs, rfl, hg, ho, hl, hr, hd⟩
  · exact Or.inl h
  · refine Or.inr ⟨g, cap, vs, rfl, hg, ho.of_block (e _ ho.lt), hl, fun i hi => ?_, hd⟩
    rcases hr i hi with h | ⟨q, c, h1, h2, h3⟩
    · exact Or.inl h
    · exact Or.inr ⟨q, c, h1, h2, h3.of_block (e _ h3.lt)⟩
theorem ResR.below {w w' : World} {B : Nat} {v : Value} {rows : List (List Int)} (h : ResR w B v rows) (hb : Below w.heap.size w w') : ResR w' B v rows := h.of_block hb.block
theorem ResR.mono {w : World} {B B' : Nat} {v : Value} {rows : List (List Int)} (h : ResR w B v rows) (hB : B' ≤ B) : ResR w B' v rows := by
  rcases h with h | ⟨g, cap, vs, rfl, hg, ho, hl, hr, hd⟩
  · exact Or.inl h
  · exact Or.inr ⟨g, cap, vs, rfl, Nat.le_trans hB hg, ho, hl, fun i hi => (hr i hi).mono hB, hd⟩
theorem ResR.chg {w w' : World} {B b : Nat} {v : Value} {rows : List (List Int)} (h : ResR w B v rows) (hc : Chg b w w') (hb : b < B) : ResR w' B v rows := by
  rcases h with h | ⟨g, cap, vs, rfl, hg, ho, hl, hr, hd⟩
  · exact Or.inl h
  · exact Or.inr ⟨g, cap, vs, rfl, hg, ho.chg hc (by omega), hl, fun i hi => (hr i hi).chg hc hb, hd⟩
theorem ResI.grown {w w' : World} {B : Nat} {E : TypeId} {v : Value} {xs : List Int} {row : Option Nat} (h : ResI w B E v xs) (hg : w.grownBy w' row) (hne : ∀ q, v.ownBlock = some q → row ≠ some q) : ResI w' B E v xs := by
  rcases h with h | ⟨g, cap, rfl, hB, ho⟩
  · exact Or.inl h
  · exact Or.inr ⟨g, cap, rfl, hB, ho.grown hg (hne g rfl)⟩

theorem Chg.grownBy {b : Nat} {w w' : World} (h : Chg b w w') : w.grownBy w' (some b) := ⟨h.os, h.tape, h.output, h.size, fun k hk hne => h.block k hk (fun e => hne (by rw [e]))⟩

/-- Marks, with what they leave alone. -/
theorem markIntS_fine (B : Nat) (v : Value) (xs : List Int) (k : Int) (w : World) (hl : xs.length ≤ 1048576) (h0 : 0 ≤ k) (h1 : k ≤ 1099511627776) (hr : ResI w B 3 v xs) :
    Calls Try.prog 22 #[v, .int .i64 k] w fun e w' => e = .returned (.int .i64 (k + xs.length)) ∧ ResI w' B 3 v (tab xs.length fun i => k + i) ∧ w.grownBy w' v.ownBlock := by
  rcases hr with ⟨rfl, rfl⟩ | ⟨g, cap, rfl, hg, ho⟩
  · refine (markIntS_nil k w).mono fun e w' ⟨he, hw⟩ => ?_
    subst hw
    exact ⟨by rw [he]; simp, Or.inl ⟨rfl, rfl⟩, World.grownBy.refl _ _⟩
  · refine (markIntS_own g cap xs k w hl h0 h1 ho).mono fun e w' ⟨he, ho', hc⟩ => ?_
    exact ⟨he, Or.inr ⟨g, cap, by rw [tab_length], hg, ho'⟩, hc.grownBy⟩

/-- How many numbers stand in the first i rows. -/
def cum (rows : List (List Int)) (i : Nat) : Nat := ((rows.take i).map List.length).sum
theorem cum_zero (rows : List (List Int)) : cum rows 0 = 0 := rfl
theorem cum_succ {rows : List (List Int)} {i : Nat} (h : i < rows.length) : cum rows (i + 1) = cum rows i + (rows.getD i []).length := by
  unfold cum
  rw [take_snoc rows i [] h]
  simp
def numRows (rows : List (List Int)) (k : Int) : List (List Int) := tab rows.length fun i => tab (rows.getD i []).length fun j => k + cum rows i + j
theorem numRows_length (rows : List (List Int)) (k : Int) : (numRows rows k).length = rows.length := tab_length _ _
theorem numRows_get {rows : List (List Int)} {k : Int} {i : Nat} (h : i < rows.length) : (numRows rows k).getD i [] = tab (rows.getD i []).length fun j => k + cum rows i + j := tab_getD h _
/-- Rows of at most 64 numbers, at most 4096 of them. -/
def smallR (rows : List (List Int)) : Prop := rows.length ≤ 4096 ∧ ∀ i, i < rows.length → (rows.getD i []).length ≤ 64
theorem cum_bound {rows : List (List Int)} (h : smallR rows) : ∀ i, i ≤ rows.length → cum rows i ≤ 64 * i
  | 0, _ => by simp [cum_zero]
  | i + 1, hi => by
    have ih := cum_bound h i (by omega)
    have := h.2 i (by omega)
    rw [cum_succ (by omega)]
    omega

set_option maxHeartbeats 800000 in
set_option maxRecDepth 100000 in
theorem eqIntSS_v (v v' : Value) (rows : List (List Int)) (w : World) (hs : smallR rows) (hr : RdR w v rows) (hr' : RdR w v' rows) :
    Calls Try.prog 30 #[v, v'] w fun e w' => e = .returned (.bool true) ∧ Below w.heap.size w w' := by
  obtain ⟨ad, cap, rfl, h⟩ := hr
  obtain ⟨ad', cap', rfl, h'⟩ := hr'
  obtain ⟨hs1, hs2⟩ := hs
  have HR := Lib.hid h; clear h
  have HR' := Lib.hid h'; clear h'
  have HS := Lib.hid hs2; clear hs2
  go_enter Try.func30, Try.ntmps30
  go_wp2
  go_loopw [5] (fun i wr => ∃ k : Nat, k ≤ rows.length ∧ i = .int .i64 k ∧ Below w.heap.size w wr) (fun i _ => rows.length - (intOf i).toNat)
  case atStart => exact ⟨0, Nat.zero_le _, rfl, Below.refl _ _⟩
  case round =>
    obtain ⟨k, hk, rfl, hbel⟩ := hrel
    by_cases hlt : k < rows.length
    · obtain ⟨b, off, u, rfl, hb, c, r⟩ := HR.out k hlt
      obtain ⟨b', off', u', rfl, hb', c', r'⟩ := HR'.out k hlt
      have d := bcell hbel hb c
      have d' := bcell hbel hb' c'
      clear c c'
      have R1 := Lib.hid (r.below hbel.drew)
      have R2 := Lib.hid (r'.below hbel.drew)
      have hl := HS.out k hlt
      generalize rows.getD k [] = xs at R1 R2 hl
      clear r r'
      go_wp2_with fail
      go_still_tail 8, (by kernel_rfl)
      change wpList _ _ _ _ _ wr.drew
      go_wp2_with fail
      refine (eqIntS_v _ _ xs _ (by omega) R1.out R2.out).mono ?_
      rintro e w1 ⟨rfl, hb1⟩
      go_wp2
      go_roundw
      case rel => exact ⟨k + 1, by omega, by go_num, bthen hbel.drew hb1 hbel.size⟩
      case measure => simp [intOf]; omega
    · go_wp2
      go_ret
      exact ⟨rfl, hbel⟩

set_option maxHeartbeats 800000 in
set_option maxRecDepth 100000 in
theorem heldIntSS_v (v : Value) (rows : List (List Int)) (w : World) (hs : smallR rows) (hr : RdR w v (numRows rows 1)) :
    Calls Try.prog 32 #[v, .int .i64 1] w fun e w' => e = .returned (.int .i64 (1 + cum rows rows.length)) ∧ w = w' := by
  obtain ⟨ad, cap, rfl, h⟩ := hr
  rw [numRows_length] at h ⊢
  have HCB := Lib.hid (cum_bound hs)
  obtain ⟨hs1, hs2⟩ := hs
  have HR := Lib.hid h; clear h
  have HS := Lib.hid hs2; clear hs2
  go_enter Try.func32, Try.ntmps32
  go_wp2
  go_loop [1, 5] (fun q i => ∃ k : Nat, k ≤ rows.length ∧ i = .int .i64 k ∧ q = .int .i64 (1 + cum rows k)) (fun _ i => rows.length - (intOf i).toNat)
  case atStart => exact ⟨0, Nat.zero_le _, rfl, rfl⟩
  case round =>
    obtain ⟨k, hk, rfl, rfl⟩ := hrel
    have cb := HCB.out k hk
    by_cases hlt : k < rows.length
    · obtain ⟨b, off, u, rfl, hb, c, r⟩ := HR.out k hlt
      rw [numRows_get hlt] at r
      have hl := HS.out k hlt
      have st := cum_succ hlt
      generalize rows.getD k [] = xs at r hl st
      have R1 := Lib.hid r; clear r
      have HST := Lib.hid st; clear st
      generalize cum rows k = q at R1 HST cb ⊢
      go_wp2_with fail
      refine (heldIntS_v _ xs.length (1 + (q : Int)) _ (by omega) (by omega) (by omega) R1.out).mono ?_
      rintro e w' ⟨rfl, rfl⟩
      go_wp2
      go_round
      case rel => exact ⟨k + 1, by omega, by go_num, by rw [HST.out]; simp; omega⟩
      case measure => simp [intOf]; omega
    · have he : k = rows.length := by omega
      subst he
      go_wp2
      go_ret
      exact ⟨rfl, rfl⟩


/-- The rows but the first k still hold what they held. -/
def mixR (rows : List (List Int)) (k : Nat) : List (List Int) := tab rows.length fun i => if i < k then tab (rows.getD i []).length fun j => 1 + (cum rows i : Int) + j else rows.getD i []
theorem mixR_length (rows : List (List Int)) (k : Nat) : (mixR rows k).length = rows.length := tab_length _ _
theorem mixR_zero (rows : List (List Int)) : mixR rows 0 = rows := by
  unfold mixR
  simp only [Nat.not_lt_zero, if_false]
  exact tab_self rows []
theorem mixR_full (rows : List (List Int)) : mixR rows rows.length = numRows rows 1 := by
  unfold mixR numRows
  exact tab_congr fun i hi => by rw [if_pos hi]
theorem mixR_at {rows : List (List Int)} {k i : Nat} (h : i < rows.length) (hk : k ≤ i) : (mixR rows k).getD i [] = rows.getD i [] := by
  unfold mixR
  rw [tab_getD h, if_neg (by omega)]

theorem ResR.step {w w1 : World} {B g cap : Nat} {vs : List Value} {rows rows' : List (List Int)} {k : Nat} (hg : B ≤ g) (ho : Own w g 23 vs) (hl : vs.length = rows.length)
    (hr : ∀ i, i < rows.length → ResI w B 3 (vs.getD i undef) (rows.getD i [])) (hd : ∀ i j, i < rows.length → j < rows.length → i ≠ j → ∀ q, (vs.getD i undef).ownBlock = some q → (vs.getD j undef).ownBlock ≠ some q)
    (hk : k < rows.length) (hgr : w.grownBy w1 (vs.getD k undef).ownBlock) (hn : ResI w1 B 3 (vs.getD k undef) (rows'.getD k [])) (hl' : rows'.length = rows.length)
    (he : ∀ i, i < rows.length → i ≠ k → rows'.getD i [] = rows.getD i []) : ResR w1 B (.slice (some ⟨g, 0, none⟩) rows'.length cap) rows' := by
  refine Or.inr ⟨g, cap, vs, rfl, hg, ho.grown hgr ?_, by omega, fun i hi => ?_, by rw [hl']; exact hd⟩
  · intro e
    rcases hr k hk with ⟨h, _⟩ | ⟨q, c, h, _, ho'⟩
    · rw [h] at e; simp [Value.ownBlock] at e
    · rw [h] at e
      simp only [Value.ownBlock, Option.some.injEq] at e
      subst e
      exact ho.ne_of_type ho' (by decide) rfl
  · by_cases e : i = k
    · subst e; exact hn
    · rw [he i (by omega) e]
      exact (hr i (by omega)).grown hgr (fun q hq hk' => hd i k (by omega) hk e q hq hk')

set_option maxHeartbeats 800000 in
set_option maxRecDepth 100000 in
theorem markIntSS_res (B : Nat) (v : Value) (rows : List (List Int)) (w : World) (hs : smallR rows) (hB : B ≤ w.heap.size) (hr : ResR w B v rows) :
    Calls Try.prog 31 #[v, .int .i64 1] w fun e w' => e = .returned (.int .i64 (1 + cum rows rows.length)) ∧ ResR w' B v (numRows rows 1) ∧ Below B w w' := by
  have HCB := Lib.hid (cum_bound hs)
  obtain ⟨hs1, hs2⟩ := hs
  have HS := Lib.hid hs2; clear hs2
  obtain ⟨ad, cap, rfl⟩ : ∃ ad cap, v = .slice ad rows.length cap := by
    rcases hr with ⟨rfl, rfl⟩ | ⟨g, cap, vs, rfl, _⟩
    · exact ⟨none, 0, rfl⟩
    · exact ⟨_, cap, rfl⟩
  have HR := Lib.hid hr; clear hr
  go_enter Try.func31, Try.ntmps31
  go_wp2
  go_loopw [1, 5] (fun q i wr => ∃ k : Nat, k ≤ rows.length ∧ i = .int .i64 k ∧ q = .int .i64 (1 + cum rows k) ∧ ResR wr B (.slice ad rows.length cap) (mixR rows k) ∧ Below B w wr) (fun _ i _ => rows.length - (intOf i).toNat)
  case atStart => exact ⟨0, Nat.zero_le _, rfl, rfl, by rw [mixR_zero]; exact HR.out, Below.refl _ _⟩
  case round =>
    obtain ⟨k, hk, rfl, rfl, hres, hbel⟩ := hrel
    have cb := HCB.out k hk
    by_cases hlt : k < rows.length
    · rcases hres with ⟨_, h0⟩ | ⟨g, cap', vs, hv, hg, ho, hl, hrr, hd⟩
      · have := congrArg List.length h0; rw [mixR_length] at this; exact absurd this (by simp only [List.length_nil]; omega)
      rw [mixR_length] at hv hl hrr hd
      simp only [Value.slice.injEq] at hv
      obtain ⟨rfl, _, rfl⟩ := hv
      have r0 := hrr k hlt
      rw [mixR_at hlt (Nat.le_refl _)] at r0
      have hkv : k < vs.length := hl ▸ hlt
      have c0 := ho.cell? (i := k) (v := vs.getD k undef) (by simp [List.getD, hkv])
      obtain ⟨u, hu⟩ : ∃ u, vs.getD k undef = u := ⟨_, rfl⟩
      rw [hu] at r0 c0
      have hlk := HS.out k hlt
      have st := cum_succ hlt
      have HST := Lib.hid st; clear st
      have HO := Lib.hid ho; clear ho
      have HRR := Lib.hid hrr; clear hrr
      have HD := Lib.hid hd; clear hd
      have HU := Lib.hid hu; clear hu
      have HL := Lib.hid hl; clear hl
      have R0 := Lib.hid r0; clear r0
      have hbs := hbel.size
      have cb0 : (0 : Int) ≤ 1 + cum rows k := by omega
      have cb1 : (1 : Int) + cum rows k ≤ 1099511627776 := by omega
      obtain ⟨c, hc⟩ : ∃ c : Int, 1 + (cum rows k : Int) = c := ⟨_, rfl⟩
      rw [hc] at cb0 cb1
      have HC := Lib.hid hc; clear hc
      rw [HC.out]
      go_wp2_with fail
      refine (markIntS_fine B u (rows.getD k []) c _ (by omega) cb0 cb1 R0.out).mono ?_
      rintro e w1 ⟨rfl, hr1, hgr⟩
      have HR1 := Lib.hid hr1; clear hr1
      go_wp2
      go_roundw
      case rel =>
        refine ⟨k + 1, by omega, by go_num, ?_, ?_, ?_⟩
        · have h1 := HST.out; have h2 := HC.out; have h3 : rows[k].length = (rows.getD k []).length := by simp [List.getD, hlt]
          congr 1; omega
        · have := ResR.step (rows := mixR rows k) (rows' := mixR rows (k + 1)) (k := k) (w1 := w1) (cap := cap) hg HO.out (by rw [mixR_length]; exact HL.out) (by rw [mixR_length]; exact HRR.out) (by rw [mixR_length]; exact HD.out) (by rw [mixR_length]; exact hlt)
            (by rw [HU.out]; exact hgr) ?_ (by rw [mixR_length, mixR_length]) (fun i hi hne => ?_)
          · rw [mixR_length] at this; exact this
          · rw [HU.out]
            have : (mixR rows (k + 1)).getD k [] = tab (rows.getD k []).length fun i => c + i := by
              unfold mixR; rw [tab_getD hlt, if_pos (by omega), HC.out]
            rw [this]; exact HR1.out
          · rw [mixR_length] at hi
            unfold mixR
            rw [tab_getD hi, tab_getD hi]
            by_cases h : i < k
            · rw [if_pos h, if_pos (by omega)]
            · rw [if_neg h, if_neg (by omega)]
        · refine hbel.grown hgr (Nat.le_trans hB hbs) (fun q e => ?_)
          rcases R0.out with ⟨h, _⟩ | ⟨q', c, h, h2, _⟩
          · rw [h] at e; simp [Value.ownBlock] at e
          · rw [h] at e
            simp only [Value.ownBlock, Option.some.injEq] at e
            omega
      case measure => simp [intOf]; omega
    · have he : k = rows.length := by omega
      subst he
      have HH := Lib.hid hres; clear hres
      go_wp2
      go_ret
      refine ⟨rfl, ?_, hbel⟩
      rw [← mixR_full]; exact HH.out

end Go.Proofs.Ytkbkemcigcdoaaa
