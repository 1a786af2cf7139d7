/-
  Some texts of this proof in one: PfD PfB PfC. Each part tells what it proves. By an AI agent.
-/
import Derived.Test.YtfgdhlnmndgjbaaGreatDoorPfA
import Derived.Test.YtfgdhlnmndgjbaaGreatDoorRowI
import Derived.Maps.AppendAt

/-
  The text of numbers with a separator, as the program writes it. By an AI agent.
-/
namespace Go.Proofs.YtfgdhlnmndgjbaaGreatDoor
open Go.RowKit

/-- The text of numbers. -/
def numsTxt (c : UInt8) (l : List Int) : List UInt8 := Lib.join (l.map numTxt) [c]
theorem tail_len (c : UInt8) (M : Nat) : ∀ r : List (List UInt8), (∀ x ∈ r, x.length ≤ M) → (Lib.joinTail [c] r).length ≤ r.length * (M + 1)
  | [], _ => by simp [Lib.joinTail]
  | x :: r, h => by
    have ih := tail_len c M r (fun y hy => h y (List.mem_cons_of_mem _ hy))
    have hx := h x (by simp)
    unfold Lib.joinTail at *
    rw [List.map_cons, List.flatten_cons, List.length_append, List.length_append, List.length_singleton, List.length_cons, Nat.succ_mul]
    omega
theorem join_len (c : UInt8) (M : Nat) (r : List (List UInt8)) (h : ∀ x ∈ r, x.length ≤ M) : (Lib.join r [c]).length ≤ r.length * (M + 1) := by
  cases r with
  | nil => simp [Lib.join_nil]
  | cons x r =>
    have ih := tail_len c M r (fun y hy => h y (List.mem_cons_of_mem _ hy))
    have hx := h x (by simp)
    rw [Lib.join_cons, List.length_append, List.length_cons, Nat.succ_mul]
    omega
theorem numTxt_lenP {n : Int} (h : numB n = true) : (numTxt n).length ≤ 21 := by
  have hb := numB_bd h
  unfold numTxt
  split
  · decide
  · exact itoa_len (by omega) (by omega)
theorem nums_len {c : UInt8} {l : List Int} (h : ∀ n ∈ l, numB n = true) : (numsTxt c l).length ≤ l.length * 22 := by
  have := join_len c 21 (l.map numTxt) (fun x hx => by
    obtain ⟨n, hn, rfl⟩ := List.mem_map.1 hx
    exact numTxt_lenP (h n hn))
  rw [List.length_map] at this
  exact this
def txB (n : Int) : ByteArray := ⟨(numTxt n).toArray⟩

set_option maxRecDepth 100000 in
set_option maxHeartbeats 3200000 in
theorem numbersText_c (ad : Option Addr) (cap : Nat) (l : List Int) (c : UInt8) (w : World) (hr : RdI w ad l) (h0 : 0 < l.length) (hl : l.length ≤ 1000) (hb : ∀ n ∈ l, numB n = true) (hL : LaidS w) :
    Calls Tryz.prog 71 #[.slice ad l.length cap, .string ⟨#[c]⟩] w fun e w' => e = .returned (strV (numsTxt c l)) ∧ Below w.heap.size w w' := by
  obtain ⟨i0, hi0, hz0, hz1, hz2⟩ := info_parts Tryz.infoS
  have HR := Lib.hid hr; clear hr
  have HB := Lib.hid hb
  have hjl := nums_len (c := c) hb
  have HL := Lib.hid hL; clear hL hb
  have hJ : ∀ (g cap' : Nat) (wr : World), Own wr g 9 (strs (l.map txB)) → l.length ≤ cap' → Calls Tryz.prog 90 #[.slice (some ⟨g, 0, none⟩) l.length cap', .string ⟨#[c]⟩] wr fun e w' => e = .returned (strV (numsTxt c l)) ∧ Below wr.heap.size wr w' := fun g cap' wr ho hc => by
    have hm : (l.map txB).map (·.data.toList) = l.map numTxt := by rw [List.map_map]; rfl
    have hn : (l.map txB).length = l.length := List.length_map ..
    have := Tryz.strings_Join g 0 cap' (l.map txB) ⟨#[c]⟩ wr (fun j x hx => by
      rw [Nat.zero_add]
      exact Own.cell? ho (by unfold strs; rw [List.getElem?_map, hx]; rfl)) ho.lt (by omega) (by omega) (by rw [hm]; unfold numsTxt at hjl; show (Lib.join (l.map numTxt) [c]).length ≤ _; omega)
    rw [hm, hn] at this
    exact this
  have HJ := Lib.hid hJ; clear hJ hjl
  generalize strV (numsTxt c l) = R at HJ ⊢
  obtain ⟨n, hn⟩ : ∃ n, l.length = n := ⟨_, rfl⟩
  have HN := Lib.hid hn
  rw [hn] at h0 hl HJ ⊢
  clear hn
  go_enter Tryz.func71, Tryz.ntmps71
  go_wp2_with fail
  go_loopw [5, 11] (fun v i wr => ∃ k : Nat, k ≤ n ∧ i = .int .i64 k ∧ wr.ownsRow w.heap.size 9 1 v k (strs ((l.take k).map txB)) ∧ Below w.heap.size w wr) (fun _ i _ => n - (intOf i).toNat)
  case atStart => exact ⟨0, Nat.zero_le _, rfl, row_empty w 9, (Below.refl _ _).alloc (Nat.le_refl _) _⟩
  case round =>
    obtain ⟨wE, rfl⟩ : ∃ x : World, x = wr := ⟨_, rfl⟩
    obtain ⟨k, hk, rfl, hown, hbel⟩ := hrel
    have HO := Lib.hid hown; clear hown
    by_cases hlt : k < n
    case neg =>
      obtain rfl : k = n := by omega
      have hown := HO.out
      rw [List.take_of_length_le (by rw [HN.out]; omega)] at hown
      rcases Own.of_row hown with ⟨_, h0', _⟩ | ⟨g, cap', rfl, hgB, hkc, hcm, ho⟩
      · omega
      have CJ := Lib.hid (HJ.out g cap' wE ho (by omega))
      clear ho hown
      go_wp2_with fail
      refine CJ.out.mono ?_
      rintro e w2 ⟨rfl, hw2⟩
      go_wp2_with fail
      go_ret
      exact ⟨rfl, ball hbel hw2⟩
    case pos =>
      obtain ⟨b, off, rfl, hbl, c0⟩ := HR.out k (by rw [HN.out]; exact hlt)
      have d0 := bcell hbel hbl c0
      have hnum := HB.out (l.getD k 0) (by rw [List.getD_eq_getElem?_getD, List.getElem?_eq_getElem (show k < l.length by rw [HN.out]; exact hlt)]; exact List.getElem_mem _)
      have hst : strs ((l.take (k + 1)).map txB) = strs ((l.take k).map txB) ++ [.string (txB (l.getD k 0))] := by
        rw [List.take_succ_eq_append_getElem (show k < l.length by rw [HN.out]; exact hlt), List.getD_eq_getElem?_getD, List.getElem?_eq_getElem (show k < l.length by rw [HN.out]; exact hlt), List.map_append]
        unfold strs
        rw [List.map_append]
        rfl
      generalize l.getD k 0 = y at d0 hnum hst
      have hbd := numB_bd hnum
      have cn := numberText_c y wE (by omega) (by omega) (HL.out.below hbel)
      unfold strV at cn
      rw [show (⟨(numTxt y).toArray⟩ : ByteArray) = txB y from rfl] at cn
      generalize txB y = T at cn hst
      have CN := Lib.hid cn; have HST := Lib.hid hst
      have x1 : (0 : Int) ≤ (k : Int) := by omega
      have x2 : (k : Int) < (n : Int) := by omega
      clear cn hst c0 hnum hbd
      go_wp2_with fail
      refine CN.out.mono ?_
      rintro e w1 ⟨rfl, hw1⟩
      have hb1 := ball hbel hw1
      have hsz := hb1.size
      have HO1 := Lib.hid (row_below HO.out hw1)
      clear HO
      go_wp2_with (at_builtin; refine wpList_append_lies _ rfl _ _ _ rfl w.heap.size 9 i0 _ 1 16 Tryz.underlying55 hi0 hz0 hz1 hz2 rfl (by omega) _ k _ rfl (HO1.out.alloc _) ⟨w1.heap.size, 0, none⟩ 1 1 [.string T] rfl rfl (World.news_of_block (cs := #[.string T]) (t := 9) (fr := (0, 0)) (heap_alloc_new _ _)) (by simp [Value.oneCell']) (by omega) (by unfold maxLen; omega) (by omega) (by simp; omega) (w1.heap.size + 1) (by simp) ?_; intro gg gcap w2 hown1 hgrow hat hlt2)
      go_roundw
      case rel =>
        refine ⟨k + 1, by omega, by go_num, row_congr hown1 rfl ?_, app_below hb1 hsz HO1.out hgrow⟩
        rw [HST.out]
      case measure => simp [intOf]; omega
end Go.Proofs.YtfgdhlnmndgjbaaGreatDoor

/-
  Numbers with a separator, read by the program: parseNumbers. By an AI agent.
-/
namespace Go.Proofs.YtfgdhlnmndgjbaaGreatDoor
open Go.RowKit Go.Shelf

attribute [local go_sem] Oper.semAt_some

/-- append of numbers in a round, with where the row lies behind. -/
theorem wpListIn_appI {F : Fence} {n : Nat} (w : World) {ops : Array Oper} {rest : List Oper} {o : Oper} {a : Act} {Q : Exit → Act → World → Prop}
    (hg : o.guard = none) (s x : Operand) (hop : o.op = Op.call { callee := Callee.builtin Builtin.append, args := #[s, x], argTypes := #[38, 38] })
    (B : Nat) (v : Value) (xs : List Int) (y : Int) (hs : a.eval s = v) (hown : RowI w B v xs) (b : Nat) (hx : a.eval x = .slice (some ⟨b, 0, none⟩) 1 1) (hc : w.cell? ⟨b, 0, none⟩ = some (.int .i64 y)) (hl : xs.length ≤ 10000000) (hB : B ≤ w.heap.size)
    (hK : ∀ ad cap w', RowI w' B (.slice ad (xs.length + 1) cap) (xs ++ [y]) → w.grownBy w' v.ownBlock → ((Value.slice ad (xs.length + 1) cap).ownBlock = v.ownBlock ∨ (Value.slice ad (xs.length + 1) cap).ownBlock = some w.heap.size) → wpListIn F n Tryz.prog ops Q rest (a.put o.dst (.slice ad (xs.length + 1) cap)) w') :
    wpListIn F n Tryz.prog ops Q (o :: rest) a w := by
  refine wpListIn_plain hg fun K hK' => ?_
  obtain ⟨i0, hi0, hz0, hz1, hz2⟩ := info_parts Tryz.infoI
  obtain ⟨v', w', hrun, r1, r2, _, r4⟩ := run_append_own_at (P := Tryz.prog) w B 38 o.type 3 i0 _ 1 8 Tryz.underlying38 hi0 hz0 hz1 hz2 rfl (by omega) v xs.length (ints xs) hown ⟨b, 0, none⟩ 1 1 [.int .i64 y] rfl (fun j u hu => by
    cases j with
    | zero => simp at hu; subst hu; exact hc
    | succ j => simp at hu) (by simp [Value.oneCell']) (by unfold maxLen; omega) (by omega) hB
  have h1 : RowI w' B v' (xs ++ [y]) := row_congr r1 (by simp) (by simp [ints])
  obtain ⟨ad, cap, e, _⟩ := h1.shape
  rw [List.length_append, List.length_singleton] at e
  subst e
  unfold Oper.wpIn
  refine ⟨?_, ?_⟩
  · simp [Oper.about, hop, resolve, Target.leads, Sem.run_pure]
  · rw [Oper.semAt_plain F _ _ (by rw [hop]; intro c hc'; cases hc')]
    simp [execOp, hop, resolve, invoke, builtin, hs, hx, hrun, Result.andThen]
    exact hK' _ _ (hK ad cap w' h1 r2 r4)

/-- What is known between two rounds. -/
structure InP (w0 : World) (pre : List (List UInt8)) (W : World) (v : Value) : Prop where
  out : Boxed W (w0.heap.size + 3) 38 v
  row : RowI W w0.heap.size v (pre.map fun l => (parseW l).1)
  ok : ∀ l ∈ pre, (parseW l).2 = true
  r1 : Boxed W w0.heap.size 38 (.slice none 0 0)
  r2 : Boxed W (w0.heap.size + 1) 4 (.bool false)
  far : ∀ q, v.ownBlock = some q → q = w0.heap.size + 2 ∨ w0.heap.size + 7 ≤ q
  sz : w0.heap.size + 7 ≤ W.heap.size
  lay : Below w0.heap.size w0 W
/-- A round has ended the reading. -/
structure OutP (w0 : World) (pre : List (List UInt8)) (W : World) : Prop where
  no : ∃ l ∈ pre, (parseW l).2 = false
  r1 : Boxed W w0.heap.size 38 (.slice none 0 0)
  r2 : Boxed W (w0.heap.size + 1) 4 (.bool false)
  sz : w0.heap.size + 7 ≤ W.heap.size
  lay : Below w0.heap.size w0 W
theorem not_row {W : World} {b B0 : Nat} {t : TypeId} {v : Value} {row : Option Nat} (h : Boxed W b t v) (hr : ∀ r, row = some r → B0 ≤ r ∧ ∃ o : Obj, W.heap[r]? = some o ∧ o.isCells = false) : some b ≠ row := fun e => by
  obtain ⟨_, o, ho, hc⟩ := hr b e.symm
  rw [show W.heap[b]? = _ from h] at ho
  cases ho; cases hc
theorem RowI.kept {W W' : World} {B B0 : Nat} {v : Value} {xs : List Int} {row : Option Nat} (h : RowI W B v xs) (hg : W.grownBy W' row) (hr : ∀ r, row = some r → B0 ≤ r ∧ ∃ o : Obj, W.heap[r]? = some o ∧ o.isCells = false) : RowI W' B v xs := by
  refine World.ownsRow.kept h hg ?_
  rcases h.2 with ⟨rfl, _⟩ | ⟨g, cap, cur, rfl, _, hgb, _⟩
  · exact .inl rfl
  · refine .inr fun e' => ?_
    obtain ⟨_, o, ho, hc⟩ := hr g (by simpa [Value.ownBlock] using e'.symm)
    rw [hgb] at ho; cases ho; cases hc
theorem inP_own (w0 : World) {B0 : Nat} (hB : w0.heap.size ≤ B0) : OwnFrom B0 (fun pre W => ∃ v, InP w0 pre W v) := by
  rintro pre W W' row ⟨v, h⟩ hg hr
  exact ⟨v, h.out.kept hg (not_row h.out hr), h.row.kept hg hr, h.ok, h.r1.kept hg (not_row h.r1 hr), h.r2.kept hg (not_row h.r2 hr), h.far, Nat.le_trans h.sz hg.size, h.lay.grown hg h.lay.size (fun k e => Nat.le_trans hB (hr k e).1)⟩
theorem outP_own (w0 : World) {B0 : Nat} (hB : w0.heap.size ≤ B0) : OwnFrom B0 (fun pre W => OutP w0 pre W) := by
  rintro pre W W' row h hg hr
  exact ⟨h.no, h.r1.kept hg (not_row h.r1 hr), h.r2.kept hg (not_row h.r2 hr), Nat.le_trans h.sz hg.size, h.lay.grown hg h.lay.size (fun k e => Nat.le_trans hB (hr k e).1)⟩
theorem box_more {W W' : World} {b : Nat} {t : TypeId} {v : Value} (h : Boxed W b t v) (hb : Below W.heap.size W W') : Boxed W' b t v := heap_more hb h
theorem box_set {W : World} {b c : Nat} {t : TypeId} {v u : Value} (h : Boxed W b t v) (hne : b ≠ c) : Boxed (W.setCell ⟨c, 0, none⟩ u) b t v := (heap_set W c u hne).trans h
theorem inP_bears (w0 : World) : Bears (w0.heap.size + 4) (fun pre W => ∃ v, InP w0 pre W v) :=
  ⟨fun pre W u ⟨v, h⟩ => ⟨v, box_set h.out (by omega), World.ownsRow.kept h.row (grownBy_setCell' W _ u) (.inr fun e => by have := h.far _ e; omega), h.ok, box_set h.r1 (by omega), box_set h.r2 (by omega), h.far, by simpa [World.setCell] using h.sz, h.lay.setCell (p := ⟨w0.heap.size + 4, 0, none⟩) (by simp) u⟩,
   fun pre W W' ⟨v, h⟩ hb => ⟨v, box_more h.out hb, h.row.below hb, h.ok, box_more h.r1 hb, box_more h.r2 hb, h.far, Nat.le_trans h.sz hb.size, ball h.lay (hb)⟩⟩
theorem outP_bears (w0 : World) : Bears (w0.heap.size + 4) (fun pre W => OutP w0 pre W) :=
  ⟨fun pre W u h => ⟨h.no, box_set h.r1 (by omega), box_set h.r2 (by omega), by simpa [World.setCell] using h.sz, h.lay.setCell (p := ⟨w0.heap.size + 4, 0, none⟩) (by simp) u⟩,
   fun pre W W' h hb => ⟨h.no, box_more h.r1 hb, box_more h.r2 hb, Nat.le_trans h.sz hb.size, ball h.lay hb⟩⟩
end Go.Proofs.YtfgdhlnmndgjbaaGreatDoor

/-
  Numbers with a separator, read by the program: parseNumbers, the walk. By an AI agent.
-/
namespace Go.Proofs.YtfgdhlnmndgjbaaGreatDoor
open Go.RowKit Go.Shelf

attribute [local go_sem] Oper.semAt_some

def okN (c : UInt8) (s : List UInt8) : Bool := (splitB c.toNat s).all fun l => (parseW l).2
def valN (c : UInt8) (s : List UInt8) : List Int := (splitB c.toNat s).map fun l => (parseW l).1
def IntsB (w : World) (b : Bool) (l : List Int) (e : Ending) (w' : World) : Prop := ∃ v, e = .returned (.tuple #[v, .bool b]) ∧ RowI w' w.heap.size v (if b = true then l else []) ∧ Below w.heap.size w w'

theorem splitB_lenC (b : Nat) : ∀ l, (splitB b l).length ≤ l.length + 1
  | [] => by simp [splitB]
  | x :: l => by
    have := splitB_lenC b l
    unfold splitB
    split
    · simp only [List.length_cons]; omega
    · split
      · rename_i h; rw [h] at this; simp only [List.length_cons] at *; omega
      · simp
theorem splitB_mem_lenC (b : Nat) : ∀ l, ∀ p ∈ splitB b l, p.length ≤ l.length
  | [], p, h => by simp [splitB] at h; subst h; simp
  | x :: l, p, h => by
    have ih := splitB_mem_lenC b l
    unfold splitB at h
    split at h
    · rcases List.mem_cons.1 h with e | e
      · subst e; simp
      · have := ih p e; simp only [List.length_cons]; omega
    · split at h
      · rename_i q qs hq
        rcases List.mem_cons.1 h with e | e
        · subst e; have := ih q (by rw [hq]; simp); simp only [List.length_cons]; omega
        · have := ih p (by rw [hq]; exact List.mem_cons_of_mem _ e); simp only [List.length_cons]; omega
      · simp at h; subst h; simp
theorem ko_below {W W' : World} (h : Below W.heap.size W W') : KeepsOthers W W' := ⟨h.size, fun _ _ hk _ => heap_more h hk⟩
theorem BxS.below {w w' : World} {Bs : Nat} {r : List UInt8} {c : UInt8} (h : BxS w Bs r c) (hb : Below w.heap.size w w') : BxS w' Bs r c := ⟨Own.belowAll h.s hb, Own.belowAll h.p hb, Own.belowAll h.n hb⟩
/-- The world in which the loop begins. -/
def wSeq (w : World) (s : List UInt8) (c : UInt8) : World := ((((((w.alloc (.cells #[.slice none 0 0] 38)).alloc (.cells #[.bool false] 4)).alloc (.cells #[] 3)).alloc (.cells #[.slice (some ⟨w.heap.size + 1 + 1, 0, none⟩) 0 0] 38)).alloc (.cells #[.string ⟨s.toArray⟩] 9)).alloc (.cells #[.string ⟨#[c]⟩] 9)).alloc (.cells #[.int .i64 0] 3)
theorem wSeq_size (w : World) (s : List UInt8) (c : UInt8) : (wSeq w s c).heap.size = w.heap.size + 7 := by unfold wSeq; simp
theorem wSeq_below (w : World) (s : List UInt8) (c : UInt8) : Below w.heap.size w (wSeq w s c) := bal_alloc (bal_alloc (bal_alloc (bal_alloc (bal_alloc (bal_alloc (bal_alloc (Below.refl _ _)))))))
theorem wSeq_box (w : World) (s : List UInt8) (c : UInt8) : BxS (wSeq w s c) (w.heap.size + 4) s c := by
  unfold wSeq
  generalize hX : (((w.alloc (.cells #[.slice none 0 0] 38)).alloc (.cells #[.bool false] 4)).alloc (.cells #[] 3)).alloc (.cells #[.slice (some ⟨w.heap.size + 1 + 1, 0, none⟩) 0 0] 38) = X
  have e : X.heap.size = w.heap.size + 4 := by rw [← hX]; simp
  rw [← e]
  refine ⟨Own.alloc (Own.alloc (Own.newA X _ _ rfl) _) _, ?_, ?_⟩
  · have := Own.newA (X.alloc (.cells #[.string ⟨s.toArray⟩] 9)) #[.string ⟨#[c]⟩] 9 (cs := [.string ⟨#[c]⟩]) rfl
    rw [World.size_alloc] at this
    exact Own.alloc this _
  · have := Own.newA ((X.alloc (.cells #[.string ⟨s.toArray⟩] 9)).alloc (.cells #[.string ⟨#[c]⟩] 9)) #[.int .i64 0] 3 (cs := [.int .i64 0]) rfl
    rw [World.size_alloc, World.size_alloc] at this
    exact this
theorem wSeq_inP (w : World) (s : List UInt8) (c : UInt8) : InP w [] (wSeq w s c) (.slice (some ⟨w.heap.size + 1 + 1, 0, none⟩) 0 0) := by
  have b := wSeq_below w s c
  have z := wSeq_size w s c
  refine ⟨?_, ?_, (fun l h => by cases h), ?_, ?_, (fun q e => ?_), by omega, b⟩
  · unfold wSeq
    generalize hX : ((w.alloc (.cells #[.slice none 0 0] 38)).alloc (.cells #[.bool false] 4)).alloc (.cells #[] 3) = X
    have e : X.heap.size = w.heap.size + 3 := by rw [← hX]; simp
    rw [← e]
    exact (((Boxed.new X _ _).alloc _).alloc _).alloc _
  · unfold wSeq
    have h := World.ownsRow_made (e := 3) (size := 1) (base := w.heap.size) ((w.alloc (.cells #[.slice none 0 0] 38)).alloc (.cells #[.bool false] 4)) #[] 0 (by simp; omega) (by decide) rfl
    simp only [World.size_alloc] at h
    exact RowI.below h (bal_alloc (bal_alloc (bal_alloc (bal_alloc (Below.refl _ _)))))
  · unfold wSeq
    exact ((((((Boxed.new w _ _).alloc _).alloc _).alloc _).alloc _).alloc _).alloc _
  · unfold wSeq
    have h := Boxed.new (w.alloc (.cells #[.slice none 0 0] 38)) 4 (.bool false)
    rw [World.size_alloc] at h
    exact ((((h.alloc _).alloc _).alloc _).alloc _).alloc _
  · simp [Value.ownBlock] at e
    omega

set_option maxRecDepth 100000 in
set_option maxHeartbeats 4000000 in
theorem parseNumbers_c (s : List UInt8) (c : UInt8) (w : World) (hs : s.length ≤ 100000) (hL : LaidL w) :
    Calls Tryz.prog 42 #[.string ⟨s.toArray⟩, .string ⟨#[c]⟩] w (IntsB w (okN c s) (valN c s)) := by
  refine (callsIn_wide (n := 3)).1 ?_
  refine callsIn_of_wp_marks Tryz.func42 rfl trivial ?_ rfl
  simp only [Tryz.ntmps42, List.size_toArray, List.length_cons, List.length_nil, Nat.reduceAdd, Nat.reduceSub, Array.replicate_succ, Array.replicate_zero, List.push_toArray, List.append_toArray, List.nil_append, List.cons_append]
  obtain ⟨S, hS⟩ : ∃ S : ByteArray, S = ⟨s.toArray⟩ := ⟨_, rfl⟩
  rw [← hS]
  have HS := Lib.hid hS; clear hS
  gi_wp2_with (refine ⟨trivial, ?_⟩; gi_at_call 76; refine (callsIn_wide.2 (splitSeq_c _ c _)).mono ?_; rintro e w' ⟨rfl, rfl⟩)
  rw [HS.out]
  change Code.wpIn _ _ _ _ _ _ (wSeq w s c)
  have hz := wSeq_size w s c
  refine range_box (Bs := w.heap.size + 4) (encs := fun x : List UInt8 => #[Value.string ⟨x.toArray⟩]) (Kp := KpS (w.heap.size + 4)) (S := fun xs => xs = splitB c.toNat s) (Sp := fun pre => pre <+: splitB c.toNat s) rfl (by omega) (gf := 102)
    (lb := #[.pointer (some ⟨w.heap.size + 4 + 1, 0, none⟩), .pointer (some ⟨w.heap.size + 4, 0, none⟩), .pointer (some ⟨w.heap.size + 4 + 2, 0, none⟩)]) rfl trivial (enters_of Tryz.func102 (by kernel_rfl) rfl)
    (fun l J Jx W hW bJ _ hY h0 => splitSeq1_in _ l (w.heap.size + 4) c s (by omega) (by omega) J Jx bJ hY W ((wSeq_box w s c).below hW) h0) (by omega)
    (fun h k b hb => (k b hb).trans (h b hb)) (fun W l o hl b hb => World.putObj_heap_other (by omega)) (fun _ => rfl)
    (fun pre W => ∃ v, InP w pre W v) (fun pre W => OutP w pre W) (inP_own w (by omega)) (outP_own w (by omega)) (inP_bears w) (outP_bears w) ⟨_, wSeq_inP w s c⟩
    (fun x => { tmps := #[.string ⟨s.toArray⟩, .string ⟨#[c]⟩, undef, undef, .pointer (some ⟨w.heap.size, 0, none⟩), .pointer (some ⟨w.heap.size + 1, 0, none⟩), .pointer (some ⟨w.heap.size + 1 + 1 + 1, 0, none⟩), .string ⟨x.toArray⟩, undef, undef,
      .slice (some ⟨w.heap.size + 1 + 1, 0, none⟩) 0 0, .string ⟨s.toArray⟩, .string ⟨#[c]⟩, .func (.func 102) #[] #[.pointer (some ⟨w.heap.size + 1 + 1 + 1 + 1 + 1, 0, none⟩), .pointer (some ⟨w.heap.size + 1 + 1 + 1 + 1, 0, none⟩), .pointer (some ⟨w.heap.size + 1 + 1 + 1 + 1 + 2, 0, none⟩)],
      .string ⟨x.toArray⟩, undef, undef, undef, undef, undef, undef, undef, undef, undef, undef, undef, undef], defers := [] }) ?assign ?body ?done ?stop
  case assign =>
    intro l x W K hK
    gi_wp2
    exact hK
  case body =>
    rintro l pre x W ⟨v, h⟩ hsp
    have hxl : x.length ≤ 1000000 := by
      have hm : x ∈ splitB c.toNat s := hsp.subset (by simp)
      have := splitB_mem_lenC c.toNat s x hm
      omega
    have hn := h.sz
    have pn := parseNumber_G ⟨x.toArray⟩ W (by simp [ByteArray.size]; omega) (hL.below h.lay)
    rw [ByteArray.toList_mk] at pn
    have hpl : pre.length ≤ 1000000 := by
      have h1 := hsp.length_le
      have h2 := splitB_lenC c.toNat s
      rw [List.length_append, List.length_singleton] at h1
      omega
    obtain ⟨pv, hpv⟩ : ∃ pv, parseW x = pv := ⟨_, rfl⟩
    rw [hpv] at pn
    have HPV := Lib.hid hpv; clear hpv
    obtain ⟨y, b⟩ := pv
    unfold pairQ at pn
    simp only at pn
    have PN := Lib.hid pn; clear pn
    obtain ⟨ad0, cap0, hvv, _⟩ := h.row.shape
    subst hvv
    have HI := Lib.hid h; clear h
    generalize (⟨x.toArray⟩ : ByteArray) = X at PN
    cases b
    case false =>
      gi_wp2_with (refine ⟨trivial, ?_⟩; gi_at_call 77; refine (CallsIn.inRound l (callsIn_wide.2 PN.out)).mono ?_; rintro e w' ⟨rfl, hb⟩; have o1 := box_more HI.out.r1 hb; have o2 := box_more HI.out.r2 hb; have c1 := o1.cell; have c2 := o2.cell; have f1 := o1.frozen; have f2 := o2.frozen)
      exact ⟨((ko_below hb).trans (KeepsOthers.setCell _ _ _)).trans (KeepsOthers.setCell _ _ _), ⟨⟨x, by simp, by rw [HPV.out]⟩, box_set (o1.set (.slice none 0 0)) (by omega), (box_set o2 (by omega)).set (.bool false), by have := hb.size; simp [World.setCell]; omega,
        ((ball HI.out.lay hb).setCell (p := ⟨w.heap.size, 0, none⟩) (Nat.le_refl _) _).setCell (p := ⟨w.heap.size + 1, 0, none⟩) (by simp) _⟩⟩
    case true =>
      have hfar := HI.out.far
      have hml : (pre.map fun l => (parseW l).1).length ≤ 10000000 := by rw [List.length_map]; omega
      have HRW := Lib.hid (fun (w' : World) (hb : Below W.heap.size W w') => HI.out.row.below hb)
      have HROK := Lib.hid HI.out.ok
      have hpm : (pre ++ [x]).map (fun l => (parseW l).1) = (pre.map fun l => (parseW l).1) ++ [y] := by rw [List.map_append, List.map_cons, List.map_nil, HPV.out]
      have HPM := Lib.hid hpm; clear hpm
      generalize (pre.map fun l => (parseW l).1) = L at HI HRW HPM hml hfar
      have HFAR := Lib.hid hfar; clear hfar
      gi_wp2_with (first
        | (refine ⟨trivial, ?_⟩; gi_at_call 77; refine (CallsIn.inRound l (callsIn_wide.2 PN.out)).mono ?_; rintro e w' ⟨rfl, hb⟩; have o3 := box_more HI.out.out hb; have c3 := o3.cell; have f3 := o3.frozen; have hbz := hb.size)
        | (gi_at_builtin; refine wpListIn_appI _ rfl _ _ rfl w.heap.size (.slice ad0 L.length cap0) L y rfl (RowI.below (HRW.out _ hb) ((Below.refl _ _).alloc (Nat.le_refl _) _)) w'.heap.size rfl (by simp [go_sem]) hml (by simp; omega) ?_; intro ad1 cap1 w2 hown hgrow hob; have o4 := (o3.alloc (.cells #[.int .i64 y] 3)).kept hgrow (fun e => by have := HFAR.out _ e.symm; omega); have c4 := o4.cell; have f4 := o4.frozen))
      have hro : RowI (w'.alloc (.cells #[.int .i64 y] 3)) w.heap.size (.slice ad0 L.length cap0) L := RowI.below (HRW.out _ hb) ((Below.refl _ _).alloc (Nat.le_refl _) _)
      have hnf : ∀ q, (Value.slice ad1 (L.length + 1) cap1).ownBlock = some q → q = w.heap.size + 2 ∨ w.heap.size + 7 ≤ q := fun q e => by
        rcases hob with e2 | e2
        · exact HFAR.out q (e2.symm.trans e)
        · rw [e] at e2
          injection e2 with e2
          simp at e2
          omega
      have hz2 : w'.heap.size + 1 ≤ w2.heap.size := by have := hgrow.size; simp at this; omega
      have k1 := ((box_more HI.out.r1 hb).alloc (.cells #[.int .i64 y] 3)).kept hgrow (fun e => by have := HFAR.out _ e.symm; omega)
      have k2 := ((box_more HI.out.r2 hb).alloc (.cells #[.int .i64 y] 3)).kept hgrow (fun e => by have := HFAR.out _ e.symm; omega)
      refine ⟨(ko_below hb).trans ((KeepsOthers.alloc _ _).trans ((KeepsOthers.of_grownBy hgrow (fun j o ej hj => ?_)).trans (KeepsOthers.setCell _ _ _))), (fun b hbb => ?_), _, ⟨o4.set _, ?_, ?_, box_set k1 (by omega), box_set k2 (by omega), hnf, by simp [World.setCell]; omega, ?_⟩⟩
      · rcases hro.2 with ⟨e0, _⟩ | ⟨g, cap, cur, e0, _, hgb, _⟩
        · rw [e0] at ej; simp [Value.ownBlock] at ej
        · rw [e0] at ej
          obtain rfl : g = j := by simpa [Value.ownBlock] using ej
          rw [hgb] at hj; cases hj; rfl
      · have hlt : b < W.heap.size := by omega
        refine (heap_set w2 _ _ (by omega)).trans ((hgrow.block b (by simp; omega) (fun e => by have := HFAR.out _ e.symm; omega)).trans ((((Below.refl w'.heap.size w').alloc (Nat.le_refl _) _).block b (by omega)).trans (hb.block b hlt)))
      · rw [HPM.out]
        exact World.ownsRow.kept hown (grownBy_setCell' w2 _ _) (.inr fun e => by have := hnf _ e; omega)
      · intro q hq
        rcases List.mem_append.1 hq with h1 | h1
        · exact HROK.out q h1
        · simp at h1; rw [h1, HPV.out]
      · exact (app_below (ball HI.out.lay hb) (by omega) (HRW.out _ hb) hgrow).setCell (p := ⟨w.heap.size + 1 + 1 + 1, 0, none⟩) (by simp; omega) _
  case done =>
    rintro D xs W hD rfl ⟨v, h⟩ hK
    obtain ⟨ad0, cap0, rfl, _⟩ := h.row.shape
    have hok : okN c s = true := by
      unfold okN
      rw [List.all_eq_true]
      exact fun q hq => h.ok q hq
    generalize hn : ((splitB c.toNat s).map (fun l => (parseW l).1)).length = n at h
    have hrow : RowI W w.heap.size (.slice ad0 n cap0) (valN c s) := h.row
    have HI := Lib.hid h
    have HRW := Lib.hid hrow
    clear hn hrow
    have c1 := h.r1.cell
    have c2 := h.r2.cell
    have c3 := h.out.cell
    have f1 := h.r1.frozen
    have f2 := h.r2.frozen
    have hsz := h.sz
    clear h
    gi_wp2
    have hW3 : ((W.setCell ⟨w.heap.size, 0, none⟩ (.slice ad0 n cap0)).setCell ⟨w.heap.size + 1, 0, none⟩ (.bool true)).heap[D]? = some (.deferred (some [])) := (heap_set _ _ _ (by omega)).trans ((heap_set _ _ _ (by omega)).trans hK)
    have b1 : Boxed ((W.setCell ⟨w.heap.size, 0, none⟩ (.slice ad0 n cap0)).setCell ⟨w.heap.size + 1, 0, none⟩ (.bool true)) w.heap.size 38 (.slice ad0 n cap0) := box_set (HI.out.r1.set _) (by omega)
    have b2 : Boxed ((W.setCell ⟨w.heap.size, 0, none⟩ (.slice ad0 n cap0)).setCell ⟨w.heap.size + 1, 0, none⟩ (.bool true)) (w.heap.size + 1) 4 (.bool true) := (box_set HI.out.r2 (by omega)).set _
    have hr : RowI ((W.setCell ⟨w.heap.size, 0, none⟩ (.slice ad0 n cap0)).setCell ⟨w.heap.size + 1, 0, none⟩ (.bool true)) w.heap.size (.slice ad0 n cap0) (valN c s) :=
      World.ownsRow.kept (World.ownsRow.kept HRW.out (grownBy_setCell' W _ _) (.inr fun e => by have := HI.out.far _ e; omega)) (grownBy_setCell' _ _ _) (.inr fun e => by have := HI.out.far _ e; omega)
    have hl := (HI.out.lay.setCell (p := ⟨w.heap.size, 0, none⟩) (Nat.le_refl _) (.slice ad0 n cap0)).setCell (p := ⟨w.heap.size + 1, 0, none⟩) (by simp) (.bool true)
    generalize (W.setCell ⟨w.heap.size, 0, none⟩ (.slice ad0 n cap0)).setCell ⟨w.heap.size + 1, 0, none⟩ (.bool true) = W3 at hW3 b1 b2 hr hl ⊢
    have g3 := (b1.kept (grownBy_putObj' W3 D (.deferred none)) (fun e => by injection e with e; omega)).cell
    have g4 := (b2.kept (grownBy_putObj' W3 D (.deferred none)) (fun e => by injection e with e; omega)).cell
    refine ⟨by simp, .inl ⟨_, _, rfl, run_takeDeferred hW3, ?_⟩⟩
    refine ⟨.tuple #[.slice ad0 n cap0, .bool true], ?_, ?_⟩
    · simp [results, Tryz.results42, go_sem, g3, g4]
    · exact ⟨_, by rw [hok], by rw [hok, if_pos rfl]; exact ownsRow_putObj hr _ hW3 rfl, hl.trans (belowK_b (w := w) (Nat.le_refl _) W3 D _ _ (by omega) hW3 rfl rfl)⟩
  case stop =>
    rintro D pre W hD hsp h hK
    gi_wp2
    have hok : okN c s = false := by
      obtain ⟨q, hq, hq2⟩ := h.no
      unfold okN
      rw [List.all_eq_false]
      exact ⟨q, hsp.subset hq, by rw [hq2]; simp⟩
    rw [hok]
    have g1 := h.r1.kept (grownBy_putObj' W D (.deferred none)) (fun e => by injection e with e; omega)
    have g2 := h.r2.kept (grownBy_putObj' W D (.deferred none)) (fun e => by injection e with e; omega)
    have g3 := g1.cell
    have g4 := g2.cell
    refine ⟨by simp, .inl ⟨_, _, rfl, run_takeDeferred hK, ?_⟩⟩
    refine ⟨.tuple #[.slice none 0 0, .bool false], ?_, ?_⟩
    · simp [results, Tryz.results42, go_sem, g3, g4]
    · exact ⟨_, rfl, RowI.nil _ _, h.lay.trans (belowK_b (w := w) (Nat.le_refl _) W D _ _ (by omega) hK rfl rfl)⟩
end Go.Proofs.YtfgdhlnmndgjbaaGreatDoor
