/-
  Matrices copied: program and reference; appends of numbers. By an AI agent.
-/
import Derived.Test.YtnbenpalneodlaaMxI
import Derived.Maps.AppendAt
namespace Go.Proofs.Ytnbenpalneodlaa
open Go.RowKit

/-- append of numbers in the list of a plain region. -/
theorem wpList_appN {w : World} {ops : Array Oper} {rest : List Oper} {o : Oper} {a : Act} {Q : Exit → Act → World → Prop} (hgd : o.guard = none) (s x : Operand)
    (ho : o.op = .call { callee := .builtin .append, args := #[s, x], argTypes := #[23, 23] })
    (B b off c : Nat) (v : Value) (l m : List Int) (N : Nat) (hN : l.length + m.length = N) (hs : a.eval s = v) (hx : a.eval x = .slice (some ⟨b, off, none⟩) m.length c) (hown : RowI w B v l) (hX : RdI w (some ⟨b, off, none⟩) m) (hl : l.length ≤ 100000) (hm : m.length ≤ 100000) (hB : B ≤ w.heap.size)
    (h : ∀ v' w', RowI w' B v' (l ++ m) → (0 < N → ∃ g cap, v' = .slice (some ⟨g, 0, none⟩) N cap ∧ B ≤ g) → Below B w w' → w.grownBy w' v.ownBlock → wpList Try.prog ops Q rest (a.put o.dst v') w') : wpList Try.prog ops Q (o :: rest) a w := by
  refine wpList_plain hgd fun _ hK => ?_
  obtain ⟨iP, hiP, hzP, hsP, hbP⟩ := info_parts Try.infoI
  obtain ⟨v', w', hr, h2, h3, _, _⟩ := run_append_own_at (P := Try.prog) w B 23 o.type 3 iP _ 1 8 Try.underlying23 hiP hzP hsP hbP rfl (by omega) v l.length (ints l) hown ⟨b, off, none⟩ m.length c (ints m) (by rw [ints_length]; omega) (fun j u hu => by
    have hj : j < m.length := by
      have := (List.getElem?_eq_some_iff.1 hu).1
      rwa [ints_length] at this
    rw [addr_plain, hX.at hj]
    rw [ints_get hj] at hu
    exact hu) (ints_oneCell m) (by unfold maxLen; omega) (by omega) hB
  have hrow : RowI w' B v' (l ++ m) := row_congr h2 (by simp) (by simp [ints])
  have hbl := (Below.refl B w).grown h3 hB (fun q e => (World.ownsRow.lt hown q e).1)
  unfold Oper.wp execOp
  simp only [ho, resolve, invoke, builtin, Sem.run_bind, Sem.run_pure, Result.andThen_ok, List.map_toArray, List.map_cons, List.map_nil, hs, hx, hr]
  refine hK _ _ (h _ w' hrow (fun h0 => ?_) hbl h3)
  rcases Own.of_row hrow with ⟨_, h1, _⟩ | ⟨g, cap, h1, hg, _⟩
  · rw [List.length_append] at h1; omega
  · exact ⟨g, cap, by rw [h1, List.length_append, hN], hg⟩
/-- append of numbers in the list of a plain region. -/
theorem wpList_appB {w : World} {ops : Array Oper} {rest : List Oper} {o : Oper} {a : Act} {Q : Exit → Act → World → Prop} (hgd : o.guard = none) (s x : Operand)
    (ho : o.op = .call { callee := .builtin .append, args := #[s, x], argTypes := #[23, 23] })
    (B b off c : Nat) (v : Value) (l m : List Int) (N : Nat) (hN : l.length + m.length = N) (hs : a.eval s = v) (hx : a.eval x = .slice (some ⟨b, off, none⟩) m.length c) (hown : RowI w B v l) (hX : RdI w (some ⟨b, off, none⟩) m) (hl : l.length ≤ 100000) (hm : m.length ≤ 100000) (hB : B ≤ w.heap.size)
    (h : ∀ v' w', RowI w' B v' (l ++ m) → (0 < N → ∃ g cap, v' = .slice (some ⟨g, 0, none⟩) N cap ∧ B ≤ g) → Below B w w' → w.grownBy w' v.ownBlock → (v'.ownBlock = v.ownBlock ∨ v'.ownBlock = some w.heap.size) → wpList Try.prog ops Q rest (a.put o.dst v') w') : wpList Try.prog ops Q (o :: rest) a w := by
  refine wpList_plain hgd fun _ hK => ?_
  obtain ⟨iP, hiP, hzP, hsP, hbP⟩ := info_parts Try.infoI
  obtain ⟨v', w', hr, h2, h3, _, h5⟩ := run_append_own_at (P := Try.prog) w B 23 o.type 3 iP _ 1 8 Try.underlying23 hiP hzP hsP hbP rfl (by omega) v l.length (ints l) hown ⟨b, off, none⟩ m.length c (ints m) (by rw [ints_length]; omega) (fun j u hu => by
    have hj : j < m.length := by
      have := (List.getElem?_eq_some_iff.1 hu).1
      rwa [ints_length] at this
    rw [addr_plain, hX.at hj]
    rw [ints_get hj] at hu
    exact hu) (ints_oneCell m) (by unfold maxLen; omega) (by omega) hB
  have hrow : RowI w' B v' (l ++ m) := row_congr h2 (by simp) (by simp [ints])
  have hbl := (Below.refl B w).grown h3 hB (fun q e => (World.ownsRow.lt hown q e).1)
  unfold Oper.wp execOp
  simp only [ho, resolve, invoke, builtin, Sem.run_bind, Sem.run_pure, Result.andThen_ok, List.map_toArray, List.map_cons, List.map_nil, hs, hx, hr]
  refine hK _ _ (h _ w' hrow (fun h0 => ?_) hbl h3 h5)
  rcases Own.of_row hrow with ⟨_, h1, _⟩ | ⟨g, cap, h1, hg, _⟩
  · rw [List.length_append] at h1; omega
  · exact ⟨g, cap, by rw [h1, List.length_append, hN], hg⟩
theorem rowI_new (u : World) (B H : Nat) (hB : B ≤ u.heap.size) (hH : u.heap.size = H) : RowI (u.alloc (.cells #[] 3)) B (.slice (some ⟨H, 0, none⟩) 0 0) [] := by
  subst hH
  exact World.ownsRow_made u #[] 0 hB (by decide) rfl
theorem RowI.alloc' {w : World} {B : Nat} {v : Value} {l : List Int} {o : Obj} (h : RowI w B v l) : RowI (w.alloc o) B v l := h.below ((Below.refl _ _).alloc (Nat.le_refl _) _)
theorem RowI.low {w : World} {B B' : Nat} {v : Value} {l : List Int} (h : RowI w B v l) (hB : B' ≤ B) : RowI w B' v l := row_mono h hB
theorem rdI_one (u : World) (H : Nat) (x : Int) (hH : u.heap.size = H) : RdI (u.alloc (.cells #[.int .i64 x] 3)) (some ⟨H, 0, none⟩) [x] := by
  subst hH
  intro j hj
  obtain rfl : j = 0 := by simpa using hj
  exact ⟨_, _, rfl, by simp, by simp [go_sem]⟩

set_option maxHeartbeats 800000 in
theorem cloneI_c (ad : Option Addr) (cap : Nat) (l : List Int) (w : World) (hr : RdI w ad l) (h0 : 0 < l.length) (hl : l.length ≤ 100000) :
    Calls Try.prog 32 #[.slice ad l.length cap] w fun e w' => ∃ g cap', e = .returned (.slice (some ⟨g, 0, none⟩) l.length cap') ∧ RowI w' w.heap.size (.slice (some ⟨g, 0, none⟩) l.length cap') l ∧ w.heap.size ≤ g ∧ Below w.heap.size w w' := by
  obtain ⟨b, off, rfl, _, _⟩ := hr 0 h0
  have hnl := fun (w : World) (a : Option Addr) (l c : Nat) => Lib.run_eql_slice_nil (P := Try.prog) w 23 3 a l c 0 0 Try.underlying23
  have HO := Lib.hid (rowI_new w w.heap.size w.heap.size (Nat.le_refl _) rfl)
  have HX := Lib.hid (hr.below ((Below.refl _ _).alloc (Nat.le_refl _) (.cells #[] 3)))
  clear hr
  go_enter Try.func32, Try.ntmps32
  go_wp2_with (at_builtin; refine wpList_appN rfl _ _ rfl w.heap.size _ _ _ _ [] l l.length (by simp) rfl rfl HO.out HX.out (by simp) hl (by simp) ?_; intro v5 wm hown hsh hbm hgr)
  obtain ⟨g, cap5, rfl, hg⟩ := hsh h0
  rw [List.nil_append] at hown
  have HOW := Lib.hid hown; clear hown hgr hsh
  go_wp2_with fail
  go_ret
  exact ⟨g, cap5, rfl, HOW.out, hg, ((Below.refl _ _).alloc (Nat.le_refl _) _).trans hbm⟩
set_option maxHeartbeats 800000 in
theorem l1OwnN_c (ad : Option Addr) (cap : Nat) (l : List Int) (w : World) (hr : RdI w ad l) (h0 : 0 < l.length) (hl : l.length ≤ 100000) :
    Calls Try.prog 81 #[.slice ad l.length cap] w fun e w' => ∃ g cap', e = .returned (.slice (some ⟨g, 0, none⟩) l.length cap') ∧ RowI w' w.heap.size (.slice (some ⟨g, 0, none⟩) l.length cap') l ∧ w.heap.size ≤ g ∧ Below w.heap.size w w' := by
  obtain ⟨b, off, rfl, _, _⟩ := hr 0 h0
  have HO := Lib.hid (rowI_new w w.heap.size w.heap.size (Nat.le_refl _) rfl)
  have HX := Lib.hid (hr.below ((Below.refl _ _).alloc (Nat.le_refl _) (.cells #[] 3)))
  clear hr
  go_enter Try.func81, Try.ntmps81
  go_wp2_with (at_builtin; refine wpList_appN rfl _ _ rfl w.heap.size _ _ _ _ [] l l.length (by simp) rfl rfl HO.out HX.out (by simp) hl (by simp) ?_; intro v5 wm hown hsh hbm hgr)
  obtain ⟨g, cap5, rfl, hg⟩ := hsh h0
  rw [List.nil_append] at hown
  have HOW := Lib.hid hown; clear hown hgr hsh
  go_wp2_with fail
  go_ret
  exact ⟨g, cap5, rfl, HOW.out, hg, ((Below.refl _ _).alloc (Nat.le_refl _) _).trans hbm⟩

theorem takeM_snoc (M : List (List Int)) (k : Nat) (h : k < M.length) : M.take (k + 1) = M.take k ++ [M.getD k []] := by
  rw [List.take_succ_eq_append_getElem h, List.getD_eq_getElem?_getD, List.getElem?_eq_getElem h, Option.getD_some]

end Go.Proofs.Ytnbenpalneodlaa
