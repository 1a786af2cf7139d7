/-
  Matrices copied: program and reference; appends of numbers. By an AI agent.
-/
import Derived.Test.YtjlkgioinogbkaaMxI
import Derived.Maps.AppendAt
namespace Go.Proofs.Ytjlkgioinogbkaa
open Go.RowKit

/-- append of numbers in the list of a plain region. -/
theorem wpList_appN {w : World} {ops : Array Oper} {rest : List Oper} {o : Oper} {a : Act} {Q : Exit → Act → World → Prop} (hgd : o.guard = none) (s x : Operand)
    (ho : o.op = .call { callee := .builtin .append, args := #[s, x], argTypes := #[26, 26] })
    (B b off c : Nat) (v : Value) (l m : List Int) (N : Nat) (hN : l.length + m.length = N) (hs : a.eval s = v) (hx : a.eval x = .slice (some ⟨b, off, none⟩) m.length c) (hown : RowI w B v l) (hX : RdI w (some ⟨b, off, none⟩) m) (hl : l.length ≤ 100000) (hm : m.length ≤ 100000) (hB : B ≤ w.heap.size)
    (h : ∀ v' w', RowI w' B v' (l ++ m) → (0 < N → ∃ g cap, v' = .slice (some ⟨g, 0, none⟩) N cap ∧ B ≤ g) → Below B w w' → w.grownBy w' v.ownBlock → wpList Try.prog ops Q rest (a.put o.dst v') w') : wpList Try.prog ops Q (o :: rest) a w := by
  refine wpList_plain hgd fun _ hK => ?_
  obtain ⟨iP, hiP, hzP, hsP, hbP⟩ := info_parts Try.infoI
  obtain ⟨v', w', hr, h2, h3, _, _⟩ := run_append_own_at (P := Try.prog) w B 26 o.type 3 iP _ 1 8 Try.underlying26 hiP hzP hsP hbP rfl (by omega) v l.length (ints l) hown ⟨b, off, none⟩ m.length c (ints m) (by rw [ints_length]; omega) (fun j u hu => by
    have hj : j < m.length := by
      have := (List.getElem?_eq_some_iff.1 hu).1
      rwa [ints_length] at this
    rw [addr_plain, hX.at hj]
    rw [ints_get hj] at hu
    exact hu) (ints_oneCell m) (by unfold maxLen; omega) (by omega) hB
  have hrow : RowI w' B v' (l ++ m) := row_congr h2 (by simp) (by simp [ints])
  have hbl := (Below.refl B w).grown h3 hB (fun q e => (World.ownsRow.lt hown q e).1)
  unfold Oper.wp execOp
  simp only [ho, resolve, invoke, builtin, Sem.run_bind, Sem.run_pure, Result.andThen_ok, List.map_toArray, List.map_cons, List.map_nil, hs, hx, hr]
  refine hK _ _ (h _ w' hrow (fun h0 => ?_) hbl h3)
  rcases Own.of_row hrow with ⟨_, h1, _⟩ | ⟨g, cap, h1, hg, _⟩
  · rw [List.length_append] at h1; omega
  · exact ⟨g, cap, by rw [h1, List.length_append, hN], hg⟩
/-- append of numbers in the list of a plain region. -/
theorem wpList_appB {w : World} {ops : Array Oper} {rest : List Oper} {o : Oper} {a : Act} {Q : Exit → Act → World → Prop} (hgd : o.guard = none) (s x : Operand)
    (ho : o.op = .call { callee := .builtin .append, args := #[s, x], argTypes := #[26, 26] })
    (B b off c : Nat) (v : Value) (l m : List Int) (N : Nat) (hN : l.length + m.length = N) (hs : a.eval s = v) (hx : a.eval x = .slice (some ⟨b, off, none⟩) m.length c) (hown : RowI w B v l) (hX : RdI w (some ⟨b, off, none⟩) m) (hl : l.length ≤ 100000) (hm : m.length ≤ 100000) (hB : B ≤ w.heap.size)
    (h : ∀ v' w', RowI w' B v' (l ++ m) → (0 < N → ∃ g cap, v' = .slice (some ⟨g, 0, none⟩) N cap ∧ B ≤ g) → Below B w w' → w.grownBy w' v.ownBlock → (v'.ownBlock = v.ownBlock ∨ v'.ownBlock = some w.heap.size) → wpList Try.prog ops Q rest (a.put o.dst v') w') : wpList Try.prog ops Q (o :: rest) a w := by
  refine wpList_plain hgd fun _ hK => ?_
  obtain ⟨iP, hiP, hzP, hsP, hbP⟩ := info_parts Try.infoI
  obtain ⟨v', w', hr, h2, h3, _, h5⟩ := run_append_own_at (P := Try.prog) w B 26 o.type 3 iP _ 1 8 Try.underlying26 hiP hzP hsP hbP rfl (by omega) v l.length (ints l) hown ⟨b, off, none⟩ m.length c (ints m) (by rw [ints_length]; omega) (fun j u hu => by
    have hj : j < m.length := by
      have := (List.getElem?_eq_some_iff.1 hu).1
      rwa [ints_length] at this
    rw [addr_plain, hX.at hj]
    rw [ints_get hj] at hu
    exact hu) (ints_oneCell m) (by unfold maxLen; omega) (by omega) hB
  have hrow : RowI w' B v' (l ++ m) := row_congr h2 (by simp) (by simp [ints])
  have hbl := (Below.refl B w).grown h3 hB (fun q e => (World.ownsRow.lt hown q e).1)
  unfold Oper.wp execOp
  simp only [ho, resolve, invoke, builtin, Sem.run_bind, Sem.run_pure, Result.andThen_ok, List.map_toArray, List.map_cons, List.map_nil, hs, hx, hr]
  refine hK _ _ (h _ w' hrow (fun h0 => ?_) hbl h3 h5)
  rcases Own.of_row hrow with ⟨_, h1, _⟩ | ⟨g, cap, h1, hg, _⟩
  · rw [List.length_append] at h1; omega
  · exact ⟨g, cap, by rw [h1, List.length_append, hN], hg⟩
theorem rowI_new (u : World) (B H : Nat) (hB : B ≤ u.heap.size) (hH : u.heap.size = H) : RowI (u.alloc (.cells #[] 3)) B (.slice (some ⟨H, 0, none⟩) 0 0) [] := by
  subst hH
  exact World.ownsRow_made u #[] 0 hB (by decide) rfl
theorem RowI.alloc' {w : World} {B : Nat} {v : Value} {l : List Int} {o : Obj} (h : RowI w B v l) : RowI (w.alloc o) B v l := h.below ((Below.refl _ _).alloc (Nat.le_refl _) _)
theorem RowI.low {w : World} {B B' : Nat} {v : Value} {l : List Int} (h : RowI w B v l) (hB : B' ≤ B) : RowI w B' v l := row_mono h hB
theorem rdI_one (u : World) (H : Nat) (x : Int) (hH : u.heap.size = H) : RdI (u.alloc (.cells #[.int .i64 x] 3)) (some ⟨H, 0, none⟩) [x] := by
  subst hH
  intro j hj
  obtain rfl : j = 0 := by simpa using hj
  exact ⟨_, _, rfl, by simp, by simp [go_sem]⟩

set_option maxHeartbeats 800000 in
theorem cloneI_c (ad : Option Addr) (cap : Nat) (l : List Int) (w : World) (hr : RdI w ad l) (h0 : 0 < l.length) (hl : l.length ≤ 100000) :
    Calls Try.prog 72 #[.slice ad l.length cap] w fun e w' => ∃ g cap', e = .returned (.slice (some ⟨g, 0, none⟩) l.length cap') ∧ RowI w' w.heap.size (.slice (some ⟨g, 0, none⟩) l.length cap') l ∧ w.heap.size ≤ g ∧ Below w.heap.size w w' := by
  obtain ⟨b, off, rfl, _, _⟩ := hr 0 h0
  have hnl := fun (w : World) (a : Option Addr) (l c : Nat) => Lib.run_eql_slice_nil (P := Try.prog) w 26 3 a l c 0 0 Try.underlying26
  have HO := Lib.hid (rowI_new w w.heap.size w.heap.size (Nat.le_refl _) rfl)
  have HX := Lib.hid (hr.below ((Below.refl _ _).alloc (Nat.le_refl _) (.cells #[] 3)))
  clear hr
  go_enter Try.func72, Try.ntmps72
  go_wp2_with (at_builtin; refine wpList_appN rfl _ _ rfl w.heap.size _ _ _ _ [] l l.length (by simp) rfl rfl HO.out HX.out (by simp) hl (by simp) ?_; intro v5 wm hown hsh hbm hgr)
  obtain ⟨g, cap5, rfl, hg⟩ := hsh h0
  rw [List.nil_append] at hown
  have HOW := Lib.hid hown; clear hown hgr hsh
  go_wp2_with fail
  go_ret
  exact ⟨g, cap5, rfl, HOW.out, hg, ((Below.refl _ _).alloc (Nat.le_refl _) _).trans hbm⟩
set_option maxHeartbeats 800000 in
theorem l1OwnN_c (ad : Option Addr) (cap : Nat) (l : List Int) (w : World) (hr : RdI w ad l) (h0 : 0 < l.length) (hl : l.length ≤ 100000) :
    Calls Try.prog 68 #[.slice ad l.length cap] w fun e w' => ∃ g cap', e = .returned (.slice (some ⟨g, 0, none⟩) l.length cap') ∧ RowI w' w.heap.size (.slice (some ⟨g, 0, none⟩) l.length cap') l ∧ w.heap.size ≤ g ∧ Below w.heap.size w w' := by
  obtain ⟨b, off, rfl, _, _⟩ := hr 0 h0
  have HO := Lib.hid (rowI_new w w.heap.size w.heap.size (Nat.le_refl _) rfl)
  have HX := Lib.hid (hr.below ((Below.refl _ _).alloc (Nat.le_refl _) (.cells #[] 3)))
  clear hr
  go_enter Try.func68, Try.ntmps68
  go_wp2_with (at_builtin; refine wpList_appN rfl _ _ rfl w.heap.size _ _ _ _ [] l l.length (by simp) rfl rfl HO.out HX.out (by simp) hl (by simp) ?_; intro v5 wm hown hsh hbm hgr)
  obtain ⟨g, cap5, rfl, hg⟩ := hsh h0
  rw [List.nil_append] at hown
  have HOW := Lib.hid hown; clear hown hgr hsh
  go_wp2_with fail
  go_ret
  exact ⟨g, cap5, rfl, HOW.out, hg, ((Below.refl _ _).alloc (Nat.le_refl _) _).trans hbm⟩

theorem takeM_snoc (M : List (List Int)) (k : Nat) (h : k < M.length) : M.take (k + 1) = M.take k ++ [M.getD k []] := by
  rw [List.take_succ_eq_append_getElem h, List.getD_eq_getElem?_getD, List.getElem?_eq_getElem h, Option.getD_some]

set_option maxHeartbeats 1600000 in
set_option maxRecDepth 100000 in
theorem mxOwn_c (ad : Option Addr) (cap : Nat) (M : List (List Int)) (w : World) (hr : RdM w ad M) (hl : M.length ≤ 1000) (hp : ∀ i, i < M.length → 0 < (M.getD i []).length ∧ (M.getD i []).length ≤ 100000) :
    Calls Try.prog 85 #[.slice ad M.length cap] w fun e w' => ∃ v, e = .returned v ∧ (∃ vs, MatO w' w.heap.size v M vs) ∧ Below w.heap.size w w' := by
  have HR := Lib.hid hr; have HP := Lib.hid hp
  clear hr hp
  go_enter Try.func85, Try.ntmps85
  go_wp2_with fail
  go_loopw [3, 8] (fun v i wr => ∃ (k : Nat) (vs : List Value), k ≤ M.length ∧ i = .int .i64 k ∧ MatO wr w.heap.size v (M.take k) vs ∧ Below w.heap.size w wr) (fun _ i _ => M.length - (intOf i).toNat)
  case atStart => exact ⟨0, [], Nat.zero_le _, rfl, MatO.nil _ _, Below.refl _ _⟩
  case round =>
    obtain ⟨wE, rfl⟩ : ∃ x : World, x = wr := ⟨_, rfl⟩
    obtain ⟨k, vs, hk, rfl, hmat, hbel⟩ := hrel
    obtain ⟨adv, cav, rfl, _⟩ := hmat.shape
    have HM := Lib.hid hmat; clear hmat
    have htl : (M.take k).length = k := by rw [List.length_take]; omega
    by_cases hlt : k < M.length
    case neg =>
      obtain rfl : k = M.length := by omega
      rw [List.take_length] at HM htl ⊢
      go_wp2_with fail
      go_ret
      exact ⟨_, rfl, ⟨vs, HM.out⟩, hbel⟩
    case pos =>
      obtain ⟨b, off, a, c, rfl, hb, cc, hri⟩ := HR.out k hlt
      have dd := bcell hbel hb cc
      obtain ⟨p1, p2⟩ := HP.out k hlt
      have CC := Lib.hid (l1OwnN_c a c (M.getD k []) wE (hri.below hbel) p1 p2)
      have hsn := takeM_snoc M k hlt
      have x1 : (0 : Int) ≤ (k : Int) := by omega
      have x2 : (k : Int) < (M.length : Int) := by omega
      have hsz := hbel.size
      obtain ⟨r, hr⟩ : ∃ r, M.getD k [] = r := ⟨_, rfl⟩
      rw [hr] at dd CC hsn
      have HSN := Lib.hid hsn; clear hsn hr hri cc p1 p2
      obtain ⟨n, hn⟩ : ∃ n, r.length = n := ⟨_, rfl⟩
      rw [hn] at dd CC
      clear hn
      obtain ⟨L, hL⟩ : ∃ L, M.take k = L := ⟨_, rfl⟩
      rw [hL] at HM HSN htl ⊢
      clear hL
      have HTL := Lib.hid htl
      rw [htl] at HM ⊢
      clear htl
      go_wp2_with fail
      refine CC.out.mono ?_
      rintro e w1 ⟨g, c1, rfl, hrow, hg, hb1⟩
      have hM1 := HM.out.below hb1
      have hlow := HM.out.low
      have hsz1 := hb1.size
      have HX := Lib.hid (CellO.of_row (hrow.low (B' := w.heap.size) hsz))
      have HM1 := Lib.hid hM1; have HLOW := Lib.hid hlow
      clear hrow hM1 hlow CC HM
      go_wp2_with (at_builtin; refine wpList_appM rfl _ _ rfl w.heap.size wE.heap.size w1.heap.size _ (.slice (some ⟨g, 0, none⟩) n c1) L vs r (k + 1) (by rw [HTL.out]) rfl rfl (by simp [go_sem]) (HM1.out.below ((Below.refl _ _).alloc (Nat.le_refl _) _)) (HX.out.below ((Below.refl _ _).alloc (Nat.le_refl _) _)) (fun q hq => by cases hq; exact hg) HLOW.out (by rw [HTL.out]; omega) (by simp; omega) ?_; intro ad5 cap5 wm hmat5 hbm)
      have hb3 := ((hbel.trans (hb1.mono hsz)).alloc (by omega) (.cells #[.slice (some ⟨g, 0, none⟩) n c1] 26)).trans hbm
      rw [← HSN.out] at hmat5
      have HM5 := Lib.hid hmat5; clear hmat5 hbm
      go_roundw
      case rel => exact ⟨k + 1, _, by omega, by go_num, HM5.out, hb3⟩
      case measure => simp [intOf]; omega

end Go.Proofs.Ytjlkgioinogbkaa
