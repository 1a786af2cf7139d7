/-
  Some texts of this proof in one: CutS Split. Each part tells what it proves. By an AI agent.
-/
import Derived.Test.YtfgdhlnmndgjbaaGreatDoorNumI
import Derived.Test.YtfgdhlnmndgjbaaGreatDoorDrawN
import Derived.Deep.AppendLies

/-
  Cutting a text and reading a number: the library's, with what they ask of the world.
-/
namespace Go.Proofs.YtfgdhlnmndgjbaaGreatDoor
open Go.RowKit

structure LaidL (w : World) : Prop where
  s : LaidS w
  m : ∃ m, w.cell? ⟨0, 0, none⟩ = some (.int .i64 m)
theorem LaidL.below {w w' : World} (h : LaidL w) (hb : Below w.heap.size w w') : LaidL w' := by
  obtain ⟨m, hm⟩ := h.m
  exact ⟨h.s.below hb, m, bcell' hb hm⟩
theorem Tryz.infoS : (Tryz.prog.info? 9).map (fun i => (i.zero, i.size, i.bytes)) = some (some (.string ⟨#[]⟩), 1, 16) := by kernel_rfl

theorem atoi_e (P : List UInt8) (w : World) (hs : P.length ≤ 18) (hL : LaidL w) :
    Calls Tryz.prog 94 #[.string ⟨P.toArray⟩] w fun e w' => (∃ v, e = .returned v ∧ AtoiV P v) ∧ Below w.heap.size w w' := by
  have h := atoi_c ⟨P.toArray⟩ w (by simpa [ByteArray.size] using hs) hL.s
  rw [ByteArray.toList_mk] at h
  exact h

theorem appB {B : Nat} {u wr w2 : World} {E : TypeId} {size n : Nat} {v : Value} {xs : List Value} {o : Obj} (hb : Below B u wr) (hB : B ≤ wr.heap.size) (ho : wr.ownsRow B E size v n xs) (hg : (wr.alloc o).grownBy w2 v.ownBlock) : Below B u w2 :=
  (hb.alloc hB o).grown hg (by simp; omega) (fun q e => (ho.lt q e).1)
theorem rowE (w : World) (E : TypeId) : (w.alloc (.cells #[] E)).ownsRow w.heap.size E 1 (.slice (some ⟨w.heap.size, 0, none⟩) 0 0) 0 [] :=
  World.ownsRow_made w #[] 0 (Nat.le_refl _) (by decide) rfl
theorem rowC {w : World} {B : Nat} {E : TypeId} {size n m : Nat} {v : Value} {xs ys : List Value} (h : w.ownsRow B E size v n xs) (e : n = m) (e' : xs = ys) : w.ownsRow B E size v m ys := by subst e; subst e'; exact h

end Go.Proofs.YtfgdhlnmndgjbaaGreatDoor

/-
  The reference's split of a text at a byte.
-/
namespace Go.Proofs.YtfgdhlnmndgjbaaGreatDoor
open Go.RowKit

/-- The pieces of a text between bytes of one kind. -/
def splitB (b : Nat) : List UInt8 → List (List UInt8)
  | [] => [[]]
  | x :: xs => if x.toNat = b then [] :: splitB b xs else match splitB b xs with
    | p :: ps => (x :: p) :: ps
    | [] => [[x]]
theorem split_no {b : Nat} : ∀ (p : List UInt8), (∀ x ∈ p, x.toNat ≠ b) → splitB b p = [p]
  | [], _ => rfl
  | x :: p, h => by
    have ih := split_no p (fun y hy => h y (List.mem_cons_of_mem _ hy))
    rw [splitB, if_neg (h x (by simp)), ih]
theorem split_at {b : Nat} : ∀ (p r : List UInt8) (c : UInt8), (∀ x ∈ p, x.toNat ≠ b) → c.toNat = b → splitB b (p ++ c :: r) = p :: splitB b r
  | [], r, c, _, hc => by rw [List.nil_append, splitB, if_pos hc]
  | x :: p, r, c, h, hc => by
    have ih := split_at p r c (fun y hy => h y (List.mem_cons_of_mem _ hy)) hc
    rw [List.cons_append, splitB, if_neg (h x (by simp)), ih]
theorem slice_both (s : ByteArray) (i j : Nat) (h0 : i ≤ j) (h : j ≤ s.size) (w : World) :
    (Instr.slice 9 (.string s) (some (.int .i64 (i : Int))) (some (.int .i64 (j : Int))) none).run Tryz.prog w = .ok (.string (s.extract i j)) w := by
  simp [Instr.slice, Instr.sliceBounds, Instr.sliceBound, asIntOf, run_underlying (P := Tryz.prog) Tryz.underlying9, h0, h]
theorem extract_list (s : ByteArray) (i j : Nat) : (s.extract i j).toList = (s.toList.drop i).take (j - i) := by
  rw [ByteArray.toList_eq, ByteArray.toList_eq, ByteArray.data_extract, Array.toList_extract, List.extract]
theorem mem_piece {b : Nat} {l : List UInt8} {F k : Nat} (h : ∀ j, F ≤ j → j < k → (l.getD j 0).toNat ≠ b) : ∀ x ∈ (l.drop F).take (k - F), x.toNat ≠ b := fun x hx => by
  obtain ⟨i, hi, rfl⟩ := List.getElem_of_mem hx
  have hi' : i < k - F ∧ F + i < l.length := by
    rw [List.length_take, List.length_drop] at hi
    omega
  have := h (F + i) (by omega) (by omega)
  rw [List.getElem_take, List.getElem_drop]
  rw [List.getD_eq_getElem?_getD, List.getElem?_eq_getElem hi'.2, Option.getD_some] at this
  exact this
theorem drop_cut {l : List UInt8} {F k : Nat} (hF : F ≤ k) (hk : k < l.length) : l.drop F = (l.drop F).take (k - F) ++ l.getD k 0 :: l.drop (k + 1) := by
  have h1 : (l.drop F).drop (k - F) = l.getD k 0 :: l.drop (k + 1) := by
    rw [List.drop_drop, show F + (k - F) = k by omega, List.drop_eq_getElem_cons hk, List.getD_eq_getElem?_getD, List.getElem?_eq_getElem hk, Option.getD_some]
  rw [← h1, List.take_append_drop]

set_option maxHeartbeats 3200000 in
set_option maxRecDepth 100000 in
theorem splitB_c (b : Nat) (s : ByteArray) (w : World) (hs : s.size ≤ 1048576) :
    Calls Tryz.prog 58 #[.string s, .int .u8 (b : Int)] w fun e w' => (∃ v, ∃ D : List ByteArray, e = .returned v ∧ w'.ownsRow w.heap.size 9 1 v D.length (strs D) ∧ D.map (·.toList) = splitB b s.toList ∧ D.length ≤ s.size + 1) ∧ Below w.heap.size w w' := by
  obtain ⟨iS, hiS, hzS, hsS, hbS⟩ := info_parts Tryz.infoS
  have hlen := len_str s
  have hix := idx_str s
  have hex := extract_list s
  obtain ⟨l, hl⟩ : ∃ l, s.toList = l := ⟨_, rfl⟩
  rw [hl] at hlen hix ⊢
  simp only [hl] at hex
  have HIX := Lib.hid hix; have HEX := Lib.hid hex; have HLEN := Lib.hid hlen; clear hix hex hlen hl
  go_enter Tryz.func58, Tryz.ntmps58
  go_wp2_with fail
  go_loopw [5, 6, 7] (fun v f i wr => ∃ k F : Nat, F ≤ k ∧ k ≤ s.size ∧ i = .int .i64 k ∧ f = .int .i64 F ∧ (∃ D : List ByteArray, wr.ownsRow w.heap.size 9 1 v D.length (strs D) ∧ D.length ≤ F ∧ splitB b l = D.map (·.toList) ++ splitB b (l.drop F)) ∧ (∀ j, F ≤ j → j < k → (l.getD j 0).toNat ≠ b) ∧ Below w.heap.size w wr) (fun _ _ i _ => s.size - (intOf i).toNat)
  case atStart => exact ⟨0, 0, by omega, by omega, rfl, rfl, ⟨[], ⟨rfl, Or.inl ⟨rfl, rfl⟩⟩, by simp, by simp⟩, by omega, Below.refl _ _⟩
  case round =>
    obtain ⟨k, F, hF, hk, rfl, rfl, ⟨D, hown, hD, hspl⟩, hno, hbel⟩ := hrel
    have HO := Lib.hid hown; have HSP := Lib.hid hspl; have HNO := Lib.hid hno; clear hown hspl hno
    have hsz := hbel.size
    by_cases hlt : k < s.size
    case neg =>
      obtain rfl : k = s.size := by omega
      have hsl := fun w => slice_from s F (by omega) (by omega) w
      rw [show ((F : Int)).toNat = F by omega] at hsl
      have hpiece := Lib.hid (show splitB b (l.drop F) = [(s.extract F s.size).toList] by
        have := mem_piece HNO.out
        rw [HEX.out]
        rw [List.take_of_length_le (by rw [List.length_drop]; have := HLEN.out; omega)] at this ⊢
        exact split_no _ this)
      generalize s.extract F s.size = E at hsl hpiece
      go_wp2_with (at_builtin; refine wpList_append_lies _ rfl _ _ 55 rfl w.heap.size 9 iS _ 1 16 Tryz.underlying55 hiS hzS hsS hbS rfl (by omega) _ D.length (strs D) rfl (HO.out.alloc _) ⟨wr.heap.size, 0, none⟩ 1 1 [.string E] rfl rfl (World.news_of_block (cs := #[.string E]) (t := 9) (fr := (0, 0)) (heap_alloc_new _ _)) (by simp [Value.oneCell']) (by omega) (by unfold maxLen; omega) (by omega) (by simp; omega) (wr.heap.size + 1) (by simp) ?_; intro gg gcap w9 hown1 hgrow hat hltg; clear hat)
      go_ret
      exact ⟨⟨.slice (some ⟨gg, 0, none⟩) (D.length + 1) gcap, D ++ [E], rfl, rowC hown1 (by simp) (by simp [strs]), by rw [HSP.out, hpiece.out]; simp, by simp; omega⟩, appB hbel hsz HO.out hgrow⟩
    case pos =>
      have hi := fun w => HIX.out k hlt w
      have hdc := drop_cut hF (l := l) (by rw [HLEN.out]; exact hlt)
      obtain ⟨c, hc⟩ : ∃ c, l.getD k 0 = c := ⟨_, rfl⟩
      have hcb := u8_bd c
      rw [hc] at hi hdc
      have e1 : IntKind.i64.wrap ((k : Int) + 1) = (k : Int) + 1 := i64_small (by omega) (by omega)
      by_cases h32 : c.toNat = b
      case pos =>
        have hd : ((c.toNat : Int) == (b : Int)) = true := by rw [h32]; exact beq_self_eq_true _
        have hsl := fun w => slice_both s F k hF (by omega) w
        have hpiece := Lib.hid (show splitB b (l.drop F) = (s.extract F k).toList :: splitB b (l.drop (k + 1)) by
          rw [HEX.out, hdc, ]
          rw [split_at _ _ _ (mem_piece HNO.out) h32]
          rw [List.take_left' (by rw [List.length_take, List.length_drop]; have := HLEN.out; omega)])
        generalize s.extract F k = E at hsl hpiece
        clear hdc hc h32 hcb
        generalize (c.toNat : Int) = C at hd hi
        go_wp2_with (at_builtin; refine wpList_append_lies _ rfl _ _ 55 rfl w.heap.size 9 iS _ 1 16 Tryz.underlying55 hiS hzS hsS hbS rfl (by omega) _ D.length (strs D) rfl (HO.out.alloc _) ⟨wr.heap.size, 0, none⟩ 1 1 [.string E] rfl rfl (World.news_of_block (cs := #[.string E]) (t := 9) (fr := (0, 0)) (heap_alloc_new _ _)) (by simp [Value.oneCell']) (by omega) (by unfold maxLen; omega) (by omega) (by simp; omega) (wr.heap.size + 1) (by simp) ?_; intro gg gcap w9 hown1 hgrow hat hltg; clear hat)
        go_roundw
        case rel => exact ⟨k + 1, k + 1, by omega, by omega, by go_num, by go_num, ⟨D ++ [E], rowC hown1 (by simp) (by simp [strs]), by simp; omega, by rw [HSP.out, hpiece.out]; simp⟩, fun j h1 h2 => by omega, appB hbel hsz HO.out hgrow⟩
        case measure => simp [intOf]; omega
      case neg =>
        have hd : ((c.toNat : Int) == (b : Int)) = false := beq_eq_false_iff_ne.2 (by omega)
        have hne := Lib.hid (show (l.getD k 0).toNat ≠ b by rw [hc]; exact h32)
        clear hdc hc h32 hcb
        generalize (c.toNat : Int) = C at hd hi
        go_wp2_with fail
        go_roundw
        case rel => exact ⟨k + 1, F, by omega, by omega, by go_num, rfl, ⟨D, HO.out, hD, HSP.out⟩, fun j h1 h2 => by
            by_cases hj : j = k
            · subst hj; exact hne.out
            · exact HNO.out j h1 (by omega), hbel⟩
        case measure => simp [intOf]; omega

end Go.Proofs.YtfgdhlnmndgjbaaGreatDoor
