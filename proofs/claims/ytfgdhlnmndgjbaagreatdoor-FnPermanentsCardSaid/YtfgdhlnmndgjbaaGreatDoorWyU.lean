/-
  Some texts of this proof in one: WyU WyV. Each part tells what it proves. By an AI agent.
-/
import Derived.Test.YtfgdhlnmndgjbaaGreatDoorWyG
import Derived.Test.YtfgdhlnmndgjbaaGreatDoorDrawN

/-
  Vectors and matrices that the cursor draws. Printed by gen_wyU.py. By an AI agent.
-/
namespace Go.Proofs.YtfgdhlnmndgjbaaGreatDoor
open Go.RowKit

/-- What a draw of a list gives. -/
def IntsD (P : List Int → Prop) (c n : Nat) (w : World) (e : Ending) (w' : World) : Prop := ∃ (v : Value) (xs : List Int), e = .returned v ∧ P xs ∧ RowI w' w.heap.size v xs ∧ Cur w' c n ∧ Chg c w w'
def MatD (P : List (List Int) → List Value → Prop) (c n : Nat) (w : World) (e : Ending) (w' : World) : Prop := ∃ (ad : Option Addr) (cap : Nat) (M : List (List Int)) (vs : List Value), e = .returned (.slice ad M.length cap) ∧ P M vs ∧ MatO w' w.heap.size (.slice ad M.length cap) M vs ∧ Cur w' c n ∧ Chg c w w'
def shM (R C : Nat) (M : List (List Int)) : Prop := M.length = R ∧ ∀ i, i < R → (M.getD i []).length = C
/-- the rows' capacities. -/
def capM (M : List (List Int)) (vs : List Value) : Prop := ∀ i, i < M.length → ∃ a c, vs.getD i undef = .slice a (M.getD i []).length c ∧ (M.getD i []).length ≤ c
theorem capM_snoc {M : List (List Int)} {vs : List Value} {xs : List Int} {a : Option Addr} {c : Nat} (h : capM M vs) (hv : vs.length = M.length) (hc : xs.length ≤ c) : capM (M ++ [xs]) (vs ++ [.slice a xs.length c]) := by
  intro i hi
  rw [List.length_append, List.length_singleton] at hi
  by_cases e : i = M.length
  · have e2 : (M ++ [xs]).getD i [] = xs := by rw [e]; simp [List.getD]
    have e3 : (vs ++ [Value.slice a xs.length c]).getD i undef = .slice a xs.length c := by rw [e, ← hv]; simp [List.getD]
    rw [e2, e3]
    exact ⟨a, c, rfl, hc⟩
  · have e2 : (M ++ [xs]).getD i [] = M.getD i [] := by rw [List.getD_eq_getElem?_getD, List.getElem?_append_left (by omega), ← List.getD_eq_getElem?_getD]
    have e3 : (vs ++ [Value.slice a xs.length c]).getD i undef = vs.getD i undef := by rw [List.getD_eq_getElem?_getD, List.getElem?_append_left (by omega), ← List.getD_eq_getElem?_getD]
    rw [e2, e3]
    exact h i (by omega)
theorem row_cap {w : World} {B : Nat} {v : Value} {xs : List Int} (h : RowI w B v xs) : ∃ ad c, v = .slice ad xs.length c ∧ xs.length ≤ c := by
  rcases h.2 with ⟨e, h0⟩ | ⟨g, cap, cur, e, _, _, h1, _⟩
  · exact ⟨none, 0, by rw [e, h0], by omega⟩
  · exact ⟨_, cap, e, h1⟩
theorem shM_snoc {R C : Nat} {M : List (List Int)} {xs : List Int} (h : shM R C M) (hx : xs.length = C) : shM (R + 1) C (M ++ [xs]) := by
  refine ⟨by rw [List.length_append, h.1]; rfl, fun i hi => ?_⟩
  by_cases e : i = R
  · have e2 : (M ++ [xs]).getD i [] = xs := by rw [e, ← h.1]; simp [List.getD]
    rw [e2]; exact hx
  · have e2 : (M ++ [xs]).getD i [] = M.getD i [] := by rw [List.getD_eq_getElem?_getD, List.getElem?_append_left (by rw [h.1]; omega), ← List.getD_eq_getElem?_getD]
    rw [e2]; exact h.2 i (by omega)
/-- append of a row; the heap grows. -/
theorem wpList_appG {w : World} {ops : Array Oper} {rest : List Oper} {o : Oper} {a : Act} {Q : Exit → Act → World → Prop} (hgd : o.guard = none) (s x : Operand)
    (ho : o.op = .call { callee := .builtin .append, args := #[s, x], argTypes := #[23, 23] })
    (B K H : Nat) (v u : Value) (M : List (List Int)) (vs : List Value) (xs : List Int) (N : Nat) (hN : M.length + 1 = N) (hs : a.eval s = v) (hx : a.eval x = .slice (some ⟨H, 0, none⟩) 1 1) (hcu : w.cell? ⟨H, 0, none⟩ = some u)
    (hm : MatO w B v M vs) (hu : CellO w B u xs) (hK : ∀ q, u.ownBlock = some q → K ≤ q) (hvs : ∀ i q, i < M.length → (vs.getD i undef).ownBlock = some q → q < K) (hl : M.length ≤ 1000) (hB : B ≤ w.heap.size)
    (h : ∀ ad' cap' w', MatO w' B (.slice ad' N cap') (M ++ [xs]) (vs ++ [u]) → Below B w w' → w.heap.size ≤ w'.heap.size → wpList Tryz.prog ops Q rest (a.put o.dst (.slice ad' N cap')) w') : wpList Tryz.prog ops Q (o :: rest) a w := by
  refine wpList_plain hgd fun _ hQ => ?_
  obtain ⟨iP, hiP, hzP, hsP, hbP⟩ := info_parts Tryz.infoM
  have ec : u.oneCell' = true := by obtain ⟨_, _, rfl, _⟩ := hu; rfl
  obtain ⟨v', w', hr, h2, h3, _, _⟩ := run_append_own_at (P := Tryz.prog) w B 23 o.type 38 iP _ 1 24 Tryz.underlying23 hiP hzP hsP hbP rfl (by omega) v M.length vs hm.row ⟨H, 0, none⟩ 1 1 [u] rfl (fun j z hz => by
    obtain rfl : j = 0 := by
      have := (List.getElem?_eq_some_iff.1 hz).1
      simpa using this
    simp at hz
    subst hz
    rw [addr_plain]
    exact hcu) (fun z hz => by simp at hz; subst hz; exact ec) (by unfold maxLen; omega) (by omega) hB
  have hmat := hm.snoc hu hK hvs h2 h3
  have hbl := (Below.refl B w).grown h3 hB (fun q e => (hm.row.lt q e).1)
  obtain ⟨ad', cap', e, _⟩ := hmat.shape
  rw [List.length_append, List.length_singleton, hN] at e
  subst e
  unfold Oper.wp execOp
  simp only [ho, resolve, invoke, builtin, Sem.run_bind, Sem.run_pure, Result.andThen_ok, List.map_toArray, List.map_cons, List.map_nil, hs, hx, hr]
  exact hQ _ _ (h _ _ w' hmat hbl h3.size)


theorem RowI.set {w : World} {B g cap : Nat} {xs : List Int} (h : RowI w B (.slice (some ⟨g, 0, none⟩) xs.length cap) xs) (k : Nat) (x : Int) :
    RowI (w.setCell ⟨g, k, none⟩ (.int .i64 x)) B (.slice (some ⟨g, 0, none⟩) xs.length cap) (xs.set k x) := by
  have := (World.ownsRow.stored h k (.int .i64 x)).1
  exact row_congr this (by simp) (by rw [ints_set])

theorem RowI.own {w : World} {B : Nat} {v : Value} {xs : List Int} (h : RowI w B v xs) (h0 : 0 < xs.length) : ∃ g cap, v = .slice (some ⟨g, 0, none⟩) xs.length cap ∧ B ≤ g := by
  rcases Own.of_row h with ⟨_, e, _⟩ | ⟨g, cap, e, hg, _, _, _⟩
  · omega
  · exact ⟨g, cap, e, hg⟩

set_option maxHeartbeats 6400000 in
set_option maxRecDepth 100000 in
theorem vector_c (N c n : Nat) (w : World) (h : Cur w c n) (hn : n ≤ 4611686018427360000) (hN4 : N ≤ 7) :
    Calls Tryz.prog 45 #[.pointer (some ⟨c, 0, none⟩), .int .i64 N] w (IntsD (fun xs => xs.length = N) c (n + 60) w) := by
  have hcl := h.lt
  have H := Lib.hid h; clear h
  obtain ⟨iI, hiI0, hiI1, hiI2, hiI3⟩ := info_parts Tryz.infoI
  have HF1 := Lib.hid (Chg.refl c w)
  go_enter Tryz.func45, Tryz.ntmps45
  go_wp2_with fail
  go_loopw [5] (fun v wr => ∃ xs : List Int, xs.length ≤ N ∧ RowI wr w.heap.size v xs ∧ Cur wr c (n + 4 * xs.length) ∧ Chg c w wr) (fun v _ => N - slen v)
  case atStart => exact ⟨[], by simp, RowI.nil _ _, H.out.mono (by simp), HF1.out⟩
  case round =>
    obtain ⟨xs, hxs, hrow, hcu, hch⟩ := hrel
    have HR := Lib.hid hrow; clear hrow
    have HU := Lib.hid hcu; clear hcu
    have HF := Lib.hid hch; clear hch
    have hsz := HF.out.size
    obtain ⟨wo, rfl⟩ : ∃ wo : World, wo = wr := ⟨_, rfl⟩
    obtain ⟨ad1, cap1, rfl, -⟩ := HR.out.shape
    by_cases hlt : xs.length < N
    case pos =>
      have g1 : decide ((xs.length : Int) < (N : Int)) = true := decide_eq_true (by omega)
      go_wp2_with fail
      refine (num_c c (n + 4 * xs.length) wo HU.out (by omega)).mono ?_
      rintro e w3 ⟨x2, rfl, -, hcu, hch⟩
      have HU4 := Lib.hid hcu; clear hcu
      have HF5 := Lib.hid (HF.out.trans hch)
      have HR6 := Lib.hid (row_chg HR.out hch (by omega))
      clear hch
      have hz7 := HF5.out.size
      go_wp2_with (at_builtin; refine wpList_append_lies _ rfl _ _ 38 rfl w.heap.size 3 iI _ 1 8 Tryz.underlying38 hiI0 hiI1 hiI2 hiI3 rfl (by omega) (.slice ad1 xs.length cap1) xs.length (ints xs) rfl (HR6.out.alloc _) ⟨w3.heap.size, 0, none⟩ 1 1 [.int .i64 x2] rfl rfl (World.news_of_block (cs := #[.int .i64 x2]) (t := 3) (fr := (0, 0)) (heap_alloc_new _ _)) (by simp [Value.oneCell']) (by omega) (by unfold maxLen; omega) (by omega) (by simp; omega) (w3.heap.size + 1) (by simp) ?_; intro g8 cap9 w10 hown hgrow hat hltx; clear hat)
      have hb11 := app_below (Below.refl w.heap.size w3) (by omega) HR6.out hgrow
      have hz12 : w3.heap.size ≤ w10.heap.size := by have := hgrow.size; simp at this; omega
      have HR13 := Lib.hid (row_congr (ys := ints (xs ++ [x2])) hown (m := (xs ++ [x2]).length) (by simp) (by simp [ints])); clear hown
      clear hgrow
      have HU14 := Lib.hid (HU4.out.under hb11 (by omega))
      have HF15 := Lib.hid (HF5.out.under hb11 (by omega) hz12)
      clear hb11
      go_roundw
      case rel => exact ⟨xs ++ [x2], by simp; omega, HR13.out, HU14.out.mono (by simp; omega), HF15.out⟩
      case measure => (simp [slen]; omega)
    case neg =>
      have g1 : decide ((xs.length : Int) < (N : Int)) = false := decide_eq_false (by omega)
      have HXL : xs.length = N := by omega
      have HXB : xs.length ≤ 7 := by omega
      clear hlt hxs g1
      rw [HXL]
      have g1 : decide ((N : Int) < (N : Int)) = false := decide_eq_false (by omega)
      by_cases hN0 : 0 < N
      case neg =>
        have q0 : decide ((0 : Int) < (N : Int)) = false := decide_eq_false (by omega)
        go_wp2_with fail
        go_ret
        exact ⟨_, xs, rfl, by omega, by (have h9 := HR.out); (try unfold RowI at h9); unfold RowI; rw [HXL] at h9 ⊢; exact h9, HU.out.mono (by omega), HF.out⟩
      case pos =>
        have q0 : decide ((0 : Int) < (N : Int)) = true := decide_eq_true (by omega)
        go_wp2_with fail
        refine (one_c 24 c (n + 4 * xs.length) wo HU.out (by omega)).mono ?_
        rintro e w17 ⟨b16, rfl, hcu, hch⟩
        have HU18 := Lib.hid hcu; clear hcu
        have HF19 := Lib.hid (HF.out.trans hch)
        have HR20 := Lib.hid (row_chg HR.out hch (by omega))
        clear hch
        have hz21 := HF19.out.size
        cases b16
        case false =>
          go_wp2_with fail
          go_ret
          exact ⟨_, xs, rfl, by omega, by (have h9 := HR20.out); (try unfold RowI at h9); unfold RowI; rw [HXL] at h9 ⊢; exact h9, HU18.out.mono (by omega), HF19.out⟩
        case true =>
          obtain ⟨g22, rfl, hg23⟩ : ∃ g, ad1 = some ⟨g, 0, none⟩ ∧ w.heap.size ≤ g := by
            obtain ⟨g, cap, e, hg⟩ := RowI.own (by exact HR20.out) (by rw [HXL]; omega)
            injection e with e1 _ _
            exact ⟨g, e1, hg⟩
          go_wp2_with fail
          refine (pick_c (N : Int) c ((n + 4 * xs.length) + 2) w17 HU18.out (by omega)).mono ?_
          rintro e w25 ⟨x24, rfl, hp26, hcu, hch⟩
          have HU27 := Lib.hid hcu; clear hcu
          have HF28 := Lib.hid (HF19.out.trans hch)
          have HR29 := Lib.hid (row_chg HR20.out hch (by omega))
          clear hch
          have hz30 := HF28.out.size
          obtain ⟨a31, rfl⟩ : ∃ a : Nat, x24 = a := ⟨x24.toNat, by omega⟩
          have a31l : a31 < N := by omega
          have a31x : (0 : Int) ≤ (a31 : Int) := by omega
          have a31y : (a31 : Int) < (N : Int) := by omega
          clear hp26
          go_wp2_with fail
          refine (anyNum_c c ((n + 4 * xs.length) + 4) w25 HU27.out (by omega)).mono ?_
          rintro e w33 ⟨x32, rfl, -, hcu, hch⟩
          have HU34 := Lib.hid hcu; clear hcu
          have HF35 := Lib.hid (HF28.out.trans hch)
          have HR36 := Lib.hid (row_chg HR29.out hch (by omega))
          clear hch
          have hz37 := HF35.out.size
          have hrw38 := HR36.out
          have fza31 := World.ownsRow.frozenAt hrw38 a31
          have cza31 := World.ownsRow.cellAt hrw38 a31 (by have := a31l; rw [HXL]; omega)
          rw [ints_get (show a31 < xs.length by rw [HXL]; exact a31l)] at cza31
          go_wp2_with fail
          have hset39 : RowI (w33.setCell ⟨g22, a31, none⟩ (.int .i64 x32)) w.heap.size (.slice (some ⟨g22, 0, none⟩) xs.length cap1) _ := RowI.set (cap := cap1) (by exact hrw38) a31 x32
          have hb40 : Below w.heap.size w33 (w33.setCell ⟨g22, a31, none⟩ (.int .i64 x32)) := (Below.refl w.heap.size w33).setCell (p := ⟨g22, a31, none⟩) hg23 (.int .i64 x32)
          have HU43 := Lib.hid (HU34.out.under hb40 (by omega))
          have HF44 := Lib.hid (HF35.out.under hb40 (Nat.le_refl _) (by simp [World.setCell]))
          have HYL : (xs.set a31 x32).length = N := by rw [List.length_set]; exact HXL
          rw [HXL, ← HYL] at hset39
          have HR45 := Lib.hid hset39; clear hset39
          generalize xs.set a31 x32 = ys42 at HR45 HYL
          generalize w33.setCell ⟨g22, a31, none⟩ (.int .i64 x32) = wS41 at HR45 HU43 HF44 ⊢
          clear HXL hrw38 hb40
          have HXL := HYL
          clear HYL
          have hz46 := HF44.out.size
          go_wp2_with fail
          go_ret
          exact ⟨_, ys42, rfl, by omega, by (have h9 := HR45.out); (try unfold RowI at h9); unfold RowI; rw [HXL] at h9 ⊢; exact h9, HU43.out.mono (by omega), HF44.out⟩

set_option maxHeartbeats 3200000 in
set_option maxRecDepth 100000 in
theorem matrix_c (R C c n : Nat) (w : World) (h : Cur w c n) (hn : n ≤ 4611686018427360000) (hR : R ≤ 7) (hC : C ≤ 7) :
    Calls Tryz.prog 55 #[.pointer (some ⟨c, 0, none⟩), .int .i64 R, .int .i64 C] w (MatD (fun M vs => shM R C M ∧ capM M vs) c (n + 200) w) := by
  have hcl := h.lt
  have H := Lib.hid h; clear h
  have HF0 := Lib.hid (Chg.refl c w)
  go_enter Tryz.func55, Tryz.ntmps55
  go_wp2_with fail
  go_loopw [7, 8] (fun v i wr => ∃ (k : Nat) (M : List (List Int)) (vs : List Value), k ≤ R ∧ i = .int .i64 k ∧ (shM k C M ∧ capM M vs) ∧ MatO wr w.heap.size v M vs ∧ Cur wr c (n + 28 * k) ∧ Chg c w wr) (fun _ i _ => R - (intOf i).toNat)
  case atStart => exact ⟨0, [], [], Nat.zero_le _, rfl, ⟨⟨rfl, fun i hi => absurd hi (Nat.not_lt_zero _)⟩, fun i hi => absurd hi (Nat.not_lt_zero _)⟩, MatO.nil _ _, H.out, HF0.out⟩
  case round =>
    obtain ⟨wE, rfl⟩ : ∃ x : World, x = wr := ⟨_, rfl⟩
    obtain ⟨k, M, vs, hk, rfl, hsh, hmat, hcu, hch⟩ := hrel
    obtain ⟨adv, cav, rfl, _⟩ := hmat.shape
    have hsz := hch.size
    rw [hsh.1.1] at hmat ⊢
    have HSH := Lib.hid hsh; have HM := Lib.hid hmat; have HU := Lib.hid hcu; have HF := Lib.hid hch
    clear hsh hmat hcu hch
    by_cases hlt : k < R
    case neg =>
      obtain rfl : k = R := by omega
      go_wp2_with fail
      go_ret
      exact ⟨adv, cav, M, ⟨vs, by rw [HSH.out.1.1]; rfl, HSH.out, by rw [HSH.out.1.1]; exact HM.out, HU.out.mono (by omega), HF.out⟩⟩
    case pos =>
      go_wp2_with fail
      go_loopw [9, 10] (fun v i wr => ∃ (j : Nat) (xs : List Int), j ≤ C ∧ i = .int .i64 j ∧ xs.length = j ∧ RowI wr wE.heap.size v xs ∧ Cur wr c (n + 28 * k + 4 * j) ∧ Chg c wE wr) (fun _ i _ => C - (intOf i).toNat)
      case atStart => exact ⟨0, [], Nat.zero_le _, rfl, rfl, RowI.nil _ _, HU.out, Chg.refl _ _⟩
      case round =>
        obtain ⟨wI, rfl⟩ : ∃ x : World, x = wr := ⟨_, rfl⟩
        obtain ⟨j, xs, hj, rfl, hxl, hrow, hcu, hch⟩ := hrel
        obtain ⟨adr, car, rfl, hcar⟩ := row_cap hrow
        have HCAR := Lib.hid hcar
        clear hcar
        rw [hxl] at hrow ⊢
        have hsz2 := hch.size
        have HR := Lib.hid hrow; have HU2 := Lib.hid hcu; have HF2 := Lib.hid hch
        clear hrow hcu hch
        by_cases hlj : j < C
        case pos =>
          go_wp2_with fail
          refine (num_c c (n + 28 * k + 4 * j) wI HU2.out (by omega)).mono ?_
          rintro e w3 ⟨x3, rfl, -, hcu, hch⟩
          have hsz3 := hch.size
          have HR3 := Lib.hid (row_chg HR.out hch (by omega))
          have HU3 := Lib.hid hcu
          have HF3 := Lib.hid (HF2.out.trans hch)
          clear hcu hch
          go_wp2_with (at_builtin; refine wpList_appN rfl _ _ rfl wE.heap.size _ 0 1 _ xs [x3] (j + 1) (by rw [hxl]; rfl) rfl rfl (RowI.alloc' (by exact HR3.out)) (rdI_one _ _ _ rfl) (by omega) (by simp) (by simp; omega) ?_; intro v5 wm hown hsh hbm hgr)
          have hb9 : Below wE.heap.size w3 wm := ((Below.refl wE.heap.size w3).alloc (by omega) (.cells #[.int .i64 x3] 3)).trans hbm
          have hsz5 : w3.heap.size ≤ wm.heap.size := by have := hgr.size; simp at this; omega
          have HR5 := Lib.hid hown
          have HU5 := Lib.hid (HU3.out.under hb9 (by omega))
          have HF5 := Lib.hid (HF3.out.under hb9 (Nat.le_refl _) hsz5)
          clear hown hsh hbm hgr hb9
          go_wp2_with fail
          go_roundw
          case rel => exact ⟨j + 1, xs ++ [x3], by omega, by go_num, by rw [List.length_append, hxl]; rfl, HR5.out, HU5.out.mono (by omega), HF5.out⟩
          case measure => simp [intOf]; omega
        case neg =>
          obtain rfl : j = C := by omega
          have HM2 := Lib.hid (HM.out.chg HF2.out hcl)
          have HLOW := Lib.hid HM.out.low
          have HX := Lib.hid (CellO.of_row (HR.out.low (B' := w.heap.size) hsz))
          have HB := Lib.hid (RowI.blk HR.out)
          go_wp2_with (at_builtin; refine wpList_appG rfl _ _ rfl w.heap.size wE.heap.size wI.heap.size _ (.slice adr j car) M vs xs (k + 1) (by rw [HSH.out.1.1]) rfl rfl (by simp [go_sem]) (HM2.out.below ((Below.refl _ _).alloc (Nat.le_refl _) _)) (HX.out.below ((Below.refl _ _).alloc (Nat.le_refl _) _)) HB.out HLOW.out (by have := HSH.out.1.1; omega) (by simp; omega) ?_; intro ad5 cap5 wm hmat5 hbm hgz)
          have hb9 : Below w.heap.size wI wm := ((Below.refl w.heap.size wI).alloc (by omega) (.cells #[.slice adr j car] 38)).trans hbm
          have hsz5 : wI.heap.size ≤ wm.heap.size := by simp at hgz; omega
          have HM5 := Lib.hid hmat5
          have HU5 := Lib.hid (HU2.out.under hb9 (by omega))
          have HF5 := Lib.hid ((HF.out.trans HF2.out).under hb9 (Nat.le_refl _) hsz5)
          have hcp := capM_snoc (a := adr) HSH.out.2 HM.out.len HCAR.out
          rw [hxl] at hcp
          have HSH5 := Lib.hid (And.intro (shM_snoc HSH.out.1 hxl) hcp)
          clear hcp
          clear hmat5 hbm hb9
          go_wp2_with fail
          go_roundw
          case rel => exact ⟨k + 1, _, _, by omega, by go_num, HSH5.out, HM5.out, HU5.out.mono (by omega), HF5.out⟩
          case measure => simp [intOf]; omega

end Go.Proofs.YtfgdhlnmndgjbaaGreatDoor

/-
  Matrices of all shapes that the cursor draws. Printed by gen_wyV.py. By an AI agent.
-/
namespace Go.Proofs.YtfgdhlnmndgjbaaGreatDoor
open Go.RowKit

theorem Cur.drew' {w : World} {c n : Nat} (h : Cur w c n) : Cur w.drew c n := h.below (Below.refl _ _).drew
theorem Cur.alloc' {w : World} {c n : Nat} {o : Obj} (h : Cur w c n) : Cur (w.alloc o) c n := h.below ((Below.refl _ _).alloc (Nat.le_refl _) _)
theorem MatO.rowE {w : World} {B : Nat} {v : Value} {M : List (List Int)} {vs : List Value} (h : MatO w B v M vs) {i : Nat} (hi : i < M.length) (h0 : 0 < (M.getD i []).length) : ∃ b o c, vs.getD i undef = .slice (some ⟨b, o, none⟩) (M.getD i []).length c := by
  obtain ⟨h1, _⟩ := h.rowOf hi h0
  exact ⟨_, _, _, h1⟩
theorem MatO.rowY {w : World} {B n cap g : Nat} {M : List (List Int)} {vs : List Value} (h : MatO w B (.slice (some ⟨g, 0, none⟩) n cap) M vs) {i b o len c : Nat} (hi : i < M.length) (hl : (M.getD i []).length = len) (h0 : 0 < len) (hv : vs.getD i undef = .slice (some ⟨b, o, none⟩) len c) :
    w.cell? ⟨g, i, none⟩ = some (.slice (some ⟨b, o, none⟩) len c) ∧ B ≤ b ∧ b < w.heap.size ∧ b ≠ g ∧ (∀ j, j < len → w.cell? ⟨b, o + j, none⟩ = some (.int .i64 ((M.getD i []).getD j 0)) ∧ w.frozen? ⟨b, o + j, none⟩ = false) ∧
    ∀ j x, j < len → MatO (w.setCell ⟨b, o + j, none⟩ (.int .i64 x)) B (.slice (some ⟨g, 0, none⟩) n cap) (M.set i ((M.getD i []).set j x)) vs := by
  subst hl
  obtain ⟨_, h2, h3, h4⟩ := h.rowOf hi h0
  have e1 : rowAt (vs.getD i undef) = (b, o) := by rw [hv]; rfl
  rw [e1] at h2 h3 h4
  obtain ⟨g', cap', e, hB, _, ho⟩ := h.cells (by omega)
  injection e with e _ _
  injection e with e
  injection e with e _ _
  subst e
  have hi' : i < vs.length := by rw [h.len]; exact hi
  have hc := ho.cell? (i := i) (v := vs.getD i undef) (by rw [List.getD_eq_getElem?_getD, List.getElem?_eq_getElem hi']; rfl)
  refine ⟨by rw [hc, hv], h2, h3, fun e => ?_, h4, fun j x hj => ?_⟩
  · subst e
    exact (h.each i hi).ne_row h.row (q := b) (by rw [hv]; rfl) rfl
  · have := h.set hi hj x
    rw [e1] at this
    exact this
theorem MatO.outerM {w : World} {B n cap g R : Nat} {M : List (List Int)} {vs : List Value} (h : MatO w B (.slice (some ⟨g, 0, none⟩) n cap) M vs) (hR : M.length = R) : ∀ i, i < R → w.cell? ⟨g, i, none⟩ = some (vs.getD i undef) := by
  subst hR
  intro i hi
  obtain ⟨g', cap', e, hB, _, ho⟩ := h.cells (by omega)
  injection e with e _ _
  injection e with e
  injection e with e _ _
  subst e
  have hi' : i < vs.length := by rw [h.len]; exact hi
  exact ho.cell? (i := i) (v := vs.getD i undef) (by rw [List.getD_eq_getElem?_getD, List.getElem?_eq_getElem hi']; rfl)
theorem MatO.cut {w : World} {B n cap g : Nat} {M : List (List Int)} {vs : List Value} (h : MatO w B (.slice (some ⟨g, 0, none⟩) n cap) M vs) {i b : Nat} {u : Value} {xs : List Int} (hi : i < M.length) (hb : (vs.getD i undef).ownBlock = some b) (hu : CellO w B u xs) (hub : ∀ q, u.ownBlock = some q → q = b) :
    MatO (w.setCell ⟨g, i, none⟩ u) B (.slice (some ⟨g, 0, none⟩) n cap) (M.set i xs) (vs.set i u) := by
  have hn : n = M.length := by
    obtain ⟨ad, cap', e, _⟩ := h.shape
    injection e
  subst hn
  have hvl := h.len
  have hgn : ∀ a, a < M.length → ∀ q, (vs.getD a undef).ownBlock = some q → q ≠ g := fun a ha q hq e => by
    subst e
    exact (h.each a ha).ne_row h.row hq rfl
  have e1 : ∀ a, a ≠ i → (M.set i xs).getD a [] = M.getD a [] := fun a ha => by rw [List.getD_eq_getElem?_getD, List.getElem?_set_ne (by omega), ← List.getD_eq_getElem?_getD]
  have e2 : ∀ a, a ≠ i → (vs.set i u).getD a undef = vs.getD a undef := fun a ha => by rw [List.getD_eq_getElem?_getD, List.getElem?_set_ne (by omega), ← List.getD_eq_getElem?_getD]
  have e3 : (M.set i xs).getD i [] = xs := by simp [List.getD_eq_getElem?_getD, hi]
  have e4 : (vs.set i u).getD i undef = u := by simp [List.getD_eq_getElem?_getD, hvl, hi]
  refine ⟨?_, fun a ha => ?_, fun a c ha hc hac q hq => ?_⟩
  · rw [List.length_set]
    exact (World.ownsRow.stored h.row i u).1
  · rw [List.length_set] at ha
    by_cases ea : a = i
    · subst ea
      rw [e3, e4]
      exact hu.of_block fun q hq => Deep.blk_setCell_other _ _ _ _ (by rw [hub q hq]; exact hgn a ha b hb)
    · rw [e1 a ea, e2 a ea]
      exact (h.each a ha).of_block fun q hq => Deep.blk_setCell_other _ _ _ _ (hgn a ha q hq)
  · rw [List.length_set] at ha hc
    by_cases ea : a = i
    · subst ea
      rw [e4] at hq
      rw [e2 c (by omega)]
      have := hub q hq
      subst this
      exact h.apart a c hi hc hac q hb
    · rw [e2 a ea] at hq
      by_cases ec : c = i
      · subst ec
        rw [e4]
        intro h5
        have := hub q h5
        subst this
        exact h.apart c a hi ha (by omega) q hb hq
      · rw [e2 c ec]
        exact h.apart a c ha hc hac q hq
theorem CellO.cut2 {w : World} {B b o k c : Nat} {xs : List Int} (h : CellO w B (.slice (some ⟨b, o, none⟩) (k + 1) c) xs) : CellO w B (.slice (some ⟨b, o + 1, none⟩) k (c - 1)) xs.tail := by
  obtain ⟨ad, cap, e, hcp, h⟩ := h
  injection e with e0 e1 e2
  subst e0
  rcases h with ⟨h, _⟩ | ⟨g, off, ys, h, hB, ho, hj⟩
  · cases h
  · injection h with h
    injection h with h h' _
    subst h; subst h'
    have hxl : xs.tail.length = k := by rw [List.length_tail]; omega
    refine ⟨_, _, by rw [hxl], by rw [hxl]; omega, Or.inr ⟨b, o + 1, ys, rfl, hB, ho, fun j hj2 => ?_⟩⟩
    obtain ⟨h1, h2⟩ := hj (j + 1) (by omega)
    refine ⟨by omega, ?_⟩
    rw [show o + 1 + j = o + (j + 1) by omega, ← h2]
    simp [List.getD_eq_getElem?_getD]
theorem CellO.cut1 {w : World} {B b o c : Nat} {xs : List Int} (h : CellO w B (.slice (some ⟨b, o, none⟩) (0 + 1) c) xs) : CellO w B (.slice (some ⟨b, o, none⟩) 0 0) xs.tail := by
  obtain ⟨ad, cap, e, _, h⟩ := h
  injection e with e0 e1 e2
  subst e0
  rcases h with ⟨h, _⟩ | ⟨g, off, ys, h, hB, ho, hj⟩
  · cases h
  · injection h with h
    injection h with h h' _
    subst h; subst h'
    have hxl : xs.tail.length = 0 := by rw [List.length_tail]; omega
    exact ⟨_, 0, by rw [hxl], by rw [hxl]; exact Nat.le_refl _, Or.inr ⟨b, o, ys, rfl, hB, ho, fun j hj => by omega⟩⟩
def okS (M : List (List Int)) (vs : List Value) : Prop := ∃ R C : Nat, (1 ≤ R ∧ R ≤ 6) ∧ (1 ≤ C ∧ C ≤ 6) ∧ shM R C M ∧ capM M vs
def smD (M : List (List Int)) (_ : List Value) : Prop := M.length ≤ 7 ∧ ∀ i, i < M.length → (M.getD i []).length ≤ 7
theorem smD_sh {R C : Nat} {M : List (List Int)} {vs : List Value} (h : shM R C M) (hR : R ≤ 7) (hC : C ≤ 7) : smD M vs := ⟨by rw [h.1]; exact hR, fun i hi => by rw [h.2 i (by rw [← h.1]; exact hi)]; exact hC⟩
theorem smD_set {M : List (List Int)} {vs vs' : List Value} {i : Nat} {xs : List Int} (h : smD M vs) (hx : xs.length ≤ 7) : smD (M.set i xs) vs' := by
  refine ⟨by rw [List.length_set]; exact h.1, fun a ha => ?_⟩
  rw [List.length_set] at ha
  by_cases e : a = i
  · subst e
    rw [show (M.set a xs).getD a [] = xs by simp [List.getD_eq_getElem?_getD, ha]]
    exact hx
  · rw [List.getD_eq_getElem?_getD, List.getElem?_set_ne (by omega), ← List.getD_eq_getElem?_getD]
    exact h.2 a ha

set_option maxHeartbeats 1600000 in
set_option maxRecDepth 100000 in
theorem square_c (c n : Nat) (w : World) (h : Cur w c n) (hn : n ≤ 4611686018427350000) :
    Calls Tryz.prog 78 #[.pointer (some ⟨c, 0, none⟩)] w (MatD okS c (n + 210) w) := by
  have hcl := h.lt
  have H := Lib.hid h; clear h
  go_enter Tryz.func78, Tryz.ntmps78
  go_wp2_with fail
  refine (pick_c 4 c n w H.out (by omega)).mono ?_
  rintro e w1 ⟨x, rfl, hx, hcu, hch⟩
  obtain ⟨N, hN⟩ : ∃ N : Nat, 1 + x = (N : Int) := ⟨(1 + x).toNat, by omega⟩
  have e1 : IntKind.i64.wrap (1 + x) = (N : Int) := by rw [i64_small (by omega) (by omega)]; exact hN
  have hN4 : 1 ≤ N ∧ N ≤ 4 := by omega
  have hz := hch.size
  have HU := Lib.hid hcu; have HF := Lib.hid hch
  clear hcu hch hx hN
  go_wp2_with fail
  refine (one_c 12 c (n + 2) w1 HU.out (by omega)).mono ?_
  rintro e w2 ⟨b, rfl, hcu, hch⟩
  have hz2 := hch.size
  have HU2 := Lib.hid hcu; have HF2 := Lib.hid (HF.out.trans hch)
  clear hcu hch
  cases b
  · go_wp2_with fail
    refine (matrix_c N N c (n + 4) w2 HU2.out (by omega) (by omega) (by omega)).mono ?_
    rintro e w3 ⟨ad, cap, M, vs, rfl, ⟨hsh, hcp⟩, hmat, hcu, hch⟩
    have HP := Lib.hid (show okS M vs from ⟨N, N, by omega, by omega, hsh, hcp⟩)
    have HM := Lib.hid (hmat.mono (B' := w.heap.size) (by omega)); have HU3 := Lib.hid hcu; have HF3 := Lib.hid (HF2.out.trans hch)
    clear hsh hcp hmat hcu hch
    go_wp2_with fail
    go_ret
    exact ⟨ad, cap, M, ⟨vs, rfl, HP.out, HM.out, HU3.out.mono (by omega), HF3.out⟩⟩
  · go_wp2_with fail
    refine (matrix_c 6 6 c (n + 4) w2 HU2.out (by omega) (by omega) (by omega)).mono ?_
    rintro e w3 ⟨ad, cap, M, vs, rfl, ⟨hsh, hcp⟩, hmat, hcu, hch⟩
    have HP := Lib.hid (show okS M vs from ⟨6, 6, by omega, by omega, hsh, hcp⟩)
    have HM := Lib.hid (hmat.mono (B' := w.heap.size) (by omega)); have HU3 := Lib.hid hcu; have HF3 := Lib.hid (HF2.out.trans hch)
    clear hsh hcp hmat hcu hch
    go_wp2_with fail
    go_ret
    exact ⟨ad, cap, M, ⟨vs, rfl, HP.out, HM.out, HU3.out.mono (by omega), HF3.out⟩⟩

set_option maxHeartbeats 6400000 in
set_option maxRecDepth 100000 in
theorem anyMatrix_c (c n : Nat) (w : World) (h : Cur w c n) (hn : n ≤ 4611686018427340000) :
    Calls Tryz.prog 43 #[.pointer (some ⟨c, 0, none⟩)] w (MatD smD c (n + 700) w) := by
  have hcl := h.lt
  have H := Lib.hid h; clear h
  go_enter Tryz.func43, Tryz.ntmps43
  go_wp2_with fail
  refine (square_c c n w H.out (by omega)).mono ?_
  rintro e w1 ⟨ad, cap, M, vs, rfl, hok, hmat, hcu, hch⟩
  have hz := hch.size
  have HP := Lib.hid hok; have HM := Lib.hid hmat; have HU := Lib.hid hcu; have HF := Lib.hid hch
  clear hok hmat hcu hch H
  go_wp2_with fail
  refine (one_c 3 c (n + 210) w1 HU.out (by omega)).mono ?_
  rintro e w2 ⟨b, rfl, hcu, hch⟩
  have hz2 := hch.size
  have HM2 := Lib.hid (HM.out.chg hch hcl)
  have HU2 := Lib.hid hcu; have HF2 := Lib.hid (HF.out.trans hch)
  clear hcu hch HM HU HF
  cases b
  case false =>
    obtain ⟨R, C, hR, hC, hsh, hcp⟩ := HP.out
    have hML := hsh.1
    obtain ⟨g, cav, eg, hg, _, _⟩ := HM2.out.cells (by omega)
    injection eg with eg _ eg3
    subst eg
    rw [hML] at HM2 ⊢
    have HSH := Lib.hid hsh; have HCP := Lib.hid hcp; have HML := Lib.hid hML
    have hgl : g < w2.heap.size := by
      obtain ⟨g', _, eg, _, _, ho⟩ := HM2.out.cells (by rw [hML]; omega)
      injection eg with eg _ _
      injection eg with eg
      injection eg with eg _ _
      subst eg
      exact ho.lt
    clear hsh hcp hML eg3
    go_wp2_with fail
    refine (pick_c 30 c (n + 212) w2 HU2.out (by omega)).mono ?_
    rintro e w4 ⟨x, rfl, hx, hcu, hch⟩
    have hz4 := hch.size
    have HM4 := Lib.hid (HM2.out.chg hch hcl)
    have HU4 := Lib.hid hcu; have HF4 := Lib.hid (HF2.out.trans hch)
    clear hcu hch
    by_cases h0 : x = 0
    case pos =>
      subst h0
      have hn1 : ∀ i, i < M.length → 0 < (M.getD i []).length := fun i hi => by rw [HSH.out.2 i (by rw [← HML.out]; exact hi)]; omega
      have HN1 := Lib.hid hn1; clear hn1
      have HDL := Lib.hid (fun i (hi : i < R) => HSH.out.2 i hi)
      have hx1 : (0 : Int) < (C : Int) := by omega
      have hx2 : 0 < C := by omega
      have hcw4 : c < w4.heap.size := by omega
      obtain ⟨F, hF⟩ : ∃ F : Nat → Value, ∀ i, vs.getD i undef = F i := ⟨_, fun _ => rfl⟩
      have HFV := Lib.hid hF
      clear hF
      have n4 : ∀ i, i < R → w4.cell? ⟨g, i, none⟩ = some (F i) := fun i hi => by rw [← HFV.out]; exact HM4.out.outerM HML.out i hi
      go_wp2_with fail
      go_region_held3 (fun w' => ∀ i, i < R → w'.cell? ⟨g, i, none⟩ = some (F i)) (first | assumption | (intro i hi; with_reducible repeat' (first | (apply_assumption; assumption) | apply cell_alloc' | apply cell_drew' | (refine cell_set' hbg.symm ?_))))
        (first
          | (go_at_call 46; (with_reducible refine (pick_c (R : Int) c ((n + 212) + 2) _ (by first | exact HU4.out | exact HU4.out.below (Below.refl _ _).drew) (by omega)).mono ?_); rintro e W1 ⟨y, rfl, hy, hcu, hch⟩; obtain ⟨q, rfl⟩ : ∃ q : Nat, y = (q : Int) := ⟨y.toNat, by omega⟩; have hqR : q < R := (by omega); have HMA := Lib.hid (MatO.chg (by first | exact HM4.out | exact HM4.out.below (Below.refl _ _).drew) hch hcl); have HUA := Lib.hid hcu; have HFA := Lib.hid (HF4.out.trans (Chg.trans (Chg.of_below (Below.refl _ _).drew) hch)); obtain ⟨bq, oq, cq, hvq⟩ := HMA.out.rowE (i := q) (by rw [HML.out]; exact hqR) (HN1.out q (by rw [HML.out]; exact hqR)); rw [HDL.out q hqR] at hvq; have HVQ := Lib.hid hvq; rw [HFV.out] at hvq; have nA : ∀ i, i < R → W1.cell? ⟨g, i, none⟩ = some (F i) := (fun i hi => by rw [← HFV.out]; exact HMA.out.outerM HML.out i hi); have hzA := hch.size; have hq0 : (0 : Int) ≤ (q : Int) := (by omega); have hq1 : (q : Int) < (R : Int) := (by omega); clear hcu hch hy)
          | (go_at_call 52; (with_reducible refine (anyNum_c c (((n + 212) + 2) + 2) _ HUA.out (by omega)).mono ?_); rintro e W2 ⟨z, rfl, -, hcu, hch⟩; have HMB := Lib.hid (HMA.out.chg hch hcl); have HUB := Lib.hid hcu; have HFB := Lib.hid (HFA.out.trans hch); have nB : ∀ i, i < R → W2.cell? ⟨g, i, none⟩ = some (F i) := (fun i hi => by rw [← HFV.out]; exact HMB.out.outerM HML.out i hi); obtain ⟨_, hBb, hbB, hbg, hcell, hset⟩ := HMB.out.rowY (by rw [HML.out]; exact hqR) (HDL.out q hqR) (by omega) HVQ.out; obtain ⟨mB, fB⟩ := hcell 0 (by omega); have hst := hset 0 z (by omega); rw [Nat.add_zero] at mB fB hst; have HST := Lib.hid hst; have hzB := hch.size; clear hcu hch hcell hset hst)
          | fail)
      all_goals
        have hb9 : Below w.heap.size W2 (W2.setCell ⟨bq, oq, none⟩ (.int .i64 z)) := (Below.refl w.heap.size W2).setCell (p := ⟨bq, oq, none⟩) hBb (.int .i64 z)
        have HU9 := Lib.hid (HUB.out.under hb9 hcl)
        have HF9 := Lib.hid (HFB.out.under hb9 (Nat.le_refl _) (by simp [World.setCell]))
        have HS9 := Lib.hid (smD_set (vs' := vs) (i := q) (xs := (M.getD q []).set 0 z) (smD_sh (vs := vs) HSH.out (by omega) (by omega)) (by rw [List.length_set, HDL.out q hqR]; omega))
        clear hb9
        go_wp2_with fail
        go_ret
        exact ⟨_, cap, _, ⟨_, by rw [List.length_set, HML.out]; rfl, HS9.out, by rw [List.length_set, HML.out]; exact HST.out, HU9.out.mono (by omega), HF9.out⟩⟩
    case neg =>
      have e0 : (x == 0) = false := beq_eq_false_iff_ne.2 h0
      by_cases h1 : x = 1
      case pos =>
        subst h1
        clear h0
        obtain ⟨C', hC'⟩ : ∃ C', C = C' + 1 := ⟨C - 1, by omega⟩
        subst hC'
        have h0l := HSH.out.2 0 (by omega)
        obtain ⟨b0, o0, c0, hv0⟩ := HM4.out.rowE (i := 0) (by rw [HML.out]; omega) (by rw [h0l]; omega)
        obtain ⟨_, _, hv0', hcap⟩ := HCP.out 0 (by rw [HML.out]; omega)
        rw [hv0] at hv0'
        injection hv0' with q1 q2 q3
        subst q1
        subst q3
        clear q2
        rw [h0l] at hv0 hcap
        obtain ⟨k0, hBb, hbl, hbg, _, _⟩ := HM4.out.rowY (by rw [HML.out]; omega) h0l (by omega) hv0
        have hce := HM4.out.each 0 (by rw [HML.out]; omega)
        rw [hv0] at hce
        have fz : w4.frozen? ⟨g, 0, none⟩ = false := by
          obtain ⟨g', _, eg, _, _, ho⟩ := HM4.out.cells (by rw [HML.out]; omega)
          injection eg with eg _ _
          injection eg with eg
          injection eg with eg _ _
          subst eg
          exact ho.frozen 0
        have HCT := Lib.hid (fun u (hu : CellO w4 w.heap.size u (M.getD 0 []).tail) (hq : ∀ q, u.ownBlock = some q → q = b0) => HM4.out.cut (i := 0) (by rw [HML.out]; omega) (b := b0) (by rw [hv0]; rfl) hu hq)
        have HB9 := Lib.hid (fun u => (show Below w.heap.size w4 (w4.setCell ⟨g, 0, none⟩ u) from (Below.refl w.heap.size w4).setCell (p := ⟨g, 0, none⟩) hg u))
        have HS9 := Lib.hid (fun vs' => smD_set (vs' := vs') (i := 0) (xs := (M.getD 0 []).tail) (smD_sh (vs := vs) HSH.out (by omega) (by omega)) (by rw [List.length_tail, h0l]; omega))
        have HCE := Lib.hid hce
        have hx1 : (0 : Int) < (R : Int) := by omega
        have hx2 : 0 < R := by omega
        clear hv0 hce h0l
        by_cases hc1 : c0 = 1
        case pos =>
          obtain rfl : C' = 0 := by omega
          subst hc1
          go_wp2_with fail
          go_ret
          exact ⟨_, cap, _, ⟨_, by rw [List.length_set, HML.out]; rfl, HS9.out _, by rw [List.length_set, HML.out]; exact HCT.out _ HCE.out.cut1 (fun q hq => by simpa [Value.ownBlock] using hq.symm), (HU4.out.under (HB9.out _) hcl).mono (by omega), HF4.out.under (HB9.out _) (Nat.le_refl _) (by simp [World.setCell])⟩⟩
        case neg =>
          go_wp2_with fail
          go_ret
          exact ⟨_, cap, _, ⟨_, by rw [List.length_set, HML.out]; rfl, HS9.out _, by rw [List.length_set, HML.out]; exact HCT.out _ HCE.out.cut2 (fun q hq => by simpa [Value.ownBlock] using hq.symm), (HU4.out.under (HB9.out _) hcl).mono (by omega), HF4.out.under (HB9.out _) (Nat.le_refl _) (by simp [World.setCell])⟩⟩
      case neg =>
        have e1 : (x == 1) = false := beq_eq_false_iff_ne.2 h1
        by_cases h2 : x = 2
        case pos =>
          subst h2
          have hcw4 : c < w4.heap.size := by omega
          go_wp2_with fail
          refine (among_c w4.heap.size 2 [0, 7] c ((n + 212) + 2) _ (HU4.out.below ((Below.refl _ _).alloc (Nat.le_refl _) _)) (by omega) (by simp) (by simp) (by omega) (Own.newA w4 _ 3 rfl)).mono ?_
          rintro e w5 ⟨y, rfl, hy, hcu, hch⟩
          obtain ⟨r, rfl, hr⟩ : ∃ r : Nat, y = (r : Int) ∧ r ≤ 7 := by
            simp at hy
            rcases hy with h | h
            · exact ⟨0, h, by omega⟩
            · exact ⟨7, h, by omega⟩
          have hz5 := hch.size
          have hz5' : w4.heap.size ≤ w5.heap.size := by simp at hz5; omega
          have HU5 := Lib.hid hcu; have HF5 := Lib.hid ((HF4.out.trans (Chg.of_below ((Below.refl _ _).alloc (Nat.le_refl _) _))).trans hch)
          clear hcu hch hy hz5
          go_wp2_with fail
          refine (matrix_c r 2 c (((n + 212) + 2) + 2) w5 HU5.out (by omega) (by omega) (by omega)).mono ?_
          rintro e w6 ⟨ad6, cap6, M6, vs6, rfl, ⟨hsh6, _⟩, hmat6, hcu, hch⟩
          have HP6 := Lib.hid (smD_sh (vs := vs6) hsh6 (by omega) (by omega))
          have HM6 := Lib.hid (hmat6.mono (B' := w.heap.size) (by omega)); have HU6 := Lib.hid hcu; have HF6 := Lib.hid (HF5.out.trans hch)
          clear hsh6 hmat6 hcu hch
          go_wp2_with fail
          go_ret
          exact ⟨ad6, cap6, M6, ⟨vs6, rfl, HP6.out, HM6.out, HU6.out.mono (by omega), HF6.out⟩⟩
        case neg =>
          have e2 : (x == 2) = false := beq_eq_false_iff_ne.2 h2
          by_cases h3 : x = 3
          case pos =>
            subst h3
            have hcw4 : c < w4.heap.size := by omega
            go_wp2_with fail
            refine (among_c w4.heap.size 2 [0, 7] c ((n + 212) + 2) _ (HU4.out.below ((Below.refl _ _).alloc (Nat.le_refl _) _)) (by omega) (by simp) (by simp) (by omega) (Own.newA w4 _ 3 rfl)).mono ?_
            rintro e w5 ⟨y, rfl, hy, hcu, hch⟩
            obtain ⟨r, rfl, hr⟩ : ∃ r : Nat, y = (r : Int) ∧ r ≤ 7 := by
              simp at hy
              rcases hy with h | h
              · exact ⟨0, h, by omega⟩
              · exact ⟨7, h, by omega⟩
            have hz5 := hch.size
            have hz5' : w4.heap.size ≤ w5.heap.size := by simp at hz5; omega
            have HU5 := Lib.hid hcu; have HF5 := Lib.hid ((HF4.out.trans (Chg.of_below ((Below.refl _ _).alloc (Nat.le_refl _) _))).trans hch)
            clear hcu hch hy hz5
            go_wp2_with fail
            refine (matrix_c 2 r c (((n + 212) + 2) + 2) w5 HU5.out (by omega) (by omega) (by omega)).mono ?_
            rintro e w6 ⟨ad6, cap6, M6, vs6, rfl, ⟨hsh6, _⟩, hmat6, hcu, hch⟩
            have HP6 := Lib.hid (smD_sh (vs := vs6) hsh6 (by omega) (by omega))
            have HM6 := Lib.hid (hmat6.mono (B' := w.heap.size) (by omega)); have HU6 := Lib.hid hcu; have HF6 := Lib.hid (HF5.out.trans hch)
            clear hsh6 hmat6 hcu hch
            go_wp2_with fail
            go_ret
            exact ⟨ad6, cap6, M6, ⟨vs6, rfl, HP6.out, HM6.out, HU6.out.mono (by omega), HF6.out⟩⟩
          case neg =>
            have e3 : (x == 3) = false := beq_eq_false_iff_ne.2 h3
            by_cases h4 : x = 4
            case pos =>
              subst h4
              have h0l := HSH.out.2 0 (by omega)
              obtain ⟨b0, o0, c0, hv0⟩ := HM4.out.rowE (i := 0) (by rw [HML.out]; omega) (by rw [h0l]; omega)
              rw [h0l] at hv0
              have HV0 := Lib.hid hv0
              have H0L := Lib.hid h0l
              obtain ⟨k0, hBb, hbl, hbg, _, _⟩ := HM4.out.rowY (by rw [HML.out]; omega) h0l (by omega) hv0
              have hcw4 : c < w4.heap.size := by omega
              have hx1 : (0 : Int) < (C : Int) := by omega
              have hx2 : 0 < C := by omega
              have hx3 : (0 : Int) < (R : Int) := by omega
              have hx4 : 0 < R := by omega
              clear hv0 h0l
              go_wp2_with fail
              go_region_held3 (fun w' => w'.cell? ⟨g, 0, none⟩ = some (.slice (some ⟨b0, o0, none⟩) C c0)) (first | assumption | (with_reducible repeat' (first | assumption | apply cell_alloc' | apply cell_drew' | (refine cell_set' hbg.symm ?_))))
                (first
                  | (go_at_call 79; (refine (among_c w4.heap.size 2 [1000000, -1000000] c ((n + 212) + 2) _ (by with_reducible repeat (first | exact HU4.out | apply Cur.alloc' | apply Cur.drew')) (by omega) (by simp) (by simp) (by first | omega | (simp; omega)) (by first | exact (Own.newA _ _ 3 rfl).drew | exact (Own.newA _ _ 3 rfl))).mono ?_); rintro e W1 ⟨z, rfl, -, hcu, hch⟩; have hchD := Chg.trans (Chg.of_below (b := c) ((Below.refl w4.heap.size w4).alloc (Nat.le_refl _) (.cells #[.int .i64 1000000, .int .i64 (-1000000)] 3)).drew) hch; have HMB := Lib.hid (HM4.out.chg hchD hcl); have HUB := Lib.hid hcu; have HFB := Lib.hid (HF4.out.trans hchD); obtain ⟨nB, _, _, _, hcell, hset⟩ := HMB.out.rowY (by rw [HML.out]; omega) H0L.out (by omega) HV0.out; obtain ⟨mB, fB⟩ := hcell 0 (by omega); have hst := hset 0 z (by omega); rw [Nat.add_zero] at mB fB hst; have HST := Lib.hid hst; have hzB := hchD.size; clear hcu hch hchD hcell hset hst)
                  | fail)
              all_goals
                have hb9 : Below w.heap.size W1 (W1.setCell ⟨b0, o0, none⟩ (.int .i64 z)) := (Below.refl w.heap.size W1).setCell (p := ⟨b0, o0, none⟩) hBb (.int .i64 z)
                have HU9 := Lib.hid (HUB.out.under hb9 hcl)
                have HF9 := Lib.hid (HFB.out.under hb9 (Nat.le_refl _) (by simp [World.setCell]))
                have HS9 := Lib.hid (smD_set (vs' := vs) (i := 0) (xs := (M.getD 0 []).set 0 z) (smD_sh (vs := vs) HSH.out (by omega) (by omega)) (by rw [List.length_set, H0L.out]; omega))
                clear hb9
                go_wp2_with fail
                go_ret
                exact ⟨_, cap, _, ⟨_, by rw [List.length_set, HML.out]; rfl, HS9.out, by rw [List.length_set, HML.out]; exact HST.out, HU9.out.mono (by omega), HF9.out⟩⟩
            case neg =>
              have e4 : (x == 4) = false := beq_eq_false_iff_ne.2 h4
              have HS9 := Lib.hid (smD_sh (vs := vs) HSH.out (by omega) (by omega))
              go_wp2_with fail
              go_ret
              exact ⟨_, cap, M, ⟨vs, by rw [HML.out]; rfl, HS9.out, by rw [HML.out]; exact HM4.out, HU4.out.mono (by omega), HF4.out⟩⟩
  case true =>
    clear HP HM2
    go_wp2_with fail
    refine (pick_c 4 c (n + 212) w2 HU2.out (by omega)).mono ?_
    rintro e w7 ⟨x7, rfl, hx7, hcu, hch⟩
    obtain ⟨R7, hR7⟩ : ∃ N : Nat, 1 + x7 = (N : Int) := ⟨(1 + x7).toNat, by omega⟩
    have q1 : IntKind.i64.wrap (1 + x7) = (R7 : Int) := by rw [i64_small (by omega) (by omega)]; exact hR7
    have hR72 : 1 ≤ R7 ∧ R7 ≤ 4 := by omega
    have hz7 := hch.size
    have HU7 := Lib.hid hcu; have HF7 := Lib.hid (HF2.out.trans hch)
    clear hcu hch hx7 hR7
    go_wp2_with fail
    refine (pick_c 4 c (n + 214) w7 HU7.out (by omega)).mono ?_
    rintro e w8 ⟨x8, rfl, hx8, hcu, hch⟩
    obtain ⟨C8, hC8⟩ : ∃ N : Nat, 1 + x8 = (N : Int) := ⟨(1 + x8).toNat, by omega⟩
    have q2 : IntKind.i64.wrap (1 + x8) = (C8 : Int) := by rw [i64_small (by omega) (by omega)]; exact hC8
    have hC82 : 1 ≤ C8 ∧ C8 ≤ 4 := by omega
    have hz8 := hch.size
    have HU8 := Lib.hid hcu; have HF8 := Lib.hid (HF7.out.trans hch)
    clear hcu hch hx8 hC8
    go_wp2_with fail
    refine (matrix_c R7 C8 c (n + 216) w8 HU8.out (by omega) (by omega) (by omega)).mono ?_
    rintro e w3 ⟨ad, cap, M, vs, rfl, ⟨hsh, hcp⟩, hmat, hcu, hch⟩
    have hz3 := hch.size
    have HP := Lib.hid (show okS M vs from ⟨R7, C8, by omega, by omega, hsh, hcp⟩)
    have HM3 := Lib.hid (hmat.mono (B' := w.heap.size) (by omega)); have HU3 := Lib.hid hcu; have HF3 := Lib.hid (HF8.out.trans hch)
    clear hsh hcp hmat hcu hch
    obtain ⟨R, C, hR, hC, hsh, hcp⟩ := HP.out
    have hML := hsh.1
    obtain ⟨g, cav, eg, hg, _, _⟩ := HM3.out.cells (by omega)
    injection eg with eg _ eg3
    subst eg
    rw [hML] at HM3 ⊢
    have HSH := Lib.hid hsh; have HCP := Lib.hid hcp; have HML := Lib.hid hML
    have hgl : g < w3.heap.size := by
      obtain ⟨g', _, eg, _, _, ho⟩ := HM3.out.cells (by rw [hML]; omega)
      injection eg with eg _ _
      injection eg with eg
      injection eg with eg _ _
      subst eg
      exact ho.lt
    clear hsh hcp hML eg3
    go_wp2_with fail
    refine (pick_c 30 c (n + 416) w3 HU3.out (by omega)).mono ?_
    rintro e w4 ⟨x, rfl, hx, hcu, hch⟩
    have hz4 := hch.size
    have HM4 := Lib.hid (HM3.out.chg hch hcl)
    have HU4 := Lib.hid hcu; have HF4 := Lib.hid (HF3.out.trans hch)
    clear hcu hch
    by_cases h0 : x = 0
    case pos =>
      subst h0
      have hn1 : ∀ i, i < M.length → 0 < (M.getD i []).length := fun i hi => by rw [HSH.out.2 i (by rw [← HML.out]; exact hi)]; omega
      have HN1 := Lib.hid hn1; clear hn1
      have HDL := Lib.hid (fun i (hi : i < R) => HSH.out.2 i hi)
      have hx1 : (0 : Int) < (C : Int) := by omega
      have hx2 : 0 < C := by omega
      have hcw4 : c < w4.heap.size := by omega
      obtain ⟨F, hF⟩ : ∃ F : Nat → Value, ∀ i, vs.getD i undef = F i := ⟨_, fun _ => rfl⟩
      have HFV := Lib.hid hF
      clear hF
      have n4 : ∀ i, i < R → w4.cell? ⟨g, i, none⟩ = some (F i) := fun i hi => by rw [← HFV.out]; exact HM4.out.outerM HML.out i hi
      go_wp2_with fail
      go_region_held3 (fun w' => ∀ i, i < R → w'.cell? ⟨g, i, none⟩ = some (F i)) (first | assumption | (intro i hi; with_reducible repeat' (first | (apply_assumption; assumption) | apply cell_alloc' | apply cell_drew' | (refine cell_set' hbg.symm ?_))))
        (first
          | (go_at_call 46; (with_reducible refine (pick_c (R : Int) c ((n + 416) + 2) _ (by first | exact HU4.out | exact HU4.out.below (Below.refl _ _).drew) (by omega)).mono ?_); rintro e W1 ⟨y, rfl, hy, hcu, hch⟩; obtain ⟨q, rfl⟩ : ∃ q : Nat, y = (q : Int) := ⟨y.toNat, by omega⟩; have hqR : q < R := (by omega); have HMA := Lib.hid (MatO.chg (by first | exact HM4.out | exact HM4.out.below (Below.refl _ _).drew) hch hcl); have HUA := Lib.hid hcu; have HFA := Lib.hid (HF4.out.trans (Chg.trans (Chg.of_below (Below.refl _ _).drew) hch)); obtain ⟨bq, oq, cq, hvq⟩ := HMA.out.rowE (i := q) (by rw [HML.out]; exact hqR) (HN1.out q (by rw [HML.out]; exact hqR)); rw [HDL.out q hqR] at hvq; have HVQ := Lib.hid hvq; rw [HFV.out] at hvq; have nA : ∀ i, i < R → W1.cell? ⟨g, i, none⟩ = some (F i) := (fun i hi => by rw [← HFV.out]; exact HMA.out.outerM HML.out i hi); have hzA := hch.size; have hq0 : (0 : Int) ≤ (q : Int) := (by omega); have hq1 : (q : Int) < (R : Int) := (by omega); clear hcu hch hy)
          | (go_at_call 52; (with_reducible refine (anyNum_c c (((n + 416) + 2) + 2) _ HUA.out (by omega)).mono ?_); rintro e W2 ⟨z, rfl, -, hcu, hch⟩; have HMB := Lib.hid (HMA.out.chg hch hcl); have HUB := Lib.hid hcu; have HFB := Lib.hid (HFA.out.trans hch); have nB : ∀ i, i < R → W2.cell? ⟨g, i, none⟩ = some (F i) := (fun i hi => by rw [← HFV.out]; exact HMB.out.outerM HML.out i hi); obtain ⟨_, hBb, hbB, hbg, hcell, hset⟩ := HMB.out.rowY (by rw [HML.out]; exact hqR) (HDL.out q hqR) (by omega) HVQ.out; obtain ⟨mB, fB⟩ := hcell 0 (by omega); have hst := hset 0 z (by omega); rw [Nat.add_zero] at mB fB hst; have HST := Lib.hid hst; have hzB := hch.size; clear hcu hch hcell hset hst)
          | fail)
      all_goals
        have hb9 : Below w.heap.size W2 (W2.setCell ⟨bq, oq, none⟩ (.int .i64 z)) := (Below.refl w.heap.size W2).setCell (p := ⟨bq, oq, none⟩) hBb (.int .i64 z)
        have HU9 := Lib.hid (HUB.out.under hb9 hcl)
        have HF9 := Lib.hid (HFB.out.under hb9 (Nat.le_refl _) (by simp [World.setCell]))
        have HS9 := Lib.hid (smD_set (vs' := vs) (i := q) (xs := (M.getD q []).set 0 z) (smD_sh (vs := vs) HSH.out (by omega) (by omega)) (by rw [List.length_set, HDL.out q hqR]; omega))
        clear hb9
        go_wp2_with fail
        go_ret
        exact ⟨_, cap, _, ⟨_, by rw [List.length_set, HML.out]; rfl, HS9.out, by rw [List.length_set, HML.out]; exact HST.out, HU9.out.mono (by omega), HF9.out⟩⟩
    case neg =>
      have e0 : (x == 0) = false := beq_eq_false_iff_ne.2 h0
      by_cases h1 : x = 1
      case pos =>
        subst h1
        clear h0
        obtain ⟨C', hC'⟩ : ∃ C', C = C' + 1 := ⟨C - 1, by omega⟩
        subst hC'
        have h0l := HSH.out.2 0 (by omega)
        obtain ⟨b0, o0, c0, hv0⟩ := HM4.out.rowE (i := 0) (by rw [HML.out]; omega) (by rw [h0l]; omega)
        obtain ⟨_, _, hv0', hcap⟩ := HCP.out 0 (by rw [HML.out]; omega)
        rw [hv0] at hv0'
        injection hv0' with q1 q2 q3
        subst q1
        subst q3
        clear q2
        rw [h0l] at hv0 hcap
        obtain ⟨k0, hBb, hbl, hbg, _, _⟩ := HM4.out.rowY (by rw [HML.out]; omega) h0l (by omega) hv0
        have hce := HM4.out.each 0 (by rw [HML.out]; omega)
        rw [hv0] at hce
        have fz : w4.frozen? ⟨g, 0, none⟩ = false := by
          obtain ⟨g', _, eg, _, _, ho⟩ := HM4.out.cells (by rw [HML.out]; omega)
          injection eg with eg _ _
          injection eg with eg
          injection eg with eg _ _
          subst eg
          exact ho.frozen 0
        have HCT := Lib.hid (fun u (hu : CellO w4 w.heap.size u (M.getD 0 []).tail) (hq : ∀ q, u.ownBlock = some q → q = b0) => HM4.out.cut (i := 0) (by rw [HML.out]; omega) (b := b0) (by rw [hv0]; rfl) hu hq)
        have HB9 := Lib.hid (fun u => (show Below w.heap.size w4 (w4.setCell ⟨g, 0, none⟩ u) from (Below.refl w.heap.size w4).setCell (p := ⟨g, 0, none⟩) hg u))
        have HS9 := Lib.hid (fun vs' => smD_set (vs' := vs') (i := 0) (xs := (M.getD 0 []).tail) (smD_sh (vs := vs) HSH.out (by omega) (by omega)) (by rw [List.length_tail, h0l]; omega))
        have HCE := Lib.hid hce
        have hx1 : (0 : Int) < (R : Int) := by omega
        have hx2 : 0 < R := by omega
        clear hv0 hce h0l
        by_cases hc1 : c0 = 1
        case pos =>
          obtain rfl : C' = 0 := by omega
          subst hc1
          go_wp2_with fail
          go_ret
          exact ⟨_, cap, _, ⟨_, by rw [List.length_set, HML.out]; rfl, HS9.out _, by rw [List.length_set, HML.out]; exact HCT.out _ HCE.out.cut1 (fun q hq => by simpa [Value.ownBlock] using hq.symm), (HU4.out.under (HB9.out _) hcl).mono (by omega), HF4.out.under (HB9.out _) (Nat.le_refl _) (by simp [World.setCell])⟩⟩
        case neg =>
          go_wp2_with fail
          go_ret
          exact ⟨_, cap, _, ⟨_, by rw [List.length_set, HML.out]; rfl, HS9.out _, by rw [List.length_set, HML.out]; exact HCT.out _ HCE.out.cut2 (fun q hq => by simpa [Value.ownBlock] using hq.symm), (HU4.out.under (HB9.out _) hcl).mono (by omega), HF4.out.under (HB9.out _) (Nat.le_refl _) (by simp [World.setCell])⟩⟩
      case neg =>
        have e1 : (x == 1) = false := beq_eq_false_iff_ne.2 h1
        by_cases h2 : x = 2
        case pos =>
          subst h2
          have hcw4 : c < w4.heap.size := by omega
          go_wp2_with fail
          refine (among_c w4.heap.size 2 [0, 7] c ((n + 416) + 2) _ (HU4.out.below ((Below.refl _ _).alloc (Nat.le_refl _) _)) (by omega) (by simp) (by simp) (by omega) (Own.newA w4 _ 3 rfl)).mono ?_
          rintro e w5 ⟨y, rfl, hy, hcu, hch⟩
          obtain ⟨r, rfl, hr⟩ : ∃ r : Nat, y = (r : Int) ∧ r ≤ 7 := by
            simp at hy
            rcases hy with h | h
            · exact ⟨0, h, by omega⟩
            · exact ⟨7, h, by omega⟩
          have hz5 := hch.size
          have hz5' : w4.heap.size ≤ w5.heap.size := by simp at hz5; omega
          have HU5 := Lib.hid hcu; have HF5 := Lib.hid ((HF4.out.trans (Chg.of_below ((Below.refl _ _).alloc (Nat.le_refl _) _))).trans hch)
          clear hcu hch hy hz5
          go_wp2_with fail
          refine (matrix_c r 2 c (((n + 416) + 2) + 2) w5 HU5.out (by omega) (by omega) (by omega)).mono ?_
          rintro e w6 ⟨ad6, cap6, M6, vs6, rfl, ⟨hsh6, _⟩, hmat6, hcu, hch⟩
          have HP6 := Lib.hid (smD_sh (vs := vs6) hsh6 (by omega) (by omega))
          have HM6 := Lib.hid (hmat6.mono (B' := w.heap.size) (by omega)); have HU6 := Lib.hid hcu; have HF6 := Lib.hid (HF5.out.trans hch)
          clear hsh6 hmat6 hcu hch
          go_wp2_with fail
          go_ret
          exact ⟨ad6, cap6, M6, ⟨vs6, rfl, HP6.out, HM6.out, HU6.out.mono (by omega), HF6.out⟩⟩
        case neg =>
          have e2 : (x == 2) = false := beq_eq_false_iff_ne.2 h2
          by_cases h3 : x = 3
          case pos =>
            subst h3
            have hcw4 : c < w4.heap.size := by omega
            go_wp2_with fail
            refine (among_c w4.heap.size 2 [0, 7] c ((n + 416) + 2) _ (HU4.out.below ((Below.refl _ _).alloc (Nat.le_refl _) _)) (by omega) (by simp) (by simp) (by omega) (Own.newA w4 _ 3 rfl)).mono ?_
            rintro e w5 ⟨y, rfl, hy, hcu, hch⟩
            obtain ⟨r, rfl, hr⟩ : ∃ r : Nat, y = (r : Int) ∧ r ≤ 7 := by
              simp at hy
              rcases hy with h | h
              · exact ⟨0, h, by omega⟩
              · exact ⟨7, h, by omega⟩
            have hz5 := hch.size
            have hz5' : w4.heap.size ≤ w5.heap.size := by simp at hz5; omega
            have HU5 := Lib.hid hcu; have HF5 := Lib.hid ((HF4.out.trans (Chg.of_below ((Below.refl _ _).alloc (Nat.le_refl _) _))).trans hch)
            clear hcu hch hy hz5
            go_wp2_with fail
            refine (matrix_c 2 r c (((n + 416) + 2) + 2) w5 HU5.out (by omega) (by omega) (by omega)).mono ?_
            rintro e w6 ⟨ad6, cap6, M6, vs6, rfl, ⟨hsh6, _⟩, hmat6, hcu, hch⟩
            have HP6 := Lib.hid (smD_sh (vs := vs6) hsh6 (by omega) (by omega))
            have HM6 := Lib.hid (hmat6.mono (B' := w.heap.size) (by omega)); have HU6 := Lib.hid hcu; have HF6 := Lib.hid (HF5.out.trans hch)
            clear hsh6 hmat6 hcu hch
            go_wp2_with fail
            go_ret
            exact ⟨ad6, cap6, M6, ⟨vs6, rfl, HP6.out, HM6.out, HU6.out.mono (by omega), HF6.out⟩⟩
          case neg =>
            have e3 : (x == 3) = false := beq_eq_false_iff_ne.2 h3
            by_cases h4 : x = 4
            case pos =>
              subst h4
              have h0l := HSH.out.2 0 (by omega)
              obtain ⟨b0, o0, c0, hv0⟩ := HM4.out.rowE (i := 0) (by rw [HML.out]; omega) (by rw [h0l]; omega)
              rw [h0l] at hv0
              have HV0 := Lib.hid hv0
              have H0L := Lib.hid h0l
              obtain ⟨k0, hBb, hbl, hbg, _, _⟩ := HM4.out.rowY (by rw [HML.out]; omega) h0l (by omega) hv0
              have hcw4 : c < w4.heap.size := by omega
              have hx1 : (0 : Int) < (C : Int) := by omega
              have hx2 : 0 < C := by omega
              have hx3 : (0 : Int) < (R : Int) := by omega
              have hx4 : 0 < R := by omega
              clear hv0 h0l
              go_wp2_with fail
              go_region_held3 (fun w' => w'.cell? ⟨g, 0, none⟩ = some (.slice (some ⟨b0, o0, none⟩) C c0)) (first | assumption | (with_reducible repeat' (first | assumption | apply cell_alloc' | apply cell_drew' | (refine cell_set' hbg.symm ?_))))
                (first
                  | (go_at_call 79; (refine (among_c w4.heap.size 2 [1000000, -1000000] c ((n + 416) + 2) _ (by with_reducible repeat (first | exact HU4.out | apply Cur.alloc' | apply Cur.drew')) (by omega) (by simp) (by simp) (by first | omega | (simp; omega)) (by first | exact (Own.newA _ _ 3 rfl).drew | exact (Own.newA _ _ 3 rfl))).mono ?_); rintro e W1 ⟨z, rfl, -, hcu, hch⟩; have hchD := Chg.trans (Chg.of_below (b := c) ((Below.refl w4.heap.size w4).alloc (Nat.le_refl _) (.cells #[.int .i64 1000000, .int .i64 (-1000000)] 3)).drew) hch; have HMB := Lib.hid (HM4.out.chg hchD hcl); have HUB := Lib.hid hcu; have HFB := Lib.hid (HF4.out.trans hchD); obtain ⟨nB, _, _, _, hcell, hset⟩ := HMB.out.rowY (by rw [HML.out]; omega) H0L.out (by omega) HV0.out; obtain ⟨mB, fB⟩ := hcell 0 (by omega); have hst := hset 0 z (by omega); rw [Nat.add_zero] at mB fB hst; have HST := Lib.hid hst; have hzB := hchD.size; clear hcu hch hchD hcell hset hst)
                  | fail)
              all_goals
                have hb9 : Below w.heap.size W1 (W1.setCell ⟨b0, o0, none⟩ (.int .i64 z)) := (Below.refl w.heap.size W1).setCell (p := ⟨b0, o0, none⟩) hBb (.int .i64 z)
                have HU9 := Lib.hid (HUB.out.under hb9 hcl)
                have HF9 := Lib.hid (HFB.out.under hb9 (Nat.le_refl _) (by simp [World.setCell]))
                have HS9 := Lib.hid (smD_set (vs' := vs) (i := 0) (xs := (M.getD 0 []).set 0 z) (smD_sh (vs := vs) HSH.out (by omega) (by omega)) (by rw [List.length_set, H0L.out]; omega))
                clear hb9
                go_wp2_with fail
                go_ret
                exact ⟨_, cap, _, ⟨_, by rw [List.length_set, HML.out]; rfl, HS9.out, by rw [List.length_set, HML.out]; exact HST.out, HU9.out.mono (by omega), HF9.out⟩⟩
            case neg =>
              have e4 : (x == 4) = false := beq_eq_false_iff_ne.2 h4
              have HS9 := Lib.hid (smD_sh (vs := vs) HSH.out (by omega) (by omega))
              go_wp2_with fail
              go_ret
              exact ⟨_, cap, M, ⟨vs, by rw [HML.out]; rfl, HS9.out, by rw [HML.out]; exact HM4.out, HU4.out.mono (by omega), HF4.out⟩⟩

end Go.Proofs.YtfgdhlnmndgjbaaGreatDoor
