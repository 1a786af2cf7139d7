/-
  Vectors and matrices that the cursor draws. Printed by gen_wyU.py. By an AI agent.
-/
import Derived.Test.YtnbenpalneodlaaWyT
import Derived.Test.YtnbenpalneodlaaDrawN
namespace Go.Proofs.Ytnbenpalneodlaa
open Go.RowKit

/-- What a draw of a list gives. -/
def IntsD (P : List Int → Prop) (c n : Nat) (w : World) (e : Ending) (w' : World) : Prop := ∃ (v : Value) (xs : List Int), e = .returned v ∧ P xs ∧ RowI w' w.heap.size v xs ∧ Cur w' c n ∧ Chg c w w'
def MatD (P : List (List Int) → List Value → Prop) (c n : Nat) (w : World) (e : Ending) (w' : World) : Prop := ∃ (ad : Option Addr) (cap : Nat) (M : List (List Int)) (vs : List Value), e = .returned (.slice ad M.length cap) ∧ P M vs ∧ MatO w' w.heap.size (.slice ad M.length cap) M vs ∧ Cur w' c n ∧ Chg c w w'
def shM (R C : Nat) (M : List (List Int)) : Prop := M.length = R ∧ ∀ i, i < R → (M.getD i []).length = C
/-- the rows' capacities. -/
def capM (M : List (List Int)) (vs : List Value) : Prop := ∀ i, i < M.length → ∃ a c, vs.getD i undef = .slice a (M.getD i []).length c ∧ (M.getD i []).length ≤ c
theorem capM_snoc {M : List (List Int)} {vs : List Value} {xs : List Int} {a : Option Addr} {c : Nat} (h : capM M vs) (hv : vs.length = M.length) (hc : xs.length ≤ c) : capM (M ++ [xs]) (vs ++ [.slice a xs.length c]) := by
  intro i hi
  rw [List.length_append, List.length_singleton] at hi
  by_cases e : i = M.length
  · have e2 : (M ++ [xs]).getD i [] = xs := by rw [e]; simp [List.getD]
    have e3 : (vs ++ [Value.slice a xs.length c]).getD i undef = .slice a xs.length c := by rw [e, ← hv]; simp [List.getD]
    rw [e2, e3]
    exact ⟨a, c, rfl, hc⟩
  · have e2 : (M ++ [xs]).getD i [] = M.getD i [] := by rw [List.getD_eq_getElem?_getD, List.getElem?_append_left (by omega), ← List.getD_eq_getElem?_getD]
    have e3 : (vs ++ [Value.slice a xs.length c]).getD i undef = vs.getD i undef := by rw [List.getD_eq_getElem?_getD, List.getElem?_append_left (by omega), ← List.getD_eq_getElem?_getD]
    rw [e2, e3]
    exact h i (by omega)
theorem row_cap {w : World} {B : Nat} {v : Value} {xs : List Int} (h : RowI w B v xs) : ∃ ad c, v = .slice ad xs.length c ∧ xs.length ≤ c := by
  rcases h.2 with ⟨e, h0⟩ | ⟨g, cap, cur, e, _, _, h1, _⟩
  · exact ⟨none, 0, by rw [e, h0], by omega⟩
  · exact ⟨_, cap, e, h1⟩
theorem shM_snoc {R C : Nat} {M : List (List Int)} {xs : List Int} (h : shM R C M) (hx : xs.length = C) : shM (R + 1) C (M ++ [xs]) := by
  refine ⟨by rw [List.length_append, h.1]; rfl, fun i hi => ?_⟩
  by_cases e : i = R
  · have e2 : (M ++ [xs]).getD i [] = xs := by rw [e, ← h.1]; simp [List.getD]
    rw [e2]; exact hx
  · have e2 : (M ++ [xs]).getD i [] = M.getD i [] := by rw [List.getD_eq_getElem?_getD, List.getElem?_append_left (by rw [h.1]; omega), ← List.getD_eq_getElem?_getD]
    rw [e2]; exact h.2 i (by omega)
/-- append of a row; the heap grows. -/
theorem wpList_appG {w : World} {ops : Array Oper} {rest : List Oper} {o : Oper} {a : Act} {Q : Exit → Act → World → Prop} (hgd : o.guard = none) (s x : Operand)
    (ho : o.op = .call { callee := .builtin .append, args := #[s, x], argTypes := #[26, 26] })
    (B K H : Nat) (v u : Value) (M : List (List Int)) (vs : List Value) (xs : List Int) (N : Nat) (hN : M.length + 1 = N) (hs : a.eval s = v) (hx : a.eval x = .slice (some ⟨H, 0, none⟩) 1 1) (hcu : w.cell? ⟨H, 0, none⟩ = some u)
    (hm : MatO w B v M vs) (hu : CellO w B u xs) (hK : ∀ q, u.ownBlock = some q → K ≤ q) (hvs : ∀ i q, i < M.length → (vs.getD i undef).ownBlock = some q → q < K) (hl : M.length ≤ 1000) (hB : B ≤ w.heap.size)
    (h : ∀ ad' cap' w', MatO w' B (.slice ad' N cap') (M ++ [xs]) (vs ++ [u]) → Below B w w' → w.heap.size ≤ w'.heap.size → wpList Try.prog ops Q rest (a.put o.dst (.slice ad' N cap')) w') : wpList Try.prog ops Q (o :: rest) a w := by
  refine wpList_plain hgd fun _ hQ => ?_
  obtain ⟨iP, hiP, hzP, hsP, hbP⟩ := info_parts Try.infoM
  have ec : u.oneCell' = true := by obtain ⟨_, _, rfl, _⟩ := hu; rfl
  obtain ⟨v', w', hr, h2, h3, _, _⟩ := run_append_own_at (P := Try.prog) w B 26 o.type 23 iP _ 1 24 Try.underlying26 hiP hzP hsP hbP rfl (by omega) v M.length vs hm.row ⟨H, 0, none⟩ 1 1 [u] rfl (fun j z hz => by
    obtain rfl : j = 0 := by
      have := (List.getElem?_eq_some_iff.1 hz).1
      simpa using this
    simp at hz
    subst hz
    rw [addr_plain]
    exact hcu) (fun z hz => by simp at hz; subst hz; exact ec) (by unfold maxLen; omega) (by omega) hB
  have hmat := hm.snoc hu hK hvs h2 h3
  have hbl := (Below.refl B w).grown h3 hB (fun q e => (hm.row.lt q e).1)
  obtain ⟨ad', cap', e, _⟩ := hmat.shape
  rw [List.length_append, List.length_singleton, hN] at e
  subst e
  unfold Oper.wp execOp
  simp only [ho, resolve, invoke, builtin, Sem.run_bind, Sem.run_pure, Result.andThen_ok, List.map_toArray, List.map_cons, List.map_nil, hs, hx, hr]
  exact hQ _ _ (h _ _ w' hmat hbl h3.size)


set_option maxHeartbeats 400000 in
theorem small_c (c n : Nat) (w : World) (h : Cur w c n) (hn : n ≤ 4611686018427380000) :
    Calls Try.prog 55 #[.pointer (some ⟨c, 0, none⟩)] w (SomeI (fun x => -4 ≤ x ∧ x ≤ 8) c (n + 2) w) := by
  have H := Lib.hid h; clear h
  go_enter Try.func55, Try.ntmps55
  go_wp2_with fail
  refine (pick_c 13 c n w H.out (by omega)).mono ?_
  rintro e w1 ⟨x, rfl, hx, hcu, hch⟩
  have e1 : IntKind.i64.wrap (x - 4) = x - 4 := i64_small (by omega) (by omega)
  have hx' := Lib.hid (show -4 ≤ x - 4 ∧ x - 4 ≤ 8 by omega)
  clear hx
  have HU := Lib.hid hcu; clear hcu
  go_wp2_with fail
  go_ret
  exact ⟨_, rfl, hx'.out, HU.out, hch⟩

theorem RowI.set {w : World} {B g cap : Nat} {xs : List Int} (h : RowI w B (.slice (some ⟨g, 0, none⟩) xs.length cap) xs) (k : Nat) (x : Int) :
    RowI (w.setCell ⟨g, k, none⟩ (.int .i64 x)) B (.slice (some ⟨g, 0, none⟩) xs.length cap) (xs.set k x) := by
  have := (World.ownsRow.stored h k (.int .i64 x)).1
  exact row_congr this (by simp) (by rw [ints_set])

theorem RowI.own {w : World} {B : Nat} {v : Value} {xs : List Int} (h : RowI w B v xs) (h0 : 0 < xs.length) : ∃ g cap, v = .slice (some ⟨g, 0, none⟩) xs.length cap ∧ B ≤ g := by
  rcases Own.of_row h with ⟨_, e, _⟩ | ⟨g, cap, e, hg, _, _, _⟩
  · omega
  · exact ⟨g, cap, e, hg⟩

set_option maxHeartbeats 6400000 in
set_option maxRecDepth 100000 in
theorem vector_c (N c n : Nat) (w : World) (h : Cur w c n) (hn : n ≤ 4611686018427360000) (hN4 : N ≤ 7) :
    Calls Try.prog 23 #[.pointer (some ⟨c, 0, none⟩), .int .i64 N] w (IntsD (fun xs => xs.length = N) c (n + 60) w) := by
  have hcl := h.lt
  have H := Lib.hid h; clear h
  obtain ⟨iI, hiI0, hiI1, hiI2, hiI3⟩ := info_parts Try.infoI
  have HF1 := Lib.hid (Chg.refl c w)
  go_enter Try.func23, Try.ntmps23
  go_wp2_with fail
  go_loopw [5] (fun v wr => ∃ xs : List Int, xs.length ≤ N ∧ RowI wr w.heap.size v xs ∧ Cur wr c (n + 4 * xs.length) ∧ Chg c w wr) (fun v _ => N - slen v)
  case atStart => exact ⟨[], by simp, RowI.nil _ _, H.out.mono (by simp), HF1.out⟩
  case round =>
    obtain ⟨xs, hxs, hrow, hcu, hch⟩ := hrel
    have HR := Lib.hid hrow; clear hrow
    have HU := Lib.hid hcu; clear hcu
    have HF := Lib.hid hch; clear hch
    have hsz := HF.out.size
    obtain ⟨wo, rfl⟩ : ∃ wo : World, wo = wr := ⟨_, rfl⟩
    obtain ⟨ad1, cap1, rfl, -⟩ := HR.out.shape
    by_cases hlt : xs.length < N
    case pos =>
      have g1 : decide ((xs.length : Int) < (N : Int)) = true := decide_eq_true (by omega)
      go_wp2_with fail
      refine (num_c c (n + 4 * xs.length) wo HU.out (by omega)).mono ?_
      rintro e w3 ⟨x2, rfl, -, hcu, hch⟩
      have HU4 := Lib.hid hcu; clear hcu
      have HF5 := Lib.hid (HF.out.trans hch)
      have HR6 := Lib.hid (row_chg HR.out hch (by omega))
      clear hch
      have hz7 := HF5.out.size
      go_wp2_with (at_builtin; refine wpList_append_lies _ rfl _ _ 23 rfl w.heap.size 3 iI _ 1 8 Try.underlying23 hiI0 hiI1 hiI2 hiI3 rfl (by omega) (.slice ad1 xs.length cap1) xs.length (ints xs) rfl (HR6.out.alloc _) ⟨w3.heap.size, 0, none⟩ 1 1 [.int .i64 x2] rfl rfl (World.news_of_block (cs := #[.int .i64 x2]) (t := 3) (fr := (0, 0)) (heap_alloc_new _ _)) (by simp [Value.oneCell']) (by omega) (by unfold maxLen; omega) (by omega) (by simp; omega) (w3.heap.size + 1) (by simp) ?_; intro g8 cap9 w10 hown hgrow hat hltx; clear hat)
      have hb11 := app_below (Below.refl w.heap.size w3) (by omega) HR6.out hgrow
      have hz12 : w3.heap.size ≤ w10.heap.size := by have := hgrow.size; simp at this; omega
      have HR13 := Lib.hid (row_congr (ys := ints (xs ++ [x2])) hown (m := (xs ++ [x2]).length) (by simp) (by simp [ints])); clear hown
      clear hgrow
      have HU14 := Lib.hid (HU4.out.under hb11 (by omega))
      have HF15 := Lib.hid (HF5.out.under hb11 (by omega) hz12)
      clear hb11
      go_roundw
      case rel => exact ⟨xs ++ [x2], by simp; omega, HR13.out, HU14.out.mono (by simp; omega), HF15.out⟩
      case measure => (simp [slen]; omega)
    case neg =>
      have g1 : decide ((xs.length : Int) < (N : Int)) = false := decide_eq_false (by omega)
      have HXL : xs.length = N := by omega
      have HXB : xs.length ≤ 7 := by omega
      clear hlt hxs g1
      rw [HXL]
      have g1 : decide ((N : Int) < (N : Int)) = false := decide_eq_false (by omega)
      by_cases hN0 : 0 < N
      case neg =>
        have q0 : decide ((0 : Int) < (N : Int)) = false := decide_eq_false (by omega)
        go_wp2_with fail
        go_ret
        exact ⟨_, xs, rfl, by omega, by (have h9 := HR.out); (try unfold RowI at h9); unfold RowI; rw [HXL] at h9 ⊢; exact h9, HU.out.mono (by omega), HF.out⟩
      case pos =>
        have q0 : decide ((0 : Int) < (N : Int)) = true := decide_eq_true (by omega)
        go_wp2_with fail
        refine (one_c 24 c (n + 4 * xs.length) wo HU.out (by omega)).mono ?_
        rintro e w17 ⟨b16, rfl, hcu, hch⟩
        have HU18 := Lib.hid hcu; clear hcu
        have HF19 := Lib.hid (HF.out.trans hch)
        have HR20 := Lib.hid (row_chg HR.out hch (by omega))
        clear hch
        have hz21 := HF19.out.size
        cases b16
        case false =>
          go_wp2_with fail
          go_ret
          exact ⟨_, xs, rfl, by omega, by (have h9 := HR20.out); (try unfold RowI at h9); unfold RowI; rw [HXL] at h9 ⊢; exact h9, HU18.out.mono (by omega), HF19.out⟩
        case true =>
          obtain ⟨g22, rfl, hg23⟩ : ∃ g, ad1 = some ⟨g, 0, none⟩ ∧ w.heap.size ≤ g := by
            obtain ⟨g, cap, e, hg⟩ := RowI.own (by exact HR20.out) (by rw [HXL]; omega)
            injection e with e1 _ _
            exact ⟨g, e1, hg⟩
          go_wp2_with fail
          refine (pick_c (N : Int) c ((n + 4 * xs.length) + 2) w17 HU18.out (by omega)).mono ?_
          rintro e w25 ⟨x24, rfl, hp26, hcu, hch⟩
          have HU27 := Lib.hid hcu; clear hcu
          have HF28 := Lib.hid (HF19.out.trans hch)
          have HR29 := Lib.hid (row_chg HR20.out hch (by omega))
          clear hch
          have hz30 := HF28.out.size
          obtain ⟨a31, rfl⟩ : ∃ a : Nat, x24 = a := ⟨x24.toNat, by omega⟩
          have a31l : a31 < N := by omega
          have a31x : (0 : Int) ≤ (a31 : Int) := by omega
          have a31y : (a31 : Int) < (N : Int) := by omega
          clear hp26
          go_wp2_with fail
          refine (anyNum_c c ((n + 4 * xs.length) + 4) w25 HU27.out (by omega)).mono ?_
          rintro e w33 ⟨x32, rfl, -, hcu, hch⟩
          have HU34 := Lib.hid hcu; clear hcu
          have HF35 := Lib.hid (HF28.out.trans hch)
          have HR36 := Lib.hid (row_chg HR29.out hch (by omega))
          clear hch
          have hz37 := HF35.out.size
          have hrw38 := HR36.out
          have fza31 := World.ownsRow.frozenAt hrw38 a31
          have cza31 := World.ownsRow.cellAt hrw38 a31 (by have := a31l; rw [HXL]; omega)
          rw [ints_get (show a31 < xs.length by rw [HXL]; exact a31l)] at cza31
          go_wp2_with fail
          have hset39 : RowI (w33.setCell ⟨g22, a31, none⟩ (.int .i64 x32)) w.heap.size (.slice (some ⟨g22, 0, none⟩) xs.length cap1) _ := RowI.set (cap := cap1) (by exact hrw38) a31 x32
          have hb40 : Below w.heap.size w33 (w33.setCell ⟨g22, a31, none⟩ (.int .i64 x32)) := (Below.refl w.heap.size w33).setCell (p := ⟨g22, a31, none⟩) hg23 (.int .i64 x32)
          have HU43 := Lib.hid (HU34.out.under hb40 (by omega))
          have HF44 := Lib.hid (HF35.out.under hb40 (Nat.le_refl _) (by simp [World.setCell]))
          have HYL : (xs.set a31 x32).length = N := by rw [List.length_set]; exact HXL
          rw [HXL, ← HYL] at hset39
          have HR45 := Lib.hid hset39; clear hset39
          generalize xs.set a31 x32 = ys42 at HR45 HYL
          generalize w33.setCell ⟨g22, a31, none⟩ (.int .i64 x32) = wS41 at HR45 HU43 HF44 ⊢
          clear HXL hrw38 hb40
          have HXL := HYL
          clear HYL
          have hz46 := HF44.out.size
          go_wp2_with fail
          go_ret
          exact ⟨_, ys42, rfl, by omega, by (have h9 := HR45.out); (try unfold RowI at h9); unfold RowI; rw [HXL] at h9 ⊢; exact h9, HU43.out.mono (by omega), HF44.out⟩

set_option maxHeartbeats 3200000 in
set_option maxRecDepth 100000 in
theorem matrix_c (R C c n : Nat) (w : World) (h : Cur w c n) (hn : n ≤ 4611686018427360000) (hR : R ≤ 7) (hC : C ≤ 7) :
    Calls Try.prog 65 #[.pointer (some ⟨c, 0, none⟩), .int .i64 R, .int .i64 C] w (MatD (fun M vs => shM R C M ∧ capM M vs) c (n + 200) w) := by
  have hcl := h.lt
  have H := Lib.hid h; clear h
  have HF0 := Lib.hid (Chg.refl c w)
  go_enter Try.func65, Try.ntmps65
  go_wp2_with fail
  go_loopw [7, 8] (fun v i wr => ∃ (k : Nat) (M : List (List Int)) (vs : List Value), k ≤ R ∧ i = .int .i64 k ∧ (shM k C M ∧ capM M vs) ∧ MatO wr w.heap.size v M vs ∧ Cur wr c (n + 28 * k) ∧ Chg c w wr) (fun _ i _ => R - (intOf i).toNat)
  case atStart => exact ⟨0, [], [], Nat.zero_le _, rfl, ⟨⟨rfl, fun i hi => absurd hi (Nat.not_lt_zero _)⟩, fun i hi => absurd hi (Nat.not_lt_zero _)⟩, MatO.nil _ _, H.out, HF0.out⟩
  case round =>
    obtain ⟨wE, rfl⟩ : ∃ x : World, x = wr := ⟨_, rfl⟩
    obtain ⟨k, M, vs, hk, rfl, hsh, hmat, hcu, hch⟩ := hrel
    obtain ⟨adv, cav, rfl, _⟩ := hmat.shape
    have hsz := hch.size
    rw [hsh.1.1] at hmat ⊢
    have HSH := Lib.hid hsh; have HM := Lib.hid hmat; have HU := Lib.hid hcu; have HF := Lib.hid hch
    clear hsh hmat hcu hch
    by_cases hlt : k < R
    case neg =>
      obtain rfl : k = R := by omega
      go_wp2_with fail
      go_ret
      exact ⟨adv, cav, M, ⟨vs, by rw [HSH.out.1.1]; rfl, HSH.out, by rw [HSH.out.1.1]; exact HM.out, HU.out.mono (by omega), HF.out⟩⟩
    case pos =>
      go_wp2_with fail
      go_loopw [9, 10] (fun v i wr => ∃ (j : Nat) (xs : List Int), j ≤ C ∧ i = .int .i64 j ∧ xs.length = j ∧ RowI wr wE.heap.size v xs ∧ Cur wr c (n + 28 * k + 4 * j) ∧ Chg c wE wr) (fun _ i _ => C - (intOf i).toNat)
      case atStart => exact ⟨0, [], Nat.zero_le _, rfl, rfl, RowI.nil _ _, HU.out, Chg.refl _ _⟩
      case round =>
        obtain ⟨wI, rfl⟩ : ∃ x : World, x = wr := ⟨_, rfl⟩
        obtain ⟨j, xs, hj, rfl, hxl, hrow, hcu, hch⟩ := hrel
        obtain ⟨adr, car, rfl, hcar⟩ := row_cap hrow
        have HCAR := Lib.hid hcar
        clear hcar
        rw [hxl] at hrow ⊢
        have hsz2 := hch.size
        have HR := Lib.hid hrow; have HU2 := Lib.hid hcu; have HF2 := Lib.hid hch
        clear hrow hcu hch
        by_cases hlj : j < C
        case pos =>
          go_wp2_with fail
          refine (num_c c (n + 28 * k + 4 * j) wI HU2.out (by omega)).mono ?_
          rintro e w3 ⟨x3, rfl, -, hcu, hch⟩
          have hsz3 := hch.size
          have HR3 := Lib.hid (row_chg HR.out hch (by omega))
          have HU3 := Lib.hid hcu
          have HF3 := Lib.hid (HF2.out.trans hch)
          clear hcu hch
          go_wp2_with (at_builtin; refine wpList_appN rfl _ _ rfl wE.heap.size _ 0 1 _ xs [x3] (j + 1) (by rw [hxl]; rfl) rfl rfl (RowI.alloc' (by exact HR3.out)) (rdI_one _ _ _ rfl) (by omega) (by simp) (by simp; omega) ?_; intro v5 wm hown hsh hbm hgr)
          have hb9 : Below wE.heap.size w3 wm := ((Below.refl wE.heap.size w3).alloc (by omega) (.cells #[.int .i64 x3] 3)).trans hbm
          have hsz5 : w3.heap.size ≤ wm.heap.size := by have := hgr.size; simp at this; omega
          have HR5 := Lib.hid hown
          have HU5 := Lib.hid (HU3.out.under hb9 (by omega))
          have HF5 := Lib.hid (HF3.out.under hb9 (Nat.le_refl _) hsz5)
          clear hown hsh hbm hgr hb9
          go_wp2_with fail
          go_roundw
          case rel => exact ⟨j + 1, xs ++ [x3], by omega, by go_num, by rw [List.length_append, hxl]; rfl, HR5.out, HU5.out.mono (by omega), HF5.out⟩
          case measure => simp [intOf]; omega
        case neg =>
          obtain rfl : j = C := by omega
          have HM2 := Lib.hid (HM.out.chg HF2.out hcl)
          have HLOW := Lib.hid HM.out.low
          have HX := Lib.hid (CellO.of_row (HR.out.low (B' := w.heap.size) hsz))
          have HB := Lib.hid (RowI.blk HR.out)
          go_wp2_with (at_builtin; refine wpList_appG rfl _ _ rfl w.heap.size wE.heap.size wI.heap.size _ (.slice adr j car) M vs xs (k + 1) (by rw [HSH.out.1.1]) rfl rfl (by simp [go_sem]) (HM2.out.below ((Below.refl _ _).alloc (Nat.le_refl _) _)) (HX.out.below ((Below.refl _ _).alloc (Nat.le_refl _) _)) HB.out HLOW.out (by have := HSH.out.1.1; omega) (by simp; omega) ?_; intro ad5 cap5 wm hmat5 hbm hgz)
          have hb9 : Below w.heap.size wI wm := ((Below.refl w.heap.size wI).alloc (by omega) (.cells #[.slice adr j car] 23)).trans hbm
          have hsz5 : wI.heap.size ≤ wm.heap.size := by simp at hgz; omega
          have HM5 := Lib.hid hmat5
          have HU5 := Lib.hid (HU2.out.under hb9 (by omega))
          have HF5 := Lib.hid ((HF.out.trans HF2.out).under hb9 (Nat.le_refl _) hsz5)
          have hcp := capM_snoc (a := adr) HSH.out.2 HM.out.len HCAR.out
          rw [hxl] at hcp
          have HSH5 := Lib.hid (And.intro (shM_snoc HSH.out.1 hxl) hcp)
          clear hcp
          clear hmat5 hbm hb9
          go_wp2_with fail
          go_roundw
          case rel => exact ⟨k + 1, _, _, by omega, by go_num, HSH5.out, HM5.out, HU5.out.mono (by omega), HF5.out⟩
          case measure => simp [intOf]; omega

end Go.Proofs.Ytnbenpalneodlaa

