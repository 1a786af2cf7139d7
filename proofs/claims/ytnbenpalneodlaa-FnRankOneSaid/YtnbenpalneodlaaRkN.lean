/-
  Classes of columns: the program's and the reference's. Printed by gen_rkN.py. By an AI agent.
-/
import Derived.Test.YtnbenpalneodlaaRkM
import Derived.WalkMore
namespace Go.Proofs.Ytnbenpalneodlaa
open Go.RowKit

theorem RowI.ne_rows {w : World} {B B' n : Nat} {u v : Value} {xs : List Int} {vs : List Value} (h : RowI w B u xs) (hv : w.ownsRow B' 23 1 v n vs) {q : Nat} (hq : u.ownBlock = some q) : v.ownBlock ≠ some q := CellO.ne_row (CellO.of_row h) hv hq
/-- append of a row of its own. -/
theorem wpList_appC {w : World} {ops : Array Oper} {rest : List Oper} {o : Oper} {a : Act} {Q : Exit → Act → World → Prop} (hgd : o.guard = none) (s x : Operand)
    (ho : o.op = .call { callee := .builtin .append, args := #[s, x], argTypes := #[26, 26] })
    (B K H : Nat) (v u : Value) (M : List (List Int)) (vs : List Value) (xs : List Int) (N : Nat) (hN : M.length + 1 = N) (hs : a.eval s = v) (hx : a.eval x = .slice (some ⟨H, 0, none⟩) 1 1) (hcu : w.cell? ⟨H, 0, none⟩ = some u)
    (hm : ClsO w B v M vs) (hu : RowI w B u xs) (hK : ∀ q, u.ownBlock = some q → K ≤ q) (hvs : ∀ i q, i < M.length → (vs.getD i undef).ownBlock = some q → q < K) (hl : M.length ≤ 1000) (hB : B ≤ w.heap.size)
    (h : ∀ ad' cap' w', ClsO w' B (.slice ad' N cap') (M ++ [xs]) (vs ++ [u]) → Below B w w' → wpList Try.prog ops Q rest (a.put o.dst (.slice ad' N cap')) w') : wpList Try.prog ops Q (o :: rest) a w := by
  refine wpList_plain hgd fun _ hQ => ?_
  obtain ⟨iP, hiP, hzP, hsP, hbP⟩ := info_parts Try.infoM
  have ec : u.oneCell' = true := by obtain ⟨_, _, rfl, _⟩ := CellO.of_row hu; rfl
  obtain ⟨v', w', hr, h2, h3, _, _⟩ := run_append_own_at (P := Try.prog) w B 26 o.type 23 iP _ 1 24 Try.underlying26 hiP hzP hsP hbP rfl (by omega) v M.length vs hm.row ⟨H, 0, none⟩ 1 1 [u] rfl (fun j z hz => by
    obtain rfl : j = 0 := by
      have := (List.getElem?_eq_some_iff.1 hz).1
      simpa using this
    simp at hz
    subst hz
    rw [addr_plain]
    exact hcu) (fun z hz => by
      rw [List.mem_singleton] at hz
      rw [hz]; exact ec) (by unfold maxLen; omega) (by omega) hB
  have hlen := hm.len
  have hkeep : ∀ {z : Value} {ys : List Int}, RowI w B z ys → RowI w' B z ys := fun {z ys} hz => hz.of_block fun q hq => h3.block q (World.ownsRow.lt hz q hq).2 fun e => RowI.ne_rows hz hm.row hq e.symm
  have g1 : ∀ i, i < M.length → (M ++ [xs]).getD i [] = M.getD i [] ∧ (vs ++ [u]).getD i undef = vs.getD i undef := fun i hi =>
    ⟨by rw [List.getD_eq_getElem?_getD, List.getElem?_append_left hi, ← List.getD_eq_getElem?_getD], by rw [List.getD_eq_getElem?_getD, List.getElem?_append_left (by omega), ← List.getD_eq_getElem?_getD]⟩
  have g2 : (M ++ [xs]).getD M.length [] = xs ∧ (vs ++ [u]).getD M.length undef = u := ⟨by simp [List.getD_eq_getElem?_getD], by rw [← hlen]; simp [List.getD_eq_getElem?_getD]⟩
  have hmat : ClsO w' B v' (M ++ [xs]) (vs ++ [u]) := by
    refine ⟨row_congr h2 (by simp) rfl, fun i hi => ?_, fun i j hi hj hij q => ?_⟩
    · rw [List.length_append, List.length_singleton] at hi
      by_cases e : i < M.length
      · rw [(g1 i e).1, (g1 i e).2]; exact hkeep (hm.each i e)
      · obtain rfl : i = M.length := by omega
        rw [g2.1, g2.2]; exact hkeep hu
    · rw [List.length_append, List.length_singleton] at hi hj
      by_cases e : i < M.length
      · by_cases e2 : j < M.length
        · rw [(g1 i e).2, (g1 j e2).2]; exact hm.apart i j e e2 hij q
        · obtain rfl : j = M.length := by omega
          rw [(g1 i e).2, g2.2]
          intro a1 a2
          have := hvs i q e a1
          have := hK q a2
          omega
      · obtain rfl : i = M.length := by omega
        rw [g2.2, (g1 j (by omega)).2]
        intro a1 a2
        have := hK q a1
        have := hvs j q (by omega) a2
        omega
  obtain ⟨ad', cap', e, _⟩ := hmat.shape
  rw [List.length_append, List.length_singleton, hN] at e
  subst e
  unfold Oper.wp execOp
  simp only [ho, resolve, invoke, builtin, Sem.run_bind, Sem.run_pure, Result.andThen_ok, List.map_toArray, List.map_cons, List.map_nil, hs, hx, hr]
  exact hQ _ _ (h _ _ w' hmat ((Below.refl B w).grown h3 hB (fun q e => (hm.row.lt q e).1)))
theorem ClsO.low {w : World} {B : Nat} {v : Value} {M : List (List Int)} {vs : List Value} (h : ClsO w B v M vs) : ∀ i q, i < M.length → (vs.getD i undef).ownBlock = some q → q < w.heap.size := fun i q hi hq => (World.ownsRow.lt (h.each i hi) q hq).2
/-- the class relation of a matrix. -/
def alM (R : Nat) (m : Nat → Nat → Int) (i k : Nat) : Bool := alkB R (fun t => m t i) (fun t => m t k)
def ClsR (R C : Nat) (m : Nat → Nat → Int) (w : World) (e : Ending) (w' : World) : Prop := ∃ ad cap, e = .returned (.slice ad (clsL (alM R m) C).length cap) ∧ RdM w' ad (clsL (alM R m) C) ∧ Below w.heap.size w w'

set_option maxHeartbeats 6400000 in
set_option maxRecDepth 100000 in
theorem columnClasses_c (R C : Nat) (ad : Option Addr) (cap : Nat) (m : Nat → Nat → Int) (w : World) (hr : RdM w ad (toG R C m)) (hR : 1 ≤ R ∧ R ≤ 6) (hC : 1 ≤ C ∧ C ≤ 6) (hnum : ∀ a b, a < R → b < C → numB (m a b) = true) :
    Calls Try.prog 38 #[.slice ad R cap] w (ClsR R C m w) := by
  have C1 := Lib.hid (transposedG_c R C ad cap m w hr hR hC)
  have HNUM := Lib.hid hnum
  have HOK := Lib.hid (clsL_ok (alM R m))
  have HSU := Lib.hid (fun k => show clsL (alM R m) (k + 1) = clPut (fun c => alM R m (vx c 0) k) k (clsL (alM R m) k) from rfl)
  have H0 := Lib.hid (show clsL (alM R m) 0 = [] from rfl)
  unfold ClsR
  clear hr hnum
  go_enter Try.func38, Try.ntmps38
  go_wp2_with fail
  go_step3
  go_wp2_with fail
  refine C1.out.mono ?_
  rintro e w1 ⟨gt, rfl, ⟨ts, htr⟩, hb1⟩
  have hrt := htr.rdG (by omega)
  obtain ⟨bT, oT, eT, hbT, hrowT⟩ := hrt.rowG (by omega) (by omega)
  injection eT with eT
  injection eT with eT1 eT2 _
  subst eT1
  subst eT2
  have HROW := Lib.hid (fun i (hi : i < C) => hrowT i hi)
  have HC0 := Lib.hid (ClsO.empty w1 w1.heap.size w1.heap.size (Nat.le_refl _) rfl)
  have hb0 := bal_alloc (o := .cells #[] 23) (Below.refl w1.heap.size w1)
  clear htr hrt hrowT C1
  go_wp2_with fail
  go_step3
  go_wp2_with fail
  go_loopw [4, 14] (fun v i wr => ∃ (k : Nat) (vs : List Value), k ≤ C ∧ i = .int .i64 k ∧ ClsO wr w1.heap.size v (clsL (alM R m) k) vs ∧ Below w1.heap.size w1 wr) (fun _ i _ => C - (intOf i).toNat)
  case atStart => exact ⟨0, [], Nat.zero_le _, rfl, HC0.out, hb0⟩
  case round =>
    obtain ⟨wE, rfl⟩ : ∃ x : World, x = wr := ⟨_, rfl⟩
    obtain ⟨k, vs, hk, rfl, hcl, hbE⟩ := hrel
    obtain ⟨ad4, cap4, rfl, _⟩ := hcl.shape
    by_cases hlt : k < C
    case neg =>
      obtain rfl : k = C := by omega
      have HCL := Lib.hid hcl.rd
      have hb9 := ball hb1 hbE
      clear hcl
      go_wp2_with fail
      rw [Exit.noGoto_ret]
      go_ret
      exact ⟨_, _, rfl, HCL.out, hb9⟩
    case pos =>
      obtain ⟨bk, ok, ck, ek, hlk, hck⟩ := HROW.out k hlt
      rw [Nat.zero_add] at ek
      have ek := bcell hbE hbT ek
      have HRK := Lib.hid (show RdI wE (some ⟨bk, ok, none⟩) (tab R (fun t => m t k)) from fun t ht => by
        rw [tab_length] at ht
        exact ⟨bk, ok, rfl, Nat.lt_of_lt_of_le hlk hbE.size, by rw [tab_getD ht]; exact bcell hbE hlk (hck t ht)⟩)
      have hok := HOK.out k
      have HS := Lib.hid (HSU.out k)
      have hszE := hbE.size
      obtain ⟨L, hL⟩ : ∃ L, clsL (alM R m) k = L := ⟨_, rfl⟩
      rw [hL] at hcl hok HS ⊢
      have hLn := hok.len
      obtain ⟨nL, hnL⟩ : ∃ n, L.length = n := ⟨_, rfl⟩
      have HNL := Lib.hid hnL
      have HCL := Lib.hid hcl
      have HOKK := Lib.hid hok
      rw [hnL] at HCL hLn ⊢
      have x1 : (0 : Int) ≤ (k : Int) := by omega
      have x2 : (k : Int) < (C : Int) := by omega
      clear hcl hck hL hnL hok
      go_wp2_with fail
      go_loopw [21] (fun i wr => ∃ j : Nat, j ≤ nL ∧ i = .int .i64 j ∧ (∀ t, t < j → alM R m (vx (L.getD t []) 0) k = false) ∧ wr = wE) (fun i _ => nL - (intOf i).toNat)
      case atStart => exact ⟨0, Nat.zero_le _, rfl, fun t ht => by omega, rfl⟩
      case round =>
        obtain ⟨j, hj, rfl, hno, rfl⟩ := hrel
        have HNO := Lib.hid hno; clear hno
        by_cases hlj : j < nL
        case neg =>
          obtain rfl : j = nL := by omega
          have HNEW := Lib.hid (show clsL (alM R m) (k + 1) = L ++ [[(k : Int)]] by rw [HS.out]; exact clPut_end (fun t ht => HNO.out t (by rw [HNL.out] at ht; exact ht)))
          have HRO := Lib.hid (rowI_one wr w1.heap.size wr.heap.size (k : Int) hszE rfl)
          have hb5 := bal_alloc (o := .cells #[.int .i64 (k : Int)] 3) (Below.refl wr.heap.size wr)
          have hb6 := ball hb5 (bal_alloc (o := .cells #[.slice (some ⟨wr.heap.size, 0, none⟩) 1 1] 23) (Below.refl _ _))
          have hs6 := hb6.size
          have HC6 := Lib.hid (HCL.out.below hb6)
          have HR6 := Lib.hid (HRO.out.below (bal_alloc (o := .cells #[.slice (some ⟨wr.heap.size, 0, none⟩) 1 1] 23) (Below.refl _ _)))
          have HLOW := Lib.hid HCL.out.low
          have HB9 := Lib.hid (hbE.trans (hb6.mono hszE))
          clear ek
          go_wp2_with (at_builtin; refine wpList_appC rfl _ _ rfl w1.heap.size wr.heap.size (wr.heap.size + 1) (.slice ad4 j cap4) (.slice (some ⟨wr.heap.size, 0, none⟩) 1 1) L vs [(k : Int)] (j + 1) (by rw [HNL.out]) rfl (by simp [go_sem]) (by simp [go_sem]) HC6.out HR6.out (fun q hq => by cases hq; exact Nat.le_refl _) HLOW.out (by rw [HNL.out]; omega) (by omega) ?_; intro ad5 cap5 w5 hcl5 hbm5)
          rw [← HNEW.out] at hcl5
          have HC5 := Lib.hid hcl5
          have hb10 := HB9.out.trans hbm5
          clear hcl5 hbm5
          go_wp2_with fail
          go_roundw
          case rel => exact ⟨k + 1, _, by omega, by go_num, HC5.out, hb10⟩
          case measure => simp [intOf]; omega
        case pos =>
          obtain ⟨g4, aj, cj, rfl, hBg, hg4, e4, f4, hvj, hrj, hdj⟩ := HCL.out.at (i := j) (by rw [HNL.out]; exact hlj)
          obtain ⟨l0, l1⟩ := HOKK.out.ne j (by rw [HNL.out]; exact hlj)
          obtain ⟨v0, v1⟩ := HOKK.out.fst j (by rw [HNL.out]; exact hlj)
          obtain ⟨ba, oa, rfl, hba, q0⟩ := hdj 0 l0
          rw [v0, Nat.add_zero] at q0
          have HPUT := Lib.hid (fun (h : alM R m (vx (L.getD j []) 0) k = true) => show clsL (alM R m) (k + 1) = L.set j (L.getD j [] ++ [(k : Int)]) by rw [HS.out]; exact clPut_at (by rw [HNL.out]; exact hlj) (fun t ht => HNO.out t ht) h)
          have HNX := Lib.hid (fun (h : alM R m (vx (L.getD j []) 0) k = false) t (ht : t < j + 1) => show alM R m (vx (L.getD t []) 0) k = false by
            by_cases e : t = j
            · rw [e]; exact h
            · exact HNO.out t (by omega))
          have HPP := Lib.hid (fun (w' : World) (u : Value) (h1 : RowI w' w1.heap.size u (L.getD j [] ++ [(k : Int)])) (h2 : (wr.alloc (.cells #[.int .i64 (k : Int)] 3)).grownBy w' (vs.getD j undef).ownBlock) (h3 : u.ownBlock = (vs.getD j undef).ownBlock ∨ u.ownBlock = some (wr.alloc (.cells #[.int .i64 (k : Int)] 3)).heap.size) => ClsO.put (HCL.out.below (bal_alloc (o := .cells #[.int .i64 (k : Int)] 3) (Below.refl _ _))) HNL.out hlj h1 h2 h3)
          have hnel : ∀ wm, (wr.alloc (.cells #[.int .i64 (k : Int)] 3)).grownBy wm (vs.getD j undef).ownBlock → wm.cell? ⟨g4, j, none⟩ = some (vs.getD j undef) ∧ wm.frozen? ⟨g4, j, none⟩ = false := fun wm hg => by
            obtain ⟨_, _, e0, hso⟩ := HCL.out.shape
            injection e0 with e0 _ _
            obtain ⟨g', e1, _, ho⟩ := hso _ e0.symm
            injection e1 with e1 _ _
            subst e1
            have ho2 := (ho.alloc (.cells #[.int .i64 (k : Int)] 3)).grown hg (row_ne_ty (HCL.out.each j (by rw [HNL.out]; exact hlj)) ho (by decide))
            exact ⟨ho2.cell? (by simp [List.getD, HCL.out.len, HNL.out, hlj]), ho2.frozen j⟩
          have HNEL := Lib.hid hnel
          obtain ⟨c0, hc0⟩ : ∃ c, vx (L.getD j []) 0 = c := ⟨_, rfl⟩
          rw [hc0] at q0 v1 HPUT HNX
          obtain ⟨b0, o0, cc0, e0, hl0, hcc0⟩ := HROW.out c0 (by omega)
          rw [Nat.zero_add] at e0
          have e0 := bcell hbE hbT e0
          have HRC := Lib.hid (show RdI wr (some ⟨b0, o0, none⟩) (tab R (fun t => m t c0)) from fun t ht => by
            rw [tab_length] at ht
            exact ⟨b0, o0, rfl, Nat.lt_of_lt_of_le hl0 hbE.size, by rw [tab_getD ht]; exact bcell hbE hl0 (hcc0 t ht)⟩)
          have CD := differ_c R (some ⟨b0, o0, none⟩) cc0 (tab R (fun t => m t c0)) (some ⟨bk, ok, none⟩) ck (tab R (fun t => m t k)) wr HRC.out HRK.out (tab_length _ _) (tab_length _ _) hR.2 (fun t ht => by rw [tab_getD ht]; exact HNUM.out t c0 ht (by omega)) (fun t ht => by rw [tab_getD ht]; exact HNUM.out t k ht hlt)
          have eal : alkB R (fun t => (tab R (fun t => m t c0)).getD t 0) (fun t => (tab R (fun t => m t k)).getD t 0) = alM R m c0 k := by
            unfold alM alkB
            have key : ∀ t, t ≤ R → akF (fun t => (tab R (fun t => m t c0)).getD t 0) (fun t => (tab R (fun t => m t k)).getD t 0) t = akF (fun t => m t c0) (fun t => m t k) t := by
              intro t
              induction t with
              | zero => exact fun _ => rfl
              | succ t ih =>
                intro ht
                unfold akF
                rw [ih (by omega), tab_getD (by omega), tab_getD (by omega)]
            rw [key R (Nat.le_refl _)]
          rw [eal] at CD
          have HCD := Lib.hid CD
          obtain ⟨nj, hnj⟩ : ∃ n, (L.getD j []).length = n := ⟨_, rfl⟩
          rw [hnj] at e4 l0 l1 hrj hvj
          have HNJ := Lib.hid hnj
          have HRJ := Lib.hid hrj
          have HVJ := Lib.hid hvj
          generalize alM R m c0 k = B at HCD HPUT HNX
          have z1 : (0 : Int) ≤ (j : Int) := by omega
          have z2 : (j : Int) < (nL : Int) := by omega
          have z3 : (0 : Int) ≤ (c0 : Int) := by omega
          have z4 : (c0 : Int) < (C : Int) := by omega
          clear hc0 v0 hdj hcc0 CD eal hnj hrj hvj hnel f4
          cases B
          · go_wp2_with fail
            refine HCD.out.mono ?_
            rintro e w' ⟨rfl, rfl⟩
            go_wp2_with fail
            go_roundw
            case rel => exact ⟨j + 1, by omega, by go_num, HNX.out (by first | rfl | trivial), (by first | rfl | trivial)⟩
            case measure => simp [intOf]; omega
          · go_wp2_with fail
            refine HCD.out.mono ?_
            rintro e w' ⟨rfl, rfl⟩
            go_wp2_with (at_builtin; refine wpList_appT rfl _ _ rfl w1.heap.size _ 0 1 (nj + 1) (.slice (some ⟨ba, oa, none⟩) nj cj) (L.getD j []) [(k : Int)] (by rw [HNJ.out]; rfl) (by omega) rfl rfl (RowI.alloc' HRJ.out) (rdI_one _ _ _ rfl) (by rw [HNJ.out]; omega) (by simp) (by simp; omega) ?_; intro g5 c5 wm hown hgr hbk hbm; obtain ⟨d1, d2⟩ := HNEL.out wm (by rw [HVJ.out]; exact hgr))
            have hput := HPP.out wm (.slice (some ⟨g5, 0, none⟩) (nj + 1) c5) hown (by rw [HVJ.out]; exact hgr) (by rw [HVJ.out]; exact hbk)
            rw [← HPUT.out (by first | rfl | trivial)] at hput
            have HC5 := Lib.hid hput
            have hb10 := ((hbE.alloc hszE (.cells #[.int .i64 (k : Int)] 3)).trans hbm).setCell (p := ⟨g4, j, none⟩) hBg (.slice (some ⟨g5, 0, none⟩) (nj + 1) c5)
            have HLL := Lib.hid (show (clsL (alM R m) (k + 1)).length = nL by rw [HPUT.out (by first | rfl | trivial), List.length_set]; exact HNL.out)
            clear hput hown hgr hbk hbm
            go_wp2_with fail
            go_roundw
            case rel => exact ⟨k + 1, _, by omega, by go_num, HC5.out, hb10⟩
            case measure => simp [intOf]; omega

set_option maxHeartbeats 6400000 in
set_option maxRecDepth 100000 in
theorem rkClasses_c (R C : Nat) (ad : Option Addr) (cap : Nat) (m : Nat → Nat → Int) (w : World) (hr : RdM w ad (toG R C m)) (hR : 1 ≤ R ∧ R ≤ 6) (hC : 1 ≤ C ∧ C ≤ 6) (hnum : ∀ a b, a < R → b < C → numB (m a b) = true) :
    Calls Try.prog 41 #[.slice ad R cap] w (ClsR R C m w) := by
  have CA := Lib.hid (fun p q (hp : p < C) (hq : q < C) u (hb : Below w.heap.size w u) => rkAlike_c R C p q ad cap m u (hr.below hb) hR hC hp hq hnum)
  obtain ⟨bM, oM, rfl, hbM, hrow⟩ := hr.rowG (by omega) (by omega)
  obtain ⟨b0, o0, c0, e0, _, _⟩ := hrow 0 (by omega)
  rw [Nat.add_zero] at e0
  have y0 : 0 < R := by omega
  have HOK := Lib.hid (clsL_ok (alM R m))
  have HSU := Lib.hid (fun k => show clsL (alM R m) (k + 1) = clPut (fun c => alM R m (vx c 0) k) k (clsL (alM R m) k) from rfl)
  unfold ClsR
  clear hr hnum hrow
  go_enter Try.func41, Try.ntmps41
  go_wp2_with fail
  go_loopw [3, 12] (fun v i wr => ∃ (k : Nat) (vs : List Value), k ≤ C ∧ i = .int .i64 k ∧ ClsO wr w.heap.size v (clsL (alM R m) k) vs ∧ Below w.heap.size w wr) (fun _ i _ => C - (intOf i).toNat)
  case atStart => exact ⟨0, [], Nat.zero_le _, rfl, ClsO.nil _ _, Below.refl _ _⟩
  case round =>
    obtain ⟨wE, rfl⟩ : ∃ x : World, x = wr := ⟨_, rfl⟩
    obtain ⟨k, vs, hk, rfl, hcl, hbE⟩ := hrel
    obtain ⟨ad4, cap4, rfl, _⟩ := hcl.shape
    clear e0
    by_cases hlt : k < C
    case neg =>
      obtain rfl : k = C := by omega
      have HCL := Lib.hid hcl.rd
      clear hcl
      go_wp2_with fail
      go_ret
      exact ⟨_, _, rfl, HCL.out, hbE⟩
    case pos =>
      have hok := HOK.out k
      have HS := Lib.hid (HSU.out k)
      have hszE := hbE.size
      obtain ⟨L, hL⟩ : ∃ L, clsL (alM R m) k = L := ⟨_, rfl⟩
      rw [hL] at hcl hok HS ⊢
      have hLn := hok.len
      obtain ⟨nL, hnL⟩ : ∃ n, L.length = n := ⟨_, rfl⟩
      have HNL := Lib.hid hnL
      have HCL := Lib.hid hcl
      have HOKK := Lib.hid hok
      obtain ⟨S, hS⟩ : ∃ S, clsL (alM R m) (k + 1) = S := ⟨_, rfl⟩
      rw [hS] at HS
      have HSS := Lib.hid hS
      rw [hnL] at HCL hLn ⊢
      have x1 : (0 : Int) ≤ (k : Int) := by omega
      have x2 : (k : Int) < (C : Int) := by omega
      clear hcl hL hnL hok hS
      go_wp2_with fail
      go_loopw [5, 17] (fun f i wr => ∃ (j : Nat) (fb : Bool) (M : List (List Int)) (us : List Value), j ≤ nL ∧ i = .int .i64 j ∧ f = .bool fb ∧ M.length = nL ∧ ClsO wr w.heap.size (.slice ad4 nL cap4) M us ∧ Below w.heap.size w wr ∧ (fb = false → M = L ∧ ∀ t, t < j → alM R m (vx (L.getD t []) 0) k = false) ∧ (fb = true → M = S)) (fun _ i _ => nL - (intOf i).toNat)
      case atStart => exact ⟨0, false, L, vs, Nat.zero_le _, rfl, rfl, HNL.out, HCL.out, hbE, (fun _ => ⟨rfl, fun t ht => by omega⟩), (fun h => by cases h)⟩
      case round =>
        obtain ⟨wF, rfl⟩ : ∃ x : World, x = wr := ⟨_, rfl⟩
        obtain ⟨j, fb, M, us, hj, rfl, rfl, hMl, hclF, hbF, hf1, hf2⟩ := hrel
        have hszF := hbF.size
        have HML := Lib.hid hMl
        have HCF := Lib.hid hclF
        by_cases hlj : j < nL
        case neg =>
          obtain rfl : j = nL := by omega
          cases fb
          · obtain ⟨hML, hno⟩ := hf1 rfl
            subst hML
            have HNEW := Lib.hid (show clsL (alM R m) (k + 1) = M ++ [[(k : Int)]] by rw [HSS.out, HS.out]; exact clPut_end (fun t ht => hno t (by omega)))
            have HRO := Lib.hid (rowI_one wF w.heap.size wF.heap.size (k : Int) hszF rfl)
            have hb5 := bal_alloc (o := .cells #[.int .i64 (k : Int)] 3) (Below.refl wF.heap.size wF)
            have hb6 := ball hb5 (bal_alloc (o := .cells #[.slice (some ⟨wF.heap.size, 0, none⟩) 1 1] 23) (Below.refl _ _))
            have hs6 := hb6.size
            have HC6 := Lib.hid (HCF.out.below hb6)
            have HR6 := Lib.hid (HRO.out.below (bal_alloc (o := .cells #[.slice (some ⟨wF.heap.size, 0, none⟩) 1 1] 23) (Below.refl _ _)))
            have HLOW := Lib.hid HCF.out.low
            have HB9 := Lib.hid (hbF.trans (hb6.mono hszF))
            clear hf1 hf2 hclF hno hMl
            go_wp2_with (at_builtin; refine wpList_appC rfl _ _ rfl w.heap.size wF.heap.size (wF.heap.size + 1) (.slice ad4 j cap4) (.slice (some ⟨wF.heap.size, 0, none⟩) 1 1) M us [(k : Int)] (j + 1) (by rw [HML.out]) rfl (by simp [go_sem]) (by simp [go_sem]) HC6.out HR6.out (fun q hq => by cases hq; exact Nat.le_refl _) HLOW.out (by rw [HML.out]; omega) (by omega) ?_; intro ad5 cap5 w5 hcl5 hbm5)
            rw [← HNEW.out] at hcl5
            have HC5 := Lib.hid hcl5
            have hb10 := HB9.out.trans hbm5
            clear hcl5 hbm5
            go_wp2_with fail
            go_roundw
            case rel => exact ⟨k + 1, _, by omega, by go_num, HC5.out, hb10⟩
            case measure => simp [intOf]; omega
          · have hMS := hf2 rfl
            subst hMS
            clear hf1 hf2 hclF hMl
            go_wp2_with fail
            go_roundw
            case rel => exact ⟨k + 1, _, by omega, by go_num, by rw [HSS.out]; exact HCF.out, hbF⟩
            case measure => simp [intOf]; omega
        case pos =>
          obtain ⟨g4, aj, cj, rfl, hBg, hg4, e4, f4, hvj, hrj, hdj⟩ := hclF.at (i := j) (by rw [hMl]; exact hlj)
          have z1 : (0 : Int) ≤ (j : Int) := by omega
          have z2 : (j : Int) < (nL : Int) := by omega
          cases fb
          · obtain ⟨hML, hno⟩ := hf1 rfl
            subst hML
            have HNO := Lib.hid hno
            obtain ⟨l0, l1⟩ := HOKK.out.ne j (by rw [HNL.out]; exact hlj)
            obtain ⟨v0, v1⟩ := HOKK.out.fst j (by rw [HNL.out]; exact hlj)
            obtain ⟨ba, oa, rfl, hba, q0⟩ := hdj 0 l0
            rw [v0, Nat.add_zero] at q0
            have HPUT := Lib.hid (fun (h : alM R m (vx (M.getD j []) 0) k = true) => show S = M.set j (M.getD j [] ++ [(k : Int)]) by rw [HS.out]; exact clPut_at (by rw [HNL.out]; exact hlj) (fun t ht => HNO.out t ht) h)
            have HNX := Lib.hid (fun (h : alM R m (vx (M.getD j []) 0) k = false) t (ht : t < j + 1) => show alM R m (vx (M.getD t []) 0) k = false by
              by_cases e : t = j
              · rw [e]; exact h
              · exact HNO.out t (by omega))
            obtain ⟨c0, hc0⟩ : ∃ c, vx (M.getD j []) 0 = c := ⟨_, rfl⟩
            rw [hc0] at q0 v1 HPUT HNX
            have CD := CA.out c0 k (by omega) hlt wF hbF
            rw [show alkB R (fun t => m t c0) (fun t => m t k) = alM R m c0 k from rfl] at CD
            have HCD := Lib.hid CD
            obtain ⟨nj, hnj⟩ : ∃ n, (M.getD j []).length = n := ⟨_, rfl⟩
            rw [hnj] at e4 l0 l1
            have HNJ := Lib.hid hnj
            generalize alM R m c0 k = B at HCD HPUT HNX
            have z3 : (0 : Int) ≤ (c0 : Int) := by omega
            have z4 : (c0 : Int) < (C : Int) := by omega
            clear hc0 v0 hdj CD hrj hvj f4 hf1 hf2 hno hclF hMl hnj
            cases B
            · go_wp2_with fail
              refine HCD.out.mono ?_
              rintro e wG ⟨rfl, hbG⟩
              have HCG := Lib.hid (HCF.out.below hbG)
              have hbFG := ball hbF hbG
              go_wp2_with fail
              go_roundw
              case rel => exact ⟨j + 1, false, M, us, by omega, by go_num, rfl, HML.out, HCG.out, hbFG, (fun _ => ⟨rfl, HNX.out (by first | rfl | trivial)⟩), (fun h => by cases h)⟩
              case measure => simp [intOf]; omega
            · go_wp2_with fail
              refine HCD.out.mono ?_
              rintro e wG ⟨rfl, hbG⟩
              have hcG := HCF.out.below hbG
              have hbFG := ball hbF hbG
              have hszG := hbFG.size
              obtain ⟨g6, aj6, cj6, eg, hBg6, hg6, e6, f6, hvj6, hrj6, hdj6⟩ := hcG.at (i := j) (by rw [HML.out]; exact hlj)
              injection eg with eg
              injection eg with eg _ _
              subst eg
              have HPP := Lib.hid (fun (w' : World) (u : Value) (h1 : RowI w' w.heap.size u (M.getD j [] ++ [(k : Int)])) (h2 : (wG.alloc (.cells #[.int .i64 (k : Int)] 3)).grownBy w' (us.getD j undef).ownBlock) (h3 : u.ownBlock = (us.getD j undef).ownBlock ∨ u.ownBlock = some (wG.alloc (.cells #[.int .i64 (k : Int)] 3)).heap.size) => ClsO.put (hcG.below (bal_alloc (o := .cells #[.int .i64 (k : Int)] 3) (Below.refl _ _))) HML.out hlj h1 h2 h3)
              have hnel : ∀ wm, (wG.alloc (.cells #[.int .i64 (k : Int)] 3)).grownBy wm (us.getD j undef).ownBlock → wm.cell? ⟨g4, j, none⟩ = some (us.getD j undef) ∧ wm.frozen? ⟨g4, j, none⟩ = false := fun wm hg => by
                obtain ⟨_, _, e0, hso⟩ := hcG.shape
                injection e0 with e0 _ _
                obtain ⟨g', e1, _, ho⟩ := hso _ e0.symm
                injection e1 with e1 _ _
                subst e1
                have ho2 := (ho.alloc (.cells #[.int .i64 (k : Int)] 3)).grown hg (row_ne_ty (hcG.each j (by rw [HML.out]; exact hlj)) ho (by decide))
                exact ⟨ho2.cell? (by simp [List.getD, hcG.len, HML.out, hlj]), ho2.frozen j⟩
              have HNEL := Lib.hid hnel
              rw [HNJ.out] at e6 hrj6 hvj6
              have HRJ := Lib.hid hrj6
              have HVJ := Lib.hid hvj6
              have HBFG := Lib.hid hbFG
              clear hcG hdj6 hrj6 hvj6 hnel f6 e4 q0
              go_wp2_with (at_builtin; refine wpList_appT rfl _ _ rfl w.heap.size _ 0 1 (nj + 1) (.slice aj6 nj cj6) (M.getD j []) [(k : Int)] (by rw [HNJ.out]; rfl) (by omega) rfl rfl (RowI.alloc' HRJ.out) (rdI_one _ _ _ rfl) (by rw [HNJ.out]; omega) (by simp) (by simp; omega) ?_; intro g5 c5 wm hown hgr hbk hbm; obtain ⟨d1, d2⟩ := HNEL.out wm (by rw [HVJ.out]; exact hgr))
              have hput := HPP.out wm (.slice (some ⟨g5, 0, none⟩) (nj + 1) c5) hown (by rw [HVJ.out]; exact hgr) (by rw [HVJ.out]; exact hbk)
              rw [← HPUT.out (by first | rfl | trivial)] at hput
              have HC5 := Lib.hid hput
              have hb10 := ((HBFG.out.alloc hszG (.cells #[.int .i64 (k : Int)] 3)).trans hbm).setCell (p := ⟨g4, j, none⟩) hBg (.slice (some ⟨g5, 0, none⟩) (nj + 1) c5)
              have HLL := Lib.hid (show S.length = nL by rw [HPUT.out (by first | rfl | trivial), List.length_set]; exact HML.out)
              clear hput hown hgr hbk hbm
              go_wp2_with fail
              go_roundw
              case rel => exact ⟨j + 1, true, S, _, by omega, by go_num, rfl, HLL.out, HC5.out, hb10, (fun h => by cases h), (fun _ => rfl)⟩
              case measure => simp [intOf]; omega
          · have hMS := hf2 rfl
            have HMS := Lib.hid hMS
            clear hf1 hf2 hclF hMl hdj hrj hvj f4 hMS
            go_wp2_with fail
            go_roundw
            case rel => exact ⟨j + 1, true, M, us, by omega, by go_num, rfl, HML.out, HCF.out, hbF, (fun h => by cases h), (fun _ => HMS.out)⟩
            case measure => simp [intOf]; omega
end Go.Proofs.Ytnbenpalneodlaa
